/- The walk of slices.Insert at one pair where there is no room; slices.Delete of one pair. -/
import Derived.Test.YtbnipbhkdodfpaaInsert
namespace Go.Proofs.Ytbnipbhkdodfpaa
open Go.RowKit

set_option maxHeartbeats 1000000 in
set_option maxRecDepth 100000 in
theorem insert_grow (base g n vb i : Nat) (x0 x1 : Value) (cs : List Value) (w : World) (ho : Own w base 40 2 (.slice (some ⟨g, 0, none⟩) n n) n cs) (hi : i < n) (hn : n ≤ 1048576) (hb : base ≤ w.heap.size)
    (hv : w.heap[vb]? = some (.cells #[x0, x1] 40 (0, 0))) (h0 : x0.oneCell' = true) (h1 : x1.oneCell' = true) (hone : ∀ u ∈ cs, u.oneCell' = true) :
    Calls Try.prog 51 #[.slice (some ⟨g, 0, none⟩) n n, .int .i64 i, .slice (some ⟨vb, 0, none⟩) 1 1] w fun e w' => ∃ v', e = .returned v' ∧ Own w' base 40 2 v' (n + 1) (cs.take (i * 2) ++ [x0, x1] ++ cs.drop (i * 2)) ∧ New w w' ∧ blk v' = some w.heap.size := by
  obtain ⟨ii, hii, hz0, hzs, hzb⟩ := eP.info
  have l1 := ho.1
  have hcell : ∀ j u, cs[j]? = some u → w.cell? ⟨g, j, none⟩ = some u := fun j u hu => ho.cell hu
  have hgw : g < w.heap.size := World.block_lt_of_cell? w _ (hcell 0 _ (List.getElem?_eq_getElem (by omega)))
  have hvw : vb < w.heap.size := (Array.getElem?_eq_some_iff.1 hv).1
  have hdl : (cs.drop (i * 2)).length = (n - i) * 2 := by rw [List.length_drop, l1]; omega
  have hkk : (n : Int) + 1 - (i : Int) = ((n + 1 - i : Nat) : Int) := by omega
  have hik : i + (n + 1 - i) = n + 1 := by omega
  have hold : (Builtin.firstCells ii.size i (.slice (some ⟨g, 0, none⟩) i n)).run Try.prog w.drew = .ok (cs.take (i * 2)).toArray w.drew := by
    rw [hzs]
    exact run_firstCells_some w.drew 2 i ⟨g, 0, none⟩ i n (cs.take (i * 2)) (by rw [List.length_take]; omega) (fun j v hj => by
      rw [addr_add, Nat.zero_add]
      rw [List.getElem?_take] at hj
      split at hj
      · exact hcell j v hj
      · cases hj)
  obtain ⟨G, hG⟩ : ∃ G, G = grownCap w (n + 1) n 40 := ⟨_, rfl⟩
  have hGn : n + 1 ≤ G := by rw [hG]; exact grownCap_ge w _ _ _
  have hG63 : G ≤ 9223372036854775807 := by
    have := grownCap_le_maxLen w (n + 1) n 40 (by unfold maxLen; omega)
    rw [← hG] at this
    unfold maxLen at this
    omega
  obtain ⟨ROW, hROW⟩ : ∃ ROW : List Value, ROW.toArray = (cs.take (i * 2)).toArray ++ Builtin.zeroCells (Value.agg #[.slice none 0 0, .int .u64 0]).cells (n + 1 - i) ++ Builtin.zeroCells (Value.agg #[.slice none 0 0, .int .u64 0]).cells (G - (n + 1)) := ⟨((cs.take (i * 2)).toArray ++ Builtin.zeroCells (Value.agg #[.slice none 0 0, .int .u64 0]).cells (n + 1 - i) ++ Builtin.zeroCells (Value.agg #[.slice none 0 0, .int .u64 0]).cells (G - (n + 1))).toList, by simp⟩
  have hRl : ROW.length = G * 2 := by
    have := congrArg Array.size hROW
    simp only [List.size_toArray, Array.size_append, size_zeroCells, List.length_take, l1, Value.cells] at this
    simp at this
    omega
  have hRt : ROW.take (i * 2) = cs.take (i * 2) := by
    have := congrArg Array.toList hROW
    simp only [List.toList_toArray, Array.toList_append, List.append_assoc] at this
    have hl : (cs.take (i * 2)).length = i * 2 := by rw [List.length_take, l1]; omega
    rw [this]
    exact List.take_left' hl
  have hrz : ∀ ty, (Builtin.append_ #[22, 3] ty #[.slice (some ⟨g, 0, none⟩) i n, .int .i64 ((n : Int) + 1 - (i : Int))]).run Try.prog w =
      .ok (.slice (some ⟨w.heap.size, 0, none⟩) (n + 1) G) (w.drew.alloc (.cells ROW.toArray 40)) := fun ty => by
    have h := Lib.run_append_grow_zeros w 22 3 ty 40 ii _ .i64 .i64 Try.underlying22 Try.underlying3 hii hz0 (some ⟨g, 0, none⟩) i n (cs.take (i * 2)) hold (n + 1 - i) (by omega) (by omega) (by omega) (by omega) (by rw [hzb]; omega) (by rw [hzb, hik]; exact growslice_fits (by omega) (by omega))
    rw [hik] at h
    rw [hkk, hROW, hG]
    exact h
  obtain ⟨W1, hW1⟩ : ∃ W1, W1 = w.drew.alloc (.cells ROW.toArray 40) := ⟨_, rfl⟩
  have hg1 : W1.heap[w.heap.size]? = some (.cells ROW.toArray 40 (0, 0)) := by rw [hW1]; exact heap_alloc_new w.drew _
  have hn1 : New w W1 := by rw [hW1]; exact (New.refl w).dr.al _
  have hz1 : W1.heap.size = w.heap.size + 1 := by rw [hW1]; simp
  rw [← hW1] at hrz
  have hv1 := hn1.hb hv
  have hcpA := fun ty dc => run_cp (P := Try.prog) (ty := ty) eP (w := W1) (g := w.heap.size) (off := i * 2) (dLen := n + 1 - i) (dCap := dc) (b := vb) (o := 0) (sLen := 1) (sCap := 1) (n := 1) (news := [x0, x1]) hg1 (by simp only [Nat.min_def]; split <;> omega) rfl
    (fun j u hu => by rw [Nat.zero_add]; exact cell_of_heap hv1 (by simpa using hu)) (by simp [h0, h1]) (by rw [List.size_toArray, hRl]; simp; omega)
  simp only [List.toList_toArray] at hcpA
  obtain ⟨W2, hW2⟩ : ∃ W2, W2 = W1.setRow w.heap.size (spl ROW (i * 2) [x0, x1]).toArray := ⟨_, rfl⟩
  have hg2 : W2.heap[w.heap.size]? = some (.cells (spl ROW (i * 2) [x0, x1]).toArray 40 (0, 0)) := by rw [hW2]; exact setRow_heap W1 _ _ _ _ _ hg1
  have hn2 : New w W2 := by
    have hg : W1.grownBy W2 (some w.heap.size) := by rw [hW2]; exact setRow_chg _
    exact Below.grown hn1 hg (by omega) (fun k hk => by cases hk; exact Nat.le_refl _)
  rw [← hW2] at hcpA
  have hsl : (spl ROW (i * 2) [x0, x1]).length = G * 2 := by rw [spl_length (by rw [hRl]; simp; omega), hRl]
  have hcell2 : ∀ j u, (cs.drop (i * 2))[j]? = some u → W2.cell? ⟨g, i * 2 + j, none⟩ = some u := fun j u hu => hn2.c (hcell _ _ (by rwa [List.getElem?_drop] at hu))
  have hcpB := fun ty dc sc => run_cp (P := Try.prog) (ty := ty) eP (w := W2.drew) (g := w.heap.size) (off := (i + 1) * 2) (dLen := n + 1 - (i + 1)) (dCap := dc) (b := g) (o := i * 2) (sLen := n - i) (sCap := sc) (n := n - i) (news := cs.drop (i * 2)) (by exact hg2) (by simp only [Nat.min_def]; split <;> omega) hdl
    hcell2 (fun u hu => hone u (List.mem_of_mem_drop hu)) (by rw [hdl, List.size_toArray, hsl]; omega)
  simp only [List.toList_toArray] at hcpB
  have hw1 : IntKind.i64.wrap ((i : Int) + 1) = (i : Int) + 1 := by rw [IntKind.wrap_i64]; omega
  have hi2 : (i : Int) ≤ (n : Int) := by omega
  have hb1 : (0 : Int) ≤ (i : Int) + 1 := by omega
  have hb3 : (i : Int) ≤ (n : Int) + 1 := by omega
  have hb4 : ¬ (n = i) := by omega
  have hb5 : ¬ (G = i) := by omega
  have hb6 : ¬ (G = i + 1) := by omega
  have hz2 : ¬ ((i : Int) = (n : Int)) := by omega
  have htn : ((i : Int) + 1).toNat = i + 1 := by omega
  have Hz := Lib.hid hz1
  clear hkk hik hold hROW hG hcell hcell2 hii hz0 hzs hzb hz1 hW1 hW2 ho
  go_enter Try.func51, Try.ntmps51
  go_wp2_with (first
    | (at_builtin; refine wpl_app rfl _ _ 22 3 rfl (.slice (some ⟨g, 0, none⟩) i n) (.int .i64 ((n : Int) + 1 - (i : Int))) rfl rfl hrz ?_)
    | (at_builtin; refine wpl_cp rfl _ _ 22 22 rfl (.slice (some ⟨w.heap.size, i * 2, none⟩) (n + 1 - i) (G - i)) (.slice (some ⟨vb, 0, none⟩) 1 1) rfl rfl (fun ty => hcpA ty _) ?_))
  go_region_law (refine step_cp rfl _ _ 22 22 rfl (.slice (some ⟨w.heap.size, (i + 1) * 2, none⟩) (n + 1 - (i + 1)) (G - (i + 1))) (.slice (some ⟨g, i * 2, none⟩) (n - i) (n - i)) (by simp [Act.eval, Act.put]) (by simp [Act.eval, Act.put]) (fun ty => hcpB ty _ _) ?_)
  go_wp2
  go_ret
  have hE : spl (spl ROW (i * 2) [x0, x1]) ((i + 1) * 2) (cs.drop (i * 2)) = (cs.take (i * 2) ++ [x0, x1] ++ cs.drop (i * 2)) ++ ROW.drop (n * 2 + 2) := by
    have e1 : spl ROW (i * 2) [x0, x1] = (cs.take (i * 2) ++ [x0, x1]) ++ ROW.drop (i * 2 + 2) := by unfold spl; rw [hRt]; rfl
    have hl : (cs.take (i * 2) ++ [x0, x1]).length = (i + 1) * 2 := by simp [l1]; omega
    rw [e1, spl_end _ _ _ _ hl, hdl, List.drop_drop]
    congr 2
    omega
  have hlen : (cs.take (i * 2) ++ [x0, x1] ++ cs.drop (i * 2)).length = (n + 1) * 2 := by simp [l1]; omega
  have hh := setRow_heap W2.drew w.heap.size _ (spl (spl ROW (i * 2) [x0, x1]) ((i + 1) * 2) (cs.drop (i * 2))).toArray _ _ hg2
  have hk2 : W2.drew.grownBy (W2.drew.setRow w.heap.size (spl (spl ROW (i * 2) [x0, x1]) ((i + 1) * 2) (cs.drop (i * 2))).toArray) (some w.heap.size) := setRow_chg _
  have hz2 : w.heap.size ≤ W2.drew.heap.size := hn2.size
  refine ⟨_, rfl, ⟨hlen, _, G, rfl, hGn, by simpa [maxLen] using hG63, nofun, fun _ => ⟨w.heap.size, _, rfl, hb, hh, ?_, ?_⟩⟩, Below.grown hn2.dr hk2 hz2 (fun k hk => by cases hk; exact Nat.le_refl _), ?_⟩
  · rw [List.size_toArray, spl_length (by rw [hsl, hdl]; omega), hsl]
  · rw [List.toList_toArray, hE, ← hlen, List.take_left]
  · obtain ⟨c', rfl⟩ : ∃ q, G = q + 1 := ⟨G - 1, by omega⟩
    rfl

end Go.Proofs.Ytbnipbhkdodfpaa
