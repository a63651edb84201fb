/- The walk of slices.Insert at one pair, and of slices.Delete of one pair. -/
import Derived.Test.YtbnipbhkdodfpaaSlices
import Derived.Test.YtbnipbhkdodfpaaKeys
namespace Go.Proofs.Ytbnipbhkdodfpaa
open Go.RowKit

set_option maxHeartbeats 1000000 in
set_option maxRecDepth 100000 in
theorem insert_end (base : Nat) (A : Option Addr) (n c vb : Nat) (x0 x1 : Value) (cs : List Value) (w : World) (ho : Own w base 40 2 (.slice A n c) n cs) (hb : base ≤ w.heap.size) (hn : n ≤ 1048576)
    (hv : w.heap[vb]? = some (.cells #[x0, x1] 40 (0, 0))) (h0 : x0.oneCell' = true) (h1 : x1.oneCell' = true) :
    Calls Try.prog 51 #[.slice A n c, .int .i64 n, .slice (some ⟨vb, 0, none⟩) 1 1] w fun e w' => ∃ v', e = .returned v' ∧ Own w' base 40 2 v' (n + 1) (cs ++ [x0, x1]) ∧ w.grownBy w' (blk (.slice A n c)) ∧ (blk v' = blk (.slice A n c) ∨ blk v' = some w.heap.size) := by
  obtain ⟨A', c', he, hnc, hc, -⟩ := id ho.2
  have hsrc : Src w 2 (.slice (some ⟨vb, 0, none⟩) 1 1) 1 [x0, x1] := ⟨rfl, by simp [h0, h1], _, 1, rfl, fun _ => ⟨vb, 0, rfl, fun j u hu => cell_of_heap hv (by simpa using hu)⟩⟩
  injection he with q1 _ q3
  subst q1; subst q3
  simp only [maxLen] at hc
  have Ho := Lib.hid ho
  clear ho hv
  by_cases hcn : n = c
  · subst hcn
    cases A with
    | none =>
      go_enter Try.func51, Try.ntmps51
      go_wp2_with (at_builtin; refine wp_app (base := base) rfl _ _ rfl eP (.slice none n n) (.slice (some ⟨vb, 0, none⟩) 1 1) rfl rfl n 1 cs [x0, x1] Ho.out hsrc (by omega) hb ?_; intro v' w1 hown hg hat)
      all_goals
        go_ret
        exact ⟨_, rfl, hown, hg, hat⟩
    | some a =>
      obtain ⟨ab, ao, asp⟩ := a
      go_enter Try.func51, Try.ntmps51
      go_wp2_with (at_builtin; refine wp_app (base := base) rfl _ _ rfl eP (.slice (some ⟨ab, ao, asp⟩) n n) (.slice (some ⟨vb, 0, none⟩) 1 1) rfl rfl n 1 cs [x0, x1] Ho.out hsrc (by omega) hb ?_; intro v' w1 hown hg hat)
      all_goals
        go_ret
        exact ⟨_, rfl, hown, hg, hat⟩
  · have hcn' : ¬ c = n := fun h => hcn h.symm
    clear hcn
    cases A with
    | none =>
      go_enter Try.func51, Try.ntmps51
      go_wp2_with (at_builtin; refine wp_app (base := base) rfl _ _ rfl eP (.slice none n c) (.slice (some ⟨vb, 0, none⟩) 1 1) rfl rfl n 1 cs [x0, x1] Ho.out hsrc (by omega) hb ?_; intro v' w1 hown hg hat)
      all_goals
        go_ret
        exact ⟨_, rfl, hown, hg, hat⟩
    | some a =>
      obtain ⟨ab, ao, asp⟩ := a
      go_enter Try.func51, Try.ntmps51
      go_wp2_with (at_builtin; refine wp_app (base := base) rfl _ _ rfl eP (.slice (some ⟨ab, ao, asp⟩) n c) (.slice (some ⟨vb, 0, none⟩) 1 1) rfl rfl n 1 cs [x0, x1] Ho.out hsrc (by omega) hb ?_; intro v' w1 hown hg hat)
      all_goals
        go_ret
        exact ⟨_, rfl, hown, hg, hat⟩

set_option maxHeartbeats 1000000 in
set_option maxRecDepth 100000 in
theorem insert_shift (base g n c vb i : Nat) (x0 x1 : Value) (cs : List Value) (w : World) (ho : Own w base 40 2 (.slice (some ⟨g, 0, none⟩) n c) n cs) (hi : i < n) (hn : n ≤ 1048576) (hroom : n + 1 ≤ c) (hne : vb ≠ g)
    (hv : w.heap[vb]? = some (.cells #[x0, x1] 40 (0, 0))) (h0 : x0.oneCell' = true) (h1 : x1.oneCell' = true) (hone : ∀ u ∈ cs, u.oneCell' = true) :
    Calls Try.prog 51 #[.slice (some ⟨g, 0, none⟩) n c, .int .i64 i, .slice (some ⟨vb, 0, none⟩) 1 1] w fun e w' => ∃ v', e = .returned v' ∧ Own w' base 40 2 v' (n + 1) (cs.take (i * 2) ++ [x0, x1] ++ cs.drop (i * 2)) ∧ w.grownBy w' (some g) ∧ blk v' = some g := by
  obtain ⟨l1, A', c', he, hnc, hc, -, hh⟩ := id ho
  injection he with e1 _ e3
  subst e1; subst e3
  simp only [maxLen] at hc
  obtain ⟨g', cur, e1, hbg, hg, hcs, ht⟩ := hh (by omega)
  injection e1 with e1; injection e1 with e1; subst e1
  clear hh ho
  have hdl : (cs.drop (i * 2)).length = (n - i) * 2 := by rw [List.length_drop, l1]; omega
  have hrow : ∀ j u, (cs.drop (i * 2))[j]? = some u → w.cell? ⟨g, i * 2 + j, none⟩ = some u := fun j u hu => by
    refine cell_of_heap hg ?_
    rw [List.getElem?_drop, ← ht, List.getElem?_take] at hu
    split at hu
    · simpa using hu
    · cases hu
  have hcp1 := fun ty dc sc => run_cp (P := Try.prog) (ty := ty) eP (w := w.drew) (g := g) (off := (i + 1) * 2) (dLen := n + 1 - (i + 1)) (dCap := dc) (b := g) (o := i * 2) (sLen := n + 1 - i) (sCap := sc) (n := n - i) (news := cs.drop (i * 2)) (by exact hg) (by simp only [Nat.min_def]; split <;> omega) hdl hrow (fun u hu => hone u (List.mem_of_mem_drop hu)) (by rw [hdl, hcs]; omega)
  have hov : ∀ lb cb, (callFunc 66 #[.slice (some ⟨vb, 0, none⟩) 1 1, .slice (some ⟨g, (i + 1) * 2, none⟩) lb cb]).run Try.prog w = .ok (.value (.bool false)) w := fun lb cb => by
    rw [run_callFunc_extern Try.func66 (by kernel_rfl) (by kernel_rfl) (by kernel_rfl) (e := Extern.SlicesOverlaps.overlaps #[22, 22] #[4]) (by kernel_rfl),
      Lib.run_overlaps_apart w 22 4 40 Try.underlying22 2 (fun w => by kernel_rfl) ⟨vb, 0, none⟩ ⟨g, (i + 1) * 2, none⟩ 1 1 lb cb hne 40 40 2 cur.size (by simp [World.shape?, hv]) (by simp [World.shape?, hg]) (by rw [hcs]; omega) (by simp [World.frozen?, hv]) (by simp [World.frozen?, hv])]
    rfl
  obtain ⟨W1, hW1⟩ : ∃ W1, W1 = w.drew.setRow g (spl cur.toList ((i + 1) * 2) (cs.drop (i * 2))).toArray := ⟨_, rfl⟩
  have hg1 : W1.heap[g]? = some (.cells (spl cur.toList ((i + 1) * 2) (cs.drop (i * 2))).toArray 40 (0, 0)) := by rw [hW1]; exact setRow_heap w.drew g cur _ _ _ hg
  have hv1 : W1.heap[vb]? = some (.cells #[x0, x1] 40 (0, 0)) := by rw [hW1, setRow_other _ _ _ _ hne]; exact hv
  have hk1 : w.grownBy W1 (some g) := by rw [hW1]; have h := setRow_chg (w := w.drew) (g := g) (spl cur.toList ((i + 1) * 2) (cs.drop (i * 2))).toArray; exact ⟨h.os, h.tape, h.output, h.size, h.block⟩
  rw [← hW1] at hcp1
  have hsl : (spl cur.toList ((i + 1) * 2) (cs.drop (i * 2))).length = c * 2 := by rw [spl_length (by rw [hdl, Array.length_toList, hcs]; omega), Array.length_toList, hcs]
  have hcp2 := fun ty dc => run_cp (P := Try.prog) (ty := ty) eP (w := W1) (g := g) (off := i * 2) (dLen := n + 1 - i) (dCap := dc) (b := vb) (o := 0) (sLen := 1) (sCap := 1) (n := 1) (news := [x0, x1]) hg1 (by simp only [Nat.min_def]; split <;> omega) rfl
    (fun j u hu => by rw [Nat.zero_add]; exact cell_of_heap hv1 (by simpa using hu)) (by simp [h0, h1]) (by rw [List.size_toArray, hsl]; simp; omega)
  have hw1 : IntKind.i64.wrap ((i : Int) + 1) = (i : Int) + 1 := by rw [IntKind.wrap_i64]; omega
  have hi2 : (i : Int) ≤ (n : Int) := by omega
  have hb1 : (0 : Int) ≤ (i : Int) + 1 := by omega
  have hb3 : (i : Int) ≤ (n : Int) + 1 := by omega
  have hb2 : ¬ (c = i + 1) := by omega
  have hb4 : ¬ (c = i) := by omega
  have hz2 : ¬ ((i : Int) = (n : Int)) := by omega
  have htn : ((i : Int) + 1).toNat = i + 1 := by omega
  clear hW1 hrow
  go_enter Try.func51, Try.ntmps51
  go_wp2_with (simp only [hov])
  go_region_law (refine step_cp rfl _ _ 22 22 rfl (.slice (some ⟨g, (i + 1) * 2, none⟩) (n + 1 - (i + 1)) (c - (i + 1))) (.slice (some ⟨g, i * 2, none⟩) (n + 1 - i) (c - i)) (by simp [Act.eval, Act.put]) (by simp [Act.eval, Act.put]) (fun ty => hcp1 ty _ _) ?_)
  go_wp2_with (at_builtin; refine wpl_cp rfl _ _ 22 22 rfl (.slice (some ⟨g, i * 2, none⟩) (n + 1 - i) (c - i)) (.slice (some ⟨vb, 0, none⟩) 1 1) rfl rfl (fun ty => hcp2 ty _) ?_)
  go_ret
  have hE : spl (spl cur.toList ((i + 1) * 2) (cs.drop (i * 2))) (i * 2) [x0, x1] = (cs.take (i * 2) ++ [x0, x1] ++ cs.drop (i * 2)) ++ cur.toList.drop (n * 2 + 2) := by
    have := spl_ins cur.toList cs [x0, x1] (i * 2) (n * 2) (by omega) ht (by simp [hcs]; omega)
    simpa [show (i + 1) * 2 = i * 2 + 2 from by omega] using this
  have hlen : (cs.take (i * 2) ++ [x0, x1] ++ cs.drop (i * 2)).length = (n + 1) * 2 := by simp [l1]; omega
  have hh := setRow_heap W1 g _ (spl (spl cur.toList ((i + 1) * 2) (cs.drop (i * 2))) (i * 2) [x0, x1]).toArray _ _ hg1
  have hk2 : W1.grownBy (W1.setRow g (spl (spl cur.toList ((i + 1) * 2) (cs.drop (i * 2))) (i * 2) [x0, x1]).toArray) (some g) := setRow_chg _
  refine ⟨_, rfl, ⟨hlen, _, c, rfl, hroom, by simp only [maxLen]; omega, nofun, fun _ => ⟨g, _, rfl, hbg, hh, ?_, ?_⟩⟩, hk1.trans hk2, ?_⟩
  · rw [List.size_toArray, spl_length (by rw [hsl]; simp; omega), hsl]
  · rw [List.toList_toArray, hE, ← hlen, List.take_left]
  · obtain ⟨c', rfl⟩ : ∃ q, c = q + 1 := ⟨c - 1, by omega⟩
    rfl

end Go.Proofs.Ytbnipbhkdodfpaa
