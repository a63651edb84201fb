/- The walk of slices.Delete of one pair. -/
import Derived.Test.YtbnipbhkdodfpaaInsert
namespace Go.Proofs.Ytbnipbhkdodfpaa
open Go.RowKit

theorem zeroCells_one : (Builtin.zeroCells (Value.agg #[.slice none 0 0, .int .u64 0]).cells 1).toList = [.slice none 0 0, .int .u64 0] := by kernel_rfl

set_option maxHeartbeats 1000000 in
set_option maxRecDepth 100000 in
theorem delete_calls (base g n c i : Nat) (cs : List Value) (w : World) (ho : Own w base 40 2 (.slice (some ⟨g, 0, none⟩) n c) n cs) (hi : i < n) (hn : n ≤ 1048576) (hone : ∀ u ∈ cs, u.oneCell' = true) :
    Calls Try.prog 53 #[.slice (some ⟨g, 0, none⟩) n c, .int .i64 i, .int .i64 ((i : Int) + 1)] w fun e w' => ∃ v', e = .returned v' ∧ Own w' base 40 2 v' (n - 1) (cs.take (i * 2) ++ cs.drop (i * 2 + 2)) ∧ w.grownBy w' (some g) ∧ blk v' = some g := by
  obtain ⟨l1, A', c', he, hnc, hc, -, hh⟩ := id ho
  injection he with e1 _ e3
  subst e1; subst e3
  simp only [maxLen] at hc
  obtain ⟨g', cur, e1, hbg, hg, hcs, ht⟩ := hh (by omega)
  injection e1 with e1; injection e1 with e1; subst e1
  clear hh ho
  have hdl : (cs.drop (i * 2 + 2)).length = (n - (i + 1)) * 2 := by rw [List.length_drop, l1]; omega
  have hrow : ∀ j u, (cs.drop (i * 2 + 2))[j]? = some u → w.cell? ⟨g, (i + 1) * 2 + j, none⟩ = some u := fun j u hu => by
    refine cell_of_heap hg ?_
    rw [List.getElem?_drop, ← ht, List.getElem?_take] at hu
    split at hu
    · rw [show (i + 1) * 2 + j = i * 2 + 2 + j from by omega]; simpa using hu
    · cases hu
  have hap : ∀ ty o mc, (n - (i + 1) = 0 ∨ o = (i + 1) * 2) → (Builtin.append_ #[22, 22] ty #[.slice (some ⟨g, 0, none⟩) i c, .slice (some ⟨g, o, none⟩) (n - (i + 1)) mc]).run Try.prog w.drew = .ok (.slice (some ⟨g, 0, none⟩) (i + (n - (i + 1))) c) (w.drew.setRow g (spl cur.toList (0 + i * 2) (cs.drop (i * 2 + 2))).toArray) := fun ty o mc hor =>
    run_apx (P := Try.prog) (ty := ty) eP (w := w.drew) (g := g) (off := 0) (n := i) (c := c) (b := g) (o := o) (m := n - (i + 1)) (mc := mc) (news := cs.drop (i * 2 + 2)) (by exact hg) hdl
      (fun j u hu => by
        rcases hor with h0 | rfl
        · have : (cs.drop (i * 2 + 2)) = [] := List.eq_nil_of_length_eq_zero (by rw [hdl, h0])
          rw [this] at hu; simp at hu
        · exact hrow j u hu)
      (fun u hu => hone u (List.mem_of_mem_drop hu)) (by omega) (by rw [hdl, hcs]; omega)
  obtain ⟨W1, hW1⟩ : ∃ W1, W1 = w.drew.setRow g (spl cur.toList (0 + i * 2) (cs.drop (i * 2 + 2))).toArray := ⟨_, rfl⟩
  have hg1 : W1.heap[g]? = some (.cells (spl cur.toList (0 + i * 2) (cs.drop (i * 2 + 2))).toArray 40 (0, 0)) := by rw [hW1]; exact setRow_heap w.drew g cur _ _ _ hg
  have hk1 : w.grownBy W1 (some g) := by rw [hW1]; have h := setRow_chg (w := w.drew) (g := g) (spl cur.toList (0 + i * 2) (cs.drop (i * 2 + 2))).toArray; exact ⟨h.os, h.tape, h.output, h.size, h.block⟩
  rw [← hW1] at hap
  have hsl : (spl cur.toList (0 + i * 2) (cs.drop (i * 2 + 2))).length = c * 2 := by rw [spl_length (by rw [hdl, Array.length_toList, hcs]; omega), Array.length_toList, hcs]
  have hcl := fun ty dc => run_clr (P := Try.prog) (ty := ty) eP (w := W1) (g := g) (off := (i + (n - (i + 1))) * 2) (n := 1) (c := dc) hg1 (by rw [zeroCells_one]; simp [Value.oneCell']) (by omega) (by rw [List.size_toArray, hsl]; omega)
  rw [zeroCells_one] at hcl
  simp only [List.toList_toArray] at hcl
  have hN : i + (n - (i + 1)) = n - 1 := by omega
  rw [hN] at hap hcl
  have hnn : (n : Int) - ((n - 1 : Nat) : Int) = 1 := by omega
  have hq1 : ((n - 1 : Nat) : Int) ≤ (n : Int) := by omega
  have hq2 : n - (n - 1) = 1 := by omega
  have hi2 : (i : Int) ≤ (n : Int) := by omega
  have hi4 : (i : Int) ≤ (c : Int) := by omega
  have hi5 : (n : Int) ≤ (c : Int) := by omega
  have hi3 : (i : Int) + 1 ≤ (n : Int) := by omega
  have hb1 : (0 : Int) ≤ (i : Int) + 1 := by omega
  have hb4 : ¬ (c = i) := by omega
  have hb5 : ¬ (c = n - 1) := by omega
  have hz2 : ¬ ((i : Int) = (i : Int) + 1) := by omega
  have htn : ((i : Int) + 1).toNat = i + 1 := by omega
  have HN := Lib.hid hN
  clear hW1 hrow hN
  have fin : Own (W1.setRow g (spl (spl cur.toList (0 + i * 2) (cs.drop (i * 2 + 2))) ((n - 1) * 2) [.slice none 0 0, .int .u64 0]).toArray) base 40 2 (.slice (some ⟨g, 0, none⟩) (n - 1) c) (n - 1) (cs.take (i * 2) ++ cs.drop (i * 2 + 2)) ∧
      w.grownBy (W1.setRow g (spl (spl cur.toList (0 + i * 2) (cs.drop (i * 2 + 2))) ((n - 1) * 2) [.slice none 0 0, .int .u64 0]).toArray) (some g) ∧ blk (.slice (some ⟨g, 0, none⟩) (n - 1) c) = some g := by
    have hlen : (cs.take (i * 2) ++ cs.drop (i * 2 + 2)).length = (n - 1) * 2 := by simp [l1]; omega
    have e1 : spl cur.toList (0 + i * 2) (cs.drop (i * 2 + 2)) = (cs.take (i * 2) ++ cs.drop (i * 2 + 2)) ++ cur.toList.drop (i * 2 + (n - (i + 1)) * 2) := by
      unfold spl
      rw [hdl, Nat.zero_add, ← ht, List.take_take, Nat.min_eq_left (by omega)]
    have hE : (spl (spl cur.toList (0 + i * 2) (cs.drop (i * 2 + 2))) ((n - 1) * 2) [.slice none 0 0, .int .u64 0]).take ((n - 1) * 2) = cs.take (i * 2) ++ cs.drop (i * 2 + 2) := by
      rw [e1, spl_end _ _ _ _ hlen, List.append_assoc, List.take_left' hlen]
    refine ⟨⟨hlen, _, c, rfl, by omega, by simp only [maxLen]; omega, nofun, fun _ => ⟨g, _, rfl, hbg, setRow_heap W1 g _ _ _ _ hg1, ?_, ?_⟩⟩, hk1.trans (setRow_chg _), ?_⟩
    · rw [List.size_toArray, spl_length (by rw [hsl]; simp; omega), hsl]
    · rw [List.toList_toArray, hE]
    · obtain ⟨c', rfl⟩ : ∃ q, c = q + 1 := ⟨c - 1, by omega⟩
      rfl
  simp only [Nat.zero_add] at fin hcl
  clear hk1 hg1 hg ht hbg
  by_cases hci : c = i + 1
  · obtain rfl : n = i + 1 := by omega
    subst hci
    have hi6 : (i : Int) ≤ (i : Int) + 1 := by omega
    simp only [Nat.add_sub_cancel, Nat.sub_self] at hap hcl fin
    clear hi3 hi4 hi5 hnn hq1 hq2 hb4 hb5 hdl hsl HN
    go_enter Try.func53, Try.ntmps53
    go_wp2
    go_region_law (refine step_ap rfl _ _ 22 22 rfl (.slice (some ⟨g, 0, none⟩) i (i + 1)) (.slice (some ⟨g, 0, none⟩) 0 0) (by simp [Act.eval, Act.put]) (by simp [Act.eval, Act.put]) (fun ty => hap ty _ _ (.inl trivial)) ?_)
    go_wp2_with (at_builtin; refine wpl_clr rfl _ 22 rfl (.slice (some ⟨g, i * 2, none⟩) 1 1) rfl (fun ty => hcl ty _) ?_)
    go_ret
    exact ⟨_, rfl, fin⟩
  · go_enter Try.func53, Try.ntmps53
    go_wp2
    go_region_law (refine step_ap rfl _ _ 22 22 rfl (.slice (some ⟨g, 0, none⟩) i c) (.slice (some ⟨g, (i + 1) * 2, none⟩) (n - (i + 1)) (c - (i + 1))) (by simp [Act.eval, Act.put]) (by simp [Act.eval, Act.put]) (fun ty => hap ty _ _ (.inr rfl)) ?_)
    go_wp2_with (at_builtin; refine wpl_clr rfl _ 22 rfl (.slice (some ⟨g, (n - 1) * 2, none⟩) 1 (c - (n - 1))) rfl (fun ty => hcl ty _) ?_)
    go_ret
    exact ⟨_, rfl, fin⟩

end Go.Proofs.Ytbnipbhkdodfpaa
