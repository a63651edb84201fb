/- The walks of package key: each function once. -/
import Derived.Test.YtbnipbhkdodfpaaMem
import Derived.Test.YtbnipbhkdodfpaaProg
import Derived.Deep.LoopGhost
import Derived.Deep.QuietTactic
import Derived.BigQuiet
import Derived.Deep.DeepCutAuto
import Derived.Deep.RegionWith
import Derived.Lib.Bytealg
namespace Go.Proofs.Ytbnipbhkdodfpaa
open Go.RowKit

set_option maxHeartbeats 400000 in
theorem may_calls (A : Option Addr) (n c : Nat) (w : World) : Calls Try.prog 29 #[.slice A n c] w fun e w' => e = .returned (.bool (decide ((n : Int) ≤ 65535))) ∧ w' = w := by
  go_enter Try.func29, Try.ntmps29
  go_wp2
  go_ret
  exact ⟨rfl, rfl⟩

set_option maxHeartbeats 400000 in
theorem common_calls (G H : Nat → Prop) (v u : Value) (a b : Key) (w : World) (ha : BytesAt w G v a) (hb : BytesAt w H u b) :
    Calls Try.prog 28 #[v, u] w fun e w' => e = .returned (.int .i64 (lcp a b)) ∧ New w w' := by
  obtain ⟨A, c, rfl, h1, h2, h3⟩ := id ha
  obtain ⟨A', c', rfl, k1, k2, k3⟩ := id hb
  go_enter Try.func28, Try.ntmps28
  go_wp2
  have H := Lib.hid ha
  have K := Lib.hid hb
  clear ha hb h3 k3
  go_loopw [5] (fun n wr => ∃ i : Nat, i ≤ a.length ∧ i ≤ b.length ∧ n = .int .i64 i ∧ lcp a b = i + lcp (a.drop i) (b.drop i) ∧ New w wr) (fun n _ => a.length - (intOf n).toNat)
  case atStart => exact ⟨0, by omega, by omega, rfl, by simp, New.refl w⟩
  case round =>
    obtain ⟨i, hi, hj, rfl, hl, hn⟩ := hrel
    have Hl := Lib.hid hl
    clear hl
    by_cases hA : i < a.length
    · by_cases hB : i < b.length
      · obtain ⟨b1, o1, rfl, c1⟩ := (H.out.new hn).at_ hA
        obtain ⟨b2, o2, rfl, c2⟩ := (K.out.new hn).at_ hB
        have Hy := Lib.hid (lcp_drop_yes hA hB)
        have Hn := Lib.hid (lcp_drop_no hA hB)
        go_wp2
        go_quiet (fail)
        go_wp2
        · rename_i he
          exact ⟨⟨i + 1, by omega, by omega, by go_num, by rw [Hl.out, Hy.out (u8_yes he)]; omega, hn.drN _⟩, by simp [intOf]; omega⟩
        · rename_i he
          go_ret
          exact ⟨by rw [Hl.out, Hn.out (u8_no he)]; simp, hn.drN _⟩
      · have Hz := Lib.hid (lcp_drop_end (a := a) (b := b) (i := i) (.inr (by omega)))
        have hd : decide ((i : Int) < (b.length : Int)) = false := by simp; omega
        go_wp2
        go_quiet (fail)
        go_wp2
        go_ret
        exact ⟨by rw [Hl.out, Hz.out]; simp, hn.drN _⟩
    · have Hz := Lib.hid (lcp_drop_end (a := a) (b := b) (i := i) (.inl (by omega)))
      have hd : decide ((i : Int) < (a.length : Int)) = false := by simp; omega
      go_wp2
      go_quiet (fail)
      go_wp2
      go_ret
      exact ⟨by rw [Hl.out, Hz.out]; simp, hn.drN _⟩

theorem run_bacompare {G H : Nat → Prop} {v u : Value} {a b : Key} {w : World} (ha : BytesAt w G v a) (hb : BytesAt w H u b) :
    (callFunc 82 #[v, u]).run Try.prog w = .ok (.value (.int .i64 (kcmp a b))) w := by
  rw [run_callFunc_extern Try.func82 (by kernel_rfl) (by kernel_rfl) (by kernel_rfl) (by kernel_rfl : Extern.find _ = some Extern.BytealgCompare.compare), run_compare ha hb]
  rfl

set_option maxHeartbeats 400000 in
theorem bcompare_calls (G H : Nat → Prop) (v u : Value) (a b : Key) (w : World) (ha : BytesAt w G v a) (hb : BytesAt w H u b) :
    Calls Try.prog 78 #[v, u] w fun e w' => e = .returned (.int .i64 (kcmp a b)) ∧ w' = w := by
  have hc := run_bacompare ha hb
  clear ha hb
  go_enter Try.func78, Try.ntmps78
  go_wp2
  go_ret
  exact ⟨rfl, rfl⟩

set_option maxHeartbeats 400000 in
theorem compare_calls (G H : Nat → Prop) (v u : Value) (a b : Key) (w : World) (ha : BytesAt w G v a) (hb : BytesAt w H u b) :
    Calls Try.prog 63 #[v, u] w fun e w' => e = .returned (.int .i64 (kcmp a b)) ∧ w' = w := by
  go_enter Try.func63, Try.ntmps63
  go_wp2_with (go_at_call 78; refine (bcompare_calls _ _ _ _ a b _ ha hb).mono ?_; rintro e w' ⟨rfl, rfl⟩)
  go_ret
  exact ⟨rfl, rfl⟩

set_option maxHeartbeats 400000 in
theorem bequal_calls (G H : Nat → Prop) (v u : Value) (a b : Key) (w : World) (ha : BytesAt w G v a) (hb : BytesAt w H u b) :
    Calls Try.prog 81 #[v, u] w fun e w' => e = .returned (.bool (a == b)) ∧ w' = w := by
  have ka := ha.str (P := Try.prog) Try.underlying38 Try.underlying5 Try.underlying9
  have kb := hb.str (P := Try.prog) Try.underlying38 Try.underlying5 Try.underlying9
  clear ha hb
  go_enter Try.func81, Try.ntmps81
  go_wp2
  go_ret
  exact ⟨rfl, rfl⟩

set_option maxHeartbeats 400000 in
theorem hasprefix_calls (G H : Nat → Prop) (v u : Value) (k p : Key) (w : World) (ha : BytesAt w G v k) (hb : BytesAt w H u p) :
    Calls Try.prog 77 #[v, u] w fun e w' => e = .returned (.bool (begins k p)) ∧ w' = w := by
  obtain ⟨A, c, rfl, h1, h2, h3⟩ := id ha
  obtain ⟨A', c', rfl, k1, k2, k3⟩ := id hb
  clear h3 k3
  by_cases hl : p.length ≤ k.length
  · have ht := ha.take hl
    go_enter Try.func77, Try.ntmps77
    go_wp2_with (go_at_call 81; refine (bequal_calls _ _ _ _ (k.take p.length) p _ ht hb).mono ?_; rintro e w' ⟨rfl, rfl⟩)
    go_ret
    exact ⟨by simp [begins, hl], rfl⟩
  · go_enter Try.func77, Try.ntmps77
    go_wp2
    go_ret
    exact ⟨by simp [begins, hl], rfl⟩

set_option maxHeartbeats 400000 in
theorem begins_calls (G H : Nat → Prop) (v u : Value) (k p : Key) (w : World) (ha : BytesAt w G v k) (hb : BytesAt w H u p) :
    Calls Try.prog 61 #[v, u] w fun e w' => e = .returned (.bool (begins k p)) ∧ w' = w := by
  go_enter Try.func61, Try.ntmps61
  go_wp2_with (go_at_call 77; refine (hasprefix_calls _ _ _ _ k p _ ha hb).mono ?_; rintro e w' ⟨rfl, rfl⟩)
  go_ret
  exact ⟨rfl, rfl⟩

theorem elemT {t e : TypeId} {z : Value} {size bytes : Nat} (h1 : Try.prog.underlying t = some (.slice e)) (h2 : (Try.prog.info? e).map (fun i => (i.zero, i.size, i.bytes)) = some (some z, size, bytes))
    (h3 : z.cells.size = size) (h4 : 0 < size) (h5 : 0 < bytes) : ElemT Try.prog t e z size bytes := by
  obtain ⟨i, hi, a, b, c⟩ := info_parts h2
  exact ⟨h1, ⟨i, hi, a, b, c⟩, h3, h4, h5⟩
theorem eB : ElemT Try.prog 38 5 (.int .u8 0) 1 1 := elemT Try.underlying38 (by kernel_rfl) rfl (by decide) (by decide)
theorem eP : ElemT Try.prog 22 40 (.agg #[.slice none 0 0, .int .u64 0]) 2 32 := elemT Try.underlying22 (by kernel_rfl) rfl (by decide) (by decide)

theorem eqs_nil (w : World) (A : Option Addr) (n c n' c' : Nat) : (binOp .eql 38 (.slice A n c) (.slice none n' c')).run Try.prog w = .ok (.bool A.isNone) w :=
  Lib.run_eql_slice_nil w _ _ _ _ _ _ _ Try.underlying38

set_option maxHeartbeats 400000 in
theorem clone_calls (G : Nat → Prop) (v : Value) (k : Key) (w : World) (ha : BytesAt w G v k) (hl : k.length ≤ 140737488355328) :
    Calls Try.prog 52 #[v] w fun e w' => ∃ v', e = .returned v' ∧ New w w' ∧ OwnBytes w' w.heap.size v' k := by
  obtain ⟨A, c, rfl, h1, h2, h3⟩ := id ha
  have hsrc := Lib.hid ha.src
  have hnil := eqs_nil
  cases A with
  | none =>
    have hk : k = [] := by
      rcases Nat.eq_zero_or_pos k.length with h | h
      · exact List.eq_nil_of_length_eq_zero h
      · obtain ⟨b, off, h, _⟩ := h3 h; cases h
    subst hk
    clear ha h3 hsrc
    go_enter Try.func52, Try.ntmps52
    go_wp2
    go_ret
    exact ⟨_, rfl, New.refl w, Own.nil _ _ _ _⟩
  | some ad =>
    clear ha h3
    go_enter Try.func52, Try.ntmps52
    go_wp2_with (at_builtin; refine wp_app (base := w.heap.size) rfl _ _ rfl eB (.slice (some ⟨w.heap.size, 0, none⟩) 0 0) (.slice (some ad) k.length c) rfl rfl 0 k.length [] (cells8 k) (Own.empty _ _ _ _ _) (hsrc.out.keep ((New.refl w).al _)) (by omega) (by simp) ?_; intro v' w1 hown hg hat)
    go_ret
    refine ⟨v', rfl, ((New.refl w).al _).tr (Chg.new ((Chg.grown hg).mono fun b _ h => ?_)), ?_⟩
    · cases h
    · simpa [OwnBytes] using hown

end Go.Proofs.Ytbnipbhkdodfpaa