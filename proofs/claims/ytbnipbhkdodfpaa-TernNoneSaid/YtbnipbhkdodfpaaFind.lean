/- The walks of model: finding. -/
import Derived.Test.YtbnipbhkdodfpaaKeys
namespace Go.Proofs.Ytbnipbhkdodfpaa
open Go.RowKit

set_option maxHeartbeats 400000 in
theorem findcmp_calls (G H : Nat → Prop) (kv u : Value) (p : Pr) (k : Key) (w : World) (ha : BytesAt w G kv p.key) (hb : BytesAt w H u k) :
    Calls Try.prog 65 #[.agg #[kv, .int .u64 p.val], u] w fun e w' => e = .returned (.int .i64 (kcmp p.key k)) ∧ New w w' := by
  have ha' := ha.new ((New.refl w).al (.cells #[kv, .int .u64 p.val] 40))
  have hb' := hb.new ((New.refl w).al (.cells #[kv, .int .u64 p.val] 40))
  go_enter Try.func65, Try.ntmps65
  go_wp2_with (go_at_call 63; refine (compare_calls _ _ _ _ p.key k _ ha' hb').mono ?_; rintro e w' ⟨rfl, rfl⟩)
  go_ret
  exact ⟨rfl, (New.refl w).al _⟩

set_option maxHeartbeats 400000 in
theorem bsearch_calls (G H : Nat → Prop) (v u : Value) (ps : List Pr) (k : Key) (w : World) (ha : PairsAt w G v ps) (hb : BytesAt w H u k) (hs : Sorted ps) (hlen : ps.length ≤ 1048576) :
    Calls Try.prog 64 #[v, u, .func (.func 65) #[] #[]] w fun e w' => e = .returned (.tuple #[.int .i64 (rank ps k), .bool (has ps k)]) ∧ New w w' := by
  obtain ⟨A, c, rfl, h1, h2, h3⟩ := id ha
  clear h3
  have Ha := Lib.hid ha
  have Hb := Lib.hid hb
  clear ha hb
  go_enter Try.func64, Try.ntmps64
  go_wp2
  go_loopw [9, 10] (fun i j wr => ∃ a b : Nat, i = .int .i64 a ∧ j = .int .i64 b ∧ a ≤ b ∧ b ≤ ps.length ∧ a ≤ rank ps k ∧ rank ps k ≤ b ∧ New w wr) (fun i j _ => (intOf j - intOf i).toNat)
  case atStart => exact ⟨0, ps.length, rfl, rfl, by omega, by omega, by omega, rank_le ps k, New.refl w⟩
  case round =>
    obtain ⟨a, b, rfl, rfl, hab, hbn, har, hrb, hn⟩ := hrel
    by_cases hlt : a < b
    · obtain ⟨m, hm0⟩ : ∃ m, m = (a + b) / 2 := ⟨_, rfl⟩
      have hm : m < ps.length := by omega
      have hmi : ((a : Int) + (b : Int)) / 2 = (m : Int) := by omega
      have hma : a ≤ m := by omega
      have hmb : m < b := by omega
      have hu : IntKind.u64.wrap ((a : Int) + (b : Int)) = (a : Int) + (b : Int) := by simp [IntKind.wrap, IntKind.bits, IntKind.signed]; omega
      clear hm0
      obtain ⟨p, hp⟩ : ∃ p, ps[m]? = some p := ⟨ps[m], List.getElem?_eq_getElem hm⟩
      obtain ⟨g, off, kv, rfl, _, q1, q2, q3⟩ := (Ha.out.new hn).at2 hp
      have hk2 := Hb.out.new hn
      have Hs := Lib.hid (rank_split (k := k) hs hp)
      clear hp
      go_wp2_with (go_at_call 65; refine (findcmp_calls _ _ _ _ p k _ q2 hk2).mono ?_; rintro e w2 ⟨rfl, hw⟩)
      · rename_i hc
        have h1 := Hs.out.1 ((kcmp_lt _ _).1 hc)
        exact ⟨⟨m + 1, b, by go_num, rfl, by omega, by omega, by omega, by omega, hn.tr hw⟩, by simp [intOf]; omega⟩
      · rename_i hc
        have h1 : ¬ m < rank ps k := fun h => absurd ((kcmp_lt _ _).2 (Hs.out.2 h)) (by omega)
        exact ⟨⟨a, m, rfl, rfl, by omega, by omega, by omega, by omega, hn.tr hw⟩, by simp [intOf]; omega⟩
    · have hr : a = rank ps k := by omega
      have hk2 := Hb.out.new hn
      clear hab har hrb
      by_cases hl : a < ps.length
      · obtain ⟨p, hp⟩ : ∃ p, ps[a]? = some p := ⟨ps[a], List.getElem?_eq_getElem hl⟩
        obtain ⟨g, off, kv, rfl, _, q1, q2, q3⟩ := (Ha.out.new hn).at2 hp
        have Hh := Lib.hid (show has ps k = (p.key == k) from has_at (by rw [← hr]; exact hp))
        have Hr := Lib.hid hr
        clear hp hr
        go_wp2_with (go_at_call 65; refine (findcmp_calls _ _ _ _ p k _ q2 hk2).mono ?_; rintro e w2 ⟨rfl, hw⟩)
        go_ret2
        refine ⟨show Ending.returned (.tuple #[.int .i64 (a : Int), .bool (kcmp p.key k == 0)]) = _ from ?_, hn.tr hw⟩
        rw [Hh.out, ← Hr.out, kcmp_beq]
      · have Hh := Lib.hid (show has ps k = false from has_end (by omega))
        have Hr := Lib.hid hr
        clear hr
        go_wp2
        go_ret2
        exact ⟨show Ending.returned (.tuple #[.int .i64 (a : Int), .bool false]) = _ by rw [Hh.out, ← Hr.out], hn⟩

end Go.Proofs.Ytbnipbhkdodfpaa
