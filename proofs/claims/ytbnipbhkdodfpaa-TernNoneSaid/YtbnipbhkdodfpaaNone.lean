/- The walk of TernNone. -/
import Derived.Test.YtbnipbhkdodfpaaAwake
namespace Go.Proofs.Ytbnipbhkdodfpaa
open Go.RowKit

theorem pairs_lit {w : World} {G : Nat → Prop} {kv : Value} {p : Pr} (h : BytesAt w G kv p.key) : PairsAt (w.alloc (.cells #[kv, .int .u64 p.val] 40)) (fun _ => True) (.slice (some ⟨w.heap.size, 0, none⟩) 1 1) [p] := by
  refine ⟨_, _, rfl, Nat.le_refl _, by decide, fun _ => ⟨w.heap.size, 0, rfl, trivial, fun i hi => ?_⟩⟩
  obtain rfl : i = 0 := by simp at hi; exact hi
  exact ⟨kv, World.cell?_alloc_new w _ _ 0, (h.new ((New.refl w).al _)).mono fun _ _ _ => trivial, World.cell?_alloc_new w _ _ 1⟩

set_option maxRecDepth 100000 in
set_option maxHeartbeats 4000000 in
theorem none_walk (A : Option Addr) (n c : Nat) (i : Int) (k : Key) (w : World) (hb : BytesAt w (fun _ => True) (.slice A n c) k) (b : UInt8) (hi : i % 256 = (b.toNat : Int)) :
    Calls Try.prog 4 #[.slice A n c, .int .i64 i] w fun e w' => e = .returned (.bool true) ∧ New w w' := by
  obtain ⟨hn, hc1, hc2⟩ := hb.len
  subst hn
  have Hb := Lib.hid hb
  have Hi := Lib.hid hi
  clear hb hi
  by_cases hg : 40 < k.length
  · have hg' : (k.length : Int) > 40 := by omega
    go_enter Try.func4, Try.ntmps4
    go_wp2_with (go_at_call 6; refine (awake_calls _).mono ?_; rintro e w1 ⟨rfl, N1⟩)
    go_ret
    exact ⟨rfl, N1⟩
  · have hg' : ¬ (k.length : Int) > 40 := by omega
    have ha : (0 : Int) < (0 : Int) + (alone [] k : Nat) := by
      have : 0 < alone [] k := by
        unfold alone
        split
        · decide
        · rename_i h
          have : 0 < k.length := List.length_pos_iff.2 h
          simp [before, behind, has, rank, lcpO]; omega
      omega
    have y1 : nth [] (rank [] [] : Int) = none := rfl
    obtain ⟨B, hB⟩ : ∃ B, B = w.heap.size := ⟨_, rfl⟩
    have fit0 : Fit [] := fun _ h => by cases h
    go_enter Try.func4, Try.ntmps4
    go_wp2_with (first
      | (go_at_call_of 9 (Value.pointer none); refine (tbuild_nil _ _).mono ?_; rintro e w1 ⟨rfl, rfl⟩)
      | (go_at_call_of 10 (Value.pointer none); refine (tput_nil _ _ _).mono ?_; rintro e w1 ⟨rfl, rfl⟩)
      | (go_at_call_of 13 (Value.pointer none); refine (tget_nil _ _).mono ?_; rintro e w1 ⟨rfl, rfl⟩)
      | (go_at_call_of 14 (Value.pointer none); refine (tfloor_nil _ _).mono ?_; rintro e w1 ⟨rfl, N1⟩)
      | (go_at_call_of 15 (Value.pointer none); refine (tselect_nil _ _).mono ?_; rintro e w2 ⟨rfl, N2⟩; have N2' := New.tr (N1.al _) N2)
      | (go_at_call_of 8 (Value.int .i64 0); refine (tnew_calls 0 (by decide) (by decide) _).mono ?_; rintro e w3 ⟨t, rfl, N3, T3⟩; have N3' := New.tr (N2'.al _) N3; have hz2 := N2'.size; have T3 := TAt.mono (F' := fun b => B ≤ b) T3 (fun b _ h => by simp at h; omega))
      | (go_at_call_of 8 (Value.int .i64 1048576); refine (tnew_calls 1048576 (by decide) (by decide) _).mono ?_; rintro e w4 ⟨t4, rfl, N4, -⟩; have N4' := New.tr N3' N4; have T4 := TAt.new T3 N4)
      | (go_at_call_of 8 (Value.int .i64 1048577); refine (tnew_none 1048577 (by decide) _).mono ?_; rintro e w5 ⟨rfl, rfl⟩)
      | (go_at_call 10; refine (tput_full _ (fun _ => True) t _ [] k 1 0 0 _ T4 (Hb.out.new N4') .nil (by decide) (by omega) fit0 rfl (by decide) (by decide) ha).mono ?_; rintro e w6 ⟨rfl, N6⟩; have N6' := New.tr N4' N6; have T6 := TAt.new T4 N6)
      | (go_at_call 16; refine (tceil_calls _ (fun _ => False) t _ [] [] 0 0 _ T6 (BytesAt.nil _ _) .nil (by decide) fit0).mono ?_; rw [y1]; rintro e w7 ⟨v7, rfl, N7, p7⟩; go_loud (obtain ⟨A7, c7, e7, o7⟩ := (show PairV w7 _ v7 ⟨[], 0⟩ from p7).shape; have e7 : v7 = .agg #[.slice A7 0 c7, .int .u64 0] := e7; subst e7; have N7' := New.tr N6' N7; obtain ⟨M, hM⟩ : ∃ M, M = (w7.alloc (Obj.cells #[.slice A7 0 c7, .int .u64 0] 40)).heap.size := ⟨_, rfl⟩; have hz7 := N7.size; have T7 := (TAt.new (TAt.mono (F' := fun b => B ≤ b ∧ b < M) T6 (fun b hb h => ⟨h, by rw [hM]; simp; omega⟩)) N7).new ((New.refl w7).al (Obj.cells #[.slice A7 0 c7, .int .u64 0] 40))))
      | (go_at_call 17; go_loud (rw [Hi.out]; refine (long_any 65536 b _ (by decide) (by decide)).mono ?_; rintro e w8 ⟨A8, c8, rfl, N8, k8, l8, o8⟩; have N8' := New.tr (N7'.al _) N8; have T8 := TAt.new T7 N8; rw [← hM] at o8; have O8 := Lib.hid (OwnBytes.read o8); clear o8))
      | (go_at_call 13; refine (tget_calls _ _ t _ [] k8 0 0 _ T8 O8.out .nil (by decide)).mono ?_; rintro e w9 ⟨rfl, N9⟩; have N9' := New.tr N8' N9; have T9 := TAt.new T8 N9; have O9 := Lib.hid (O8.out.new N9))
      | (go_at_call 11; refine (tdrop_not _ _ t _ [] k8 0 0 _ T9 O9.out .nil (by decide) rfl).mono ?_; rintro e w10 ⟨rfl, N10⟩; have N10' := New.tr N9' N10; have T10 := TAt.new T9 N10; have O10 := Lib.hid (O9.out.new N10))
      | (go_at_call_of 18 (Value.pointer none); refine (tlen_nil _).mono ?_; rintro e w1 ⟨rfl, rfl⟩)
      | (go_at_call_of 19 (Value.pointer none); refine (tlive_nil _).mono ?_; rintro e w1 ⟨rfl, rfl⟩)
      | (go_at_call_of 20 (Value.pointer none); refine (trank_nil _ _).mono ?_; rintro e w1 ⟨rfl, rfl⟩)
      | (go_at_call_of 21 (Value.pointer none); refine (tfrom_nil _ _ _).mono ?_; rintro e w1 ⟨rfl, rfl⟩)
      | (go_at_call_of 22 (Value.pointer none); refine (tshape_nil _).mono ?_; rintro e w11 ⟨rfl, N11⟩; go_loud (have N11' := New.tr N10' N11; have T11 := TAt.new T10 N11; have O11 := Lib.hid (O10.out.new N11); have hz11 := N11'.size))
      | (go_at_call_of 9 (Value.slice none 0 0); go_loud (refine (tbuild_ok _ (fun _ => False) t _ [] [] 0 0 _ T11 (PairsAt.nil _ _) (by decide) (fun _ h => by cases h) rfl (by decide)).mono ?_); rintro e w12 ⟨rfl, T12, C12⟩; go_loud (have O12 := Lib.hid (O11.out.chg C12 (fun b h k => by omega)); have N12' := Below.trans N11' (Chg.below C12 hz11 fun b hb h => by omega)))
      | (go_at_call 9; go_loud (refine (tbuild_long (fun _ => True) t _ [⟨k8, 0⟩] _ (pairs_lit (p := ⟨k8, 0⟩) O12.out) (by simp) ⟨k8, 0⟩ (by simp) (show 65535 < k8.length by omega)).mono ?_); rintro e w13 ⟨rfl, N13⟩; go_loud (have T13 := (TAt.new T12 ((New.refl _).al _)).new N13; have N13' := New.tr (New.al N12' _) N13))
      | (go_at_call 18; refine (tlen_calls _ t [] 0 _ _ T13).mono ?_; rintro e w1 ⟨rfl, rfl⟩)
      | (go_at_call 19; refine (tlive_calls _ t [] 0 _ _ T13).mono ?_; rintro e w1 ⟨rfl, rfl⟩)
      | (go_at_call 6; refine (awake_calls _).mono ?_; rintro e w14 ⟨rfl, N14⟩; have N14' := New.tr N13' N14))
    go_ret
    exact ⟨rfl, N14'⟩

end Go.Proofs.Ytbnipbhkdodfpaa
