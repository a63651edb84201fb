/- What every statement asks besides. -/
import Derived.Test.YtbnipbhkdodfpaaBuild2
import Derived.Lib.SlBytesConst
namespace Go.Proofs.Ytbnipbhkdodfpaa
open Go.RowKit

theorem TAt.lt {w : World} {F : Nat → Prop} {t : Nat} {ps : List Pr} {most live : Int} (h : TAt w F t ps most live) : t < w.heap.size := by
  obtain ⟨m, FM, h1, -⟩ := h
  exact (Array.getElem?_eq_some_iff.1 h1).1
/-- Whatever has come since w. -/
def Fz (w : World) (b : Nat) : Prop := w.heap.size ≤ b
theorem gr_fz {w wa : World} (h : New w wa) {b : Nat} (hg : Gr (Fz w) wa b) : Fz w b := hg.elim id fun k => Nat.le_trans h.size k
theorem New.chgF {w wa wb : World} (h : New w wa) (k : Chg (Fz w) wa wb) : New w wb :=
  h.trans (k.below h.size fun _ hb hf => Nat.not_lt.2 hf hb)
theorem TAt.fz {w wa wb : World} {t : Nat} {ps : List Pr} {most live : Int} (h : TAt wb (Gr (Fz w) wa) t ps most live) (hn : New w wa) : TAt wb (Fz w) t ps most live := h.mono fun _ _ => gr_fz hn
theorem bytes_lit (w : World) (bs : Key) (n : Nat) (hn : bs.length = n) (hl : n ≤ 100) (cs : Array Value) (hc : cs.toList = cells8 bs) (fr : Nat × Nat) : BytesAt (w.alloc (.cells cs 5 fr)) (fun b => w.heap.size ≤ b) (.slice (some ⟨w.heap.size, 0, none⟩) n n) bs := by
  subst hn
  refine ⟨_, _, rfl, Nat.le_refl _, by omega, fun _ => ⟨w.heap.size, 0, rfl, Nat.le_refl _, fun i hi => ?_⟩⟩
  have := World.cell?_alloc_mark w cs 5 fr (0 + i)
  rw [this, Nat.zero_add, ← Array.getElem?_toList, hc]
  exact cells8_at hi

theorem long_any (n : Nat) (b : UInt8) (w : World) (h0 : 0 < n) (h1 : n ≤ 70000) :
    Calls Try.prog 17 #[.int .i64 n, .int .u8 (b.toNat : Int)] w fun e w' => ∃ A c, e = .returned (.slice A n c) ∧ New w w' ∧ ∃ k : Key, k.length = n ∧ OwnBytes w' w.heap.size (.slice A n c) k := by
  refine (long_calls n b w h0 h1).mono ?_
  rintro e w' ⟨v, rfl, hN, ho⟩
  obtain ⟨A, c, rfl, -, -⟩ := Own.shape ho
  rw [longKey_length] at ho ⊢
  exact ⟨A, c, rfl, hN, _, longKey_length n b, ho⟩

set_option maxRecDepth 100000 in
set_option maxHeartbeats 1000000 in
theorem awake_calls (w : World) : Calls Try.prog 6 #[] w fun e w' => e = .returned (.bool true) ∧ New w w' := by
  have x1 : (0 : Int) + (alone [] [97] : Nat) = 1 := rfl
  have x2 : put [] [97] 1 = [⟨[97], 1⟩] := rfl
  have x3 : put [⟨[97], 1⟩] [97] 2 = [⟨[97], 2⟩] := rfl
  have x4 : (1 : Int) + (alone [⟨[97], 2⟩] [97, 98] : Nat) = 2 := rfl
  have x5 : put [⟨[97], 2⟩] [97, 98] 3 = [⟨[97], 2⟩, ⟨[97, 98], 3⟩] := rfl
  have x6 : get [⟨[97], 1⟩] [97] = 1 := rfl
  have x7 : longest [⟨[97], 2⟩, ⟨[97, 98], 3⟩] [97, 98, 99] = some ⟨[97, 98], 3⟩ := rfl
  have s1 : Sorted [⟨[97], 1⟩] := by simp [Sorted]
  have s2 : Sorted [⟨[97], 2⟩] := by simp [Sorted]
  have fit1 : Fit [⟨[97], 2⟩] := by intro p hp; simp at hp; subst hp; decide
  have fit2 : Fit [⟨[97], 2⟩, ⟨[97, 98], 3⟩] := by intro p hp; simp at hp; rcases hp with rfl | rfl <;> decide
  have kc := fun (w : World) (C : Array Value) (n c : Nat) => Lib.run_convert_bytes_const (P := Try.prog) w 38 5 C n c Try.underlying38 Try.underlying5
  go_enter Try.func6, Try.ntmps6
  go_wp2_with (first
    | (go_at_call_of 10 A5; refine (tput_long t A5 65536 c5 1 _ (by decide)).mono ?_; rintro e w6 ⟨rfl, rfl⟩)
    | (go_at_call_of 8 (Value.int .i64 40); refine (tnew_calls 40 (by decide) (by decide) _).mono ?_; rintro e w1 ⟨t, rfl, N1, T1⟩; go_loud (have T1 : TAt w1 (Fz w) t [] 40 0 := T1; have ht1 : t < w1.heap.size := TAt.lt T1))
    | (go_at_call_of 10 (Value.int .u64 1); refine (tput_new (Fz w) (fun b => b ≠ t) t _ [] [97] 1 40 0 _ (by exact T1.new ((New.refl _).al _)) (by exact (bytes_lit w1 [97] 1 rfl (by decide) _ rfl _).mono (fun b _ h => by omega)) (fun _ h => h) .nil (by decide) (by decide) (fun _ h => by cases h) rfl (by decide) (by decide) (by decide)).mono ?_; rintro e w2 ⟨rfl, T2, C2⟩; go_loud (have N2 := New.chgF (N1.al _) C2; have T2' := T2.fz (N1.al _); rw [x1, x2] at T2'; clear T2 C2))
    | (go_at_call_of 10 (Value.int .u64 2); refine (tput_old (Fz w) (fun b => b ≠ t) t _ [⟨[97], 1⟩] [97] 2 40 1 _ (by exact T2'.new ((New.refl _).al _)) (by exact (bytes_lit w2 [97] 1 rfl (by decide) _ rfl _).mono (fun b _ h => by have := T2'.lt; omega)) s1 (by decide) (by decide) rfl).mono ?_; rintro e w3 ⟨rfl, T3, C3⟩; go_loud (have N3 := New.chgF (N2.al _) C3; have T3' := T3.fz (N2.al _); rw [x3] at T3'; clear T3 C3; have ht3 := TAt.lt T3'))
    | (go_at_call_of 10 (Value.int .u64 3); refine (tput_new (Fz w) (fun b => b ≠ t) t _ [⟨[97], 2⟩] [97, 98] 3 40 1 _ (by exact T3'.new ((New.refl _).al _)) (by exact (bytes_lit w3 [97, 98] 2 rfl (by decide) _ rfl _).mono (fun b _ h => by omega)) (fun _ h => h) s2 (by decide) (by decide) fit1 rfl (by decide) (by decide) (by decide)).mono ?_; rintro e w4 ⟨rfl, T4, C4⟩; go_loud (have N4 := New.chgF (N3.al _) C4; have T4' := T4.fz (N3.al _); rw [x4, x5] at T4'; clear T4 C4))
    | (go_at_call 17; refine (long_any 65536 1 _ (by decide) (by decide)).mono ?_; rintro e w5 ⟨A5, c5, rfl, N5, -⟩; go_loud (have T5 := T4'.new N5; have N5' := New.tr N4 N5))
    | (go_at_call 23; refine (tlongest_calls (Fz w) (fun _ => True) t _ [97, 98, 99] [⟨[97], 2⟩, ⟨[97, 98], 3⟩] 40 2 _ (by exact T5.new ((New.refl _).al _)) (by exact (bytes_lit _ [97, 98, 99] 3 rfl (by decide) _ rfl _).mono (fun b _ _ => trivial)) (by decide) fit2).mono ?_; rw [x7]; rintro e w7 ⟨v7, rfl, N7, p7⟩; go_loud (obtain ⟨A7, c7, e7, o7⟩ := (show PairV w7 _ v7 ⟨[97, 98], 3⟩ from p7).shape; have e7 : v7 = .agg #[.slice A7 2 c7, .int .u64 3] := e7; subst e7; have o7 : OwnBytes w7 _ (.slice A7 2 c7) [97, 98] := o7; have kb := fun (o : Obj) => BytesAt.str (P := Try.prog) (src := 38) (e := 5) (dst := 9) (o7.read.new ((New.refl w7).al o)) Try.underlying38 Try.underlying5 Try.underlying9; have T7 := (T5.new ((New.refl _).al _)).new N7; have N7' := (N5'.al _).tr N7))
    | (go_at_call 18; refine (tlen_calls (Fz w) t _ 40 2 _ (by exact T7.new ((New.refl _).al _))).mono ?_; rintro e w8 ⟨rfl, rfl⟩)
    | (go_at_call 24; refine (tmost_calls (Fz w) t _ 40 2 _ (by exact T7.new ((New.refl _).al _))).mono ?_; rintro e w8 ⟨rfl, rfl⟩)
    | (go_at_call 8; refine (tnew_none (-1) (by decide) _).mono ?_; rintro e w8 ⟨rfl, rfl⟩))
  go_ret
  exact ⟨rfl, N7'.al _⟩
end Go.Proofs.Ytbnipbhkdodfpaa
