/- How many cells a key takes beside those that it shares. -/
import Derived.Test.YtbnipbhkdodfpaaTern1
namespace Go.Proofs.Ytbnipbhkdodfpaa
open Go.RowKit

theorem nth_before (ps : List Pr) (k : Key) : nth ps ((rank ps k : Int) - 1) = before ps k := by
  unfold nth before
  by_cases h : rank ps k = 0
  · rw [if_pos (by omega), if_pos h]
  · rw [if_neg (by omega), if_neg h]; congr 1; omega
theorem nth_nat (ps : List Pr) (i : Nat) : nth ps (i : Int) = ps[i]? := by
  unfold nth; rw [if_neg (by omega)]; rfl
theorem nth_behind_f {ps : List Pr} {k : Key} (h : has ps k = false) : nth ps (rank ps k : Int) = behind ps k := by
  rw [nth_nat]; simp [behind, h]
theorem nth_behind_t {ps : List Pr} {k : Key} (h : has ps k = true) : nth ps ((rank ps k : Int) + 1) = behind ps k := by
  rw [show (rank ps k : Int) + 1 = ((rank ps k + 1 : Nat) : Int) from rfl, nth_nat]; simp [behind, h]
theorem before_fit {ps : List Pr} {k : Key} {p : Pr} (h : before ps k = some p) : p ∈ ps := by
  rw [← nth_before] at h; exact nth_mem h
theorem behind_fit {ps : List Pr} {k : Key} {p : Pr} (h : behind ps k = some p) : p ∈ ps := by
  unfold behind at h; split at h <;> exact List.mem_of_getElem? h

theorem ret_int {x y : Int} (h : x = y) : Ending.returned (.int .i64 x) = Ending.returned (.int .i64 y) := by rw [h]
theorem nth_none {ps : List Pr} {i : Int} (h : nth ps i = none) : i < 0 ∨ (ps.length : Int) ≤ i := by
  unfold nth at h; split at h
  · exact .inl ‹_›
  · have := List.getElem?_eq_none_iff.1 h; right; omega

set_option maxHeartbeats 4000000 in
theorem alone_calls (F H : Nat → Prop) (m : Nat) (u : Value) (ps : List Pr) (k : Key) (w : World) (hm : MapAt w F m ps) (hb : BytesAt w H u k) (hs : Sorted ps) (hlen : ps.length ≤ 1048576) (hf : Fit ps) (hk : k.length ≤ 1048576) :
    Calls Try.prog 31 #[.pointer (some ⟨m, 0, none⟩), u] w fun e w' => e = .returned (.int .i64 (alone ps k)) ∧ New w w' := by
  obtain ⟨A, c, rfl, k1, k2, -⟩ := id hb
  have Hm := Lib.hid hm
  have Hb := Lib.hid hb
  have hr := rank_le ps k
  clear hm hb
  by_cases hz : k.length = 0
  · have : alone ps k = 1 := by have := List.eq_nil_of_length_eq_zero hz; simp [alone, this]
    rw [this]
    go_enter Try.func31, Try.ntmps31
    go_wp2
    go_ret
    exact ⟨rfl, New.refl w⟩
  have hz' : ¬ (k.length : Int) = 0 := by omega
  have ha : alone ps k = k.length - max (lcpO (before ps k) k) (lcpO (behind ps k) k) := by
    have : k ≠ [] := fun h => hz (by rw [h]; rfl)
    simp [alone, this]
  have hl1 := lcpO_le (before ps k) k
  have hl2 := lcpO_le (behind ps k) k
  rw [ha]
  clear ha
  cases hbe : before ps k with
  | none =>
    cases hh : has ps k with
    | true =>
      cases hbh : behind ps k with
      | none =>
        have H1 := Lib.hid (nth_before ps k)
        have H2 := Lib.hid (nth_behind_t hh)
        rw [hbe] at H1 hl1
        rw [hbh] at H2 hl2
        have Hh := Lib.hid hh
        clear hh hbe hbh
        simp only [lcpO, Nat.max_zero, Nat.zero_max, Nat.sub_zero] at hl1 hl2 ⊢
        go_enter Try.func31, Try.ntmps31
        go_wp2_with (first
          | (go_at_call 41; refine (mrank_calls F H m _ ps k _ (by exact Hm.out) (by exact Hb.out) hs hlen).mono ?_; rintro e w1 ⟨rfl, N1⟩)
          | (go_at_call 30; refine (mget_calls F H m _ ps k _ (by exact Hm.out.new (N2.al _)) (by exact Hb.out.new (N2.al _)) hs hlen).mono ?_; rintro e w4 ⟨rfl, hw4⟩; rw [Hh.out]; have N4 := New.tr (N2.al _) hw4)
          | (go_at_call 38; refine (mselect_out F m ps _ _ (by exact Hm.out.new N1) (by exact nth_none H1.out)).mono ?_; rintro e w2 ⟨rfl, hw2⟩; have N2 := New.tr N1 hw2)
          | (go_at_call 38; refine (mselect_out F m ps _ _ (by exact Hm.out.new N4) (by exact nth_none H2.out)).mono ?_; rintro e w5 ⟨rfl, hw5⟩; have N5 := New.tr N4 hw5))
        all_goals
          go_ret
          refine ⟨ret_int ?_, by first | exact N6 | exact N5.al _ | exact N3⟩
          first | omega | (simp only [Nat.max_def]; split <;> omega) | skip
      | some q =>
        have H1 := Lib.hid (nth_before ps k)
        have H2 := Lib.hid (nth_behind_t hh)
        rw [hbe] at H1 hl1
        rw [hbh] at H2 hl2
        have Fq := hf q (behind_fit hbh)
        have Hh := Lib.hid hh
        clear hh hbe hbh
        simp only [lcpO, Nat.max_zero, Nat.zero_max, Nat.sub_zero] at hl1 hl2 ⊢
        go_enter Try.func31, Try.ntmps31
        go_wp2_with (first
          | (go_at_call 41; refine (mrank_calls F H m _ ps k _ (by exact Hm.out) (by exact Hb.out) hs hlen).mono ?_; rintro e w1 ⟨rfl, N1⟩)
          | (go_at_call 30; refine (mget_calls F H m _ ps k _ (by exact Hm.out.new (N2.al _)) (by exact Hb.out.new (N2.al _)) hs hlen).mono ?_; rintro e w4 ⟨rfl, hw4⟩; rw [Hh.out]; have N4 := New.tr (N2.al _) hw4)
          | (go_at_call 38; refine (mselect_out F m ps _ _ (by exact Hm.out.new N1) (by exact nth_none H1.out)).mono ?_; rintro e w2 ⟨rfl, hw2⟩; have N2 := New.tr N1 hw2)
          | (go_at_call 38; refine (mselect_in F m ps _ q _ (by exact Hm.out.new N4) (by exact H2.out) Fq).mono ?_; rintro e w5 ⟨v, rfl, hw5, hv⟩; obtain ⟨A5, c5, rfl, ho5⟩ := hv.shape; have N5 := New.tr N4 hw5)
          | (go_at_call 28; refine (common_calls (fun _ => True) H _ _ q.key k _ (by exact (ho5.read.new ((New.refl _).al _)).mono (fun _ _ _ => trivial)) (by exact Hb.out.new (N5.al _))).mono ?_; rintro e w6 ⟨rfl, hw6⟩; have N6 := New.tr (N5.al _) hw6))
        all_goals
          go_ret
          refine ⟨ret_int ?_, by first | exact N6 | exact N5.al _ | exact N3⟩
          first | omega | (simp only [Nat.max_def]; split <;> omega) | skip
    | false =>
      cases hbh : behind ps k with
      | none =>
        have H1 := Lib.hid (nth_before ps k)
        have H2 := Lib.hid (nth_behind_f hh)
        rw [hbe] at H1 hl1
        rw [hbh] at H2 hl2
        have Hh := Lib.hid hh
        clear hh hbe hbh
        simp only [lcpO, Nat.max_zero, Nat.zero_max, Nat.sub_zero] at hl1 hl2 ⊢
        go_enter Try.func31, Try.ntmps31
        go_wp2_with (first
          | (go_at_call 41; refine (mrank_calls F H m _ ps k _ (by exact Hm.out) (by exact Hb.out) hs hlen).mono ?_; rintro e w1 ⟨rfl, N1⟩)
          | (go_at_call 30; refine (mget_calls F H m _ ps k _ (by exact Hm.out.new (N2.al _)) (by exact Hb.out.new (N2.al _)) hs hlen).mono ?_; rintro e w4 ⟨rfl, hw4⟩; rw [Hh.out]; have N4 := New.tr (N2.al _) hw4)
          | (go_at_call 38; refine (mselect_out F m ps _ _ (by exact Hm.out.new N1) (by exact nth_none H1.out)).mono ?_; rintro e w2 ⟨rfl, hw2⟩; have N2 := New.tr N1 hw2)
          | (go_at_call 38; refine (mselect_out F m ps _ _ (by exact Hm.out.new N4) (by exact nth_none H2.out)).mono ?_; rintro e w5 ⟨rfl, hw5⟩; have N5 := New.tr N4 hw5))
        all_goals
          go_ret
          refine ⟨ret_int ?_, by first | exact N6 | exact N5.al _ | exact N3⟩
          first | omega | (simp only [Nat.max_def]; split <;> omega) | skip
      | some q =>
        have H1 := Lib.hid (nth_before ps k)
        have H2 := Lib.hid (nth_behind_f hh)
        rw [hbe] at H1 hl1
        rw [hbh] at H2 hl2
        have Fq := hf q (behind_fit hbh)
        have Hh := Lib.hid hh
        clear hh hbe hbh
        simp only [lcpO, Nat.max_zero, Nat.zero_max, Nat.sub_zero] at hl1 hl2 ⊢
        go_enter Try.func31, Try.ntmps31
        go_wp2_with (first
          | (go_at_call 41; refine (mrank_calls F H m _ ps k _ (by exact Hm.out) (by exact Hb.out) hs hlen).mono ?_; rintro e w1 ⟨rfl, N1⟩)
          | (go_at_call 30; refine (mget_calls F H m _ ps k _ (by exact Hm.out.new (N2.al _)) (by exact Hb.out.new (N2.al _)) hs hlen).mono ?_; rintro e w4 ⟨rfl, hw4⟩; rw [Hh.out]; have N4 := New.tr (N2.al _) hw4)
          | (go_at_call 38; refine (mselect_out F m ps _ _ (by exact Hm.out.new N1) (by exact nth_none H1.out)).mono ?_; rintro e w2 ⟨rfl, hw2⟩; have N2 := New.tr N1 hw2)
          | (go_at_call 38; refine (mselect_in F m ps _ q _ (by exact Hm.out.new N4) (by exact H2.out) Fq).mono ?_; rintro e w5 ⟨v, rfl, hw5, hv⟩; obtain ⟨A5, c5, rfl, ho5⟩ := hv.shape; have N5 := New.tr N4 hw5)
          | (go_at_call 28; refine (common_calls (fun _ => True) H _ _ q.key k _ (by exact (ho5.read.new ((New.refl _).al _)).mono (fun _ _ _ => trivial)) (by exact Hb.out.new (N5.al _))).mono ?_; rintro e w6 ⟨rfl, hw6⟩; have N6 := New.tr (N5.al _) hw6))
        all_goals
          go_ret
          refine ⟨ret_int ?_, by first | exact N6 | exact N5.al _ | exact N3⟩
          first | omega | (simp only [Nat.max_def]; split <;> omega) | skip
  | some p =>
    cases hh : has ps k with
    | true =>
      cases hbh : behind ps k with
      | none =>
        have H1 := Lib.hid (nth_before ps k)
        have H2 := Lib.hid (nth_behind_t hh)
        rw [hbe] at H1 hl1
        rw [hbh] at H2 hl2
        have Fp := hf p (before_fit hbe)
        have Hh := Lib.hid hh
        clear hh hbe hbh
        simp only [lcpO, Nat.max_zero, Nat.zero_max, Nat.sub_zero] at hl1 hl2 ⊢
        go_enter Try.func31, Try.ntmps31
        go_wp2_with (first
          | (go_at_call 41; refine (mrank_calls F H m _ ps k _ (by exact Hm.out) (by exact Hb.out) hs hlen).mono ?_; rintro e w1 ⟨rfl, N1⟩)
          | (go_at_call 30; refine (mget_calls F H m _ ps k _ (by exact Hm.out.new N3) (by exact Hb.out.new N3) hs hlen).mono ?_; rintro e w4 ⟨rfl, hw4⟩; rw [Hh.out]; have N4 := New.tr N3 hw4)
          | (go_at_call 38; refine (mselect_in F m ps _ p _ (by exact Hm.out.new N1) (by exact H1.out) Fp).mono ?_; rintro e w2 ⟨v, rfl, hw2, hv⟩; obtain ⟨A2, c2, rfl, ho⟩ := hv.shape; have N2 := New.tr N1 hw2)
          | (go_at_call 38; refine (mselect_out F m ps _ _ (by exact Hm.out.new N4) (by exact nth_none H2.out)).mono ?_; rintro e w5 ⟨rfl, hw5⟩; have N5 := New.tr N4 hw5)
          | (go_at_call 28; refine (common_calls (fun _ => True) H _ _ p.key k _ (by exact (ho.read.new ((New.refl _).al _)).mono (fun _ _ _ => trivial)) (by exact Hb.out.new (N2.al _))).mono ?_; rintro e w3 ⟨rfl, hw3⟩; have N3 := New.tr (N2.al _) hw3))
        all_goals
          go_ret
          refine ⟨ret_int ?_, by first | exact N6 | exact N5.al _ | exact N3⟩
          first | omega | (simp only [Nat.max_def]; split <;> omega) | skip
      | some q =>
        have H1 := Lib.hid (nth_before ps k)
        have H2 := Lib.hid (nth_behind_t hh)
        rw [hbe] at H1 hl1
        rw [hbh] at H2 hl2
        have Fp := hf p (before_fit hbe)
        have Fq := hf q (behind_fit hbh)
        have Hh := Lib.hid hh
        clear hh hbe hbh
        simp only [lcpO, Nat.max_zero, Nat.zero_max, Nat.sub_zero] at hl1 hl2 ⊢
        go_enter Try.func31, Try.ntmps31
        go_wp2_with (first
          | (go_at_call 41; refine (mrank_calls F H m _ ps k _ (by exact Hm.out) (by exact Hb.out) hs hlen).mono ?_; rintro e w1 ⟨rfl, N1⟩)
          | (go_at_call 30; refine (mget_calls F H m _ ps k _ (by exact Hm.out.new N3) (by exact Hb.out.new N3) hs hlen).mono ?_; rintro e w4 ⟨rfl, hw4⟩; rw [Hh.out]; have N4 := New.tr N3 hw4)
          | (go_at_call 38; refine (mselect_in F m ps _ p _ (by exact Hm.out.new N1) (by exact H1.out) Fp).mono ?_; rintro e w2 ⟨v, rfl, hw2, hv⟩; obtain ⟨A2, c2, rfl, ho⟩ := hv.shape; have N2 := New.tr N1 hw2)
          | (go_at_call 38; refine (mselect_in F m ps _ q _ (by exact Hm.out.new N4) (by exact H2.out) Fq).mono ?_; rintro e w5 ⟨v, rfl, hw5, hv⟩; obtain ⟨A5, c5, rfl, ho5⟩ := hv.shape; have N5 := New.tr N4 hw5)
          | (go_at_call 28; refine (common_calls (fun _ => True) H _ _ q.key k _ (by exact (ho5.read.new ((New.refl _).al _)).mono (fun _ _ _ => trivial)) (by exact Hb.out.new (N5.al _))).mono ?_; rintro e w6 ⟨rfl, hw6⟩; have N6 := New.tr (N5.al _) hw6)
          | (go_at_call 28; refine (common_calls (fun _ => True) H _ _ p.key k _ (by exact (ho.read.new ((New.refl _).al _)).mono (fun _ _ _ => trivial)) (by exact Hb.out.new (N2.al _))).mono ?_; rintro e w3 ⟨rfl, hw3⟩; have N3 := New.tr (N2.al _) hw3))
        all_goals
          go_ret
          refine ⟨ret_int ?_, by first | exact N6 | exact N5.al _ | exact N3⟩
          first | omega | (simp only [Nat.max_def]; split <;> omega) | skip
    | false =>
      cases hbh : behind ps k with
      | none =>
        have H1 := Lib.hid (nth_before ps k)
        have H2 := Lib.hid (nth_behind_f hh)
        rw [hbe] at H1 hl1
        rw [hbh] at H2 hl2
        have Fp := hf p (before_fit hbe)
        have Hh := Lib.hid hh
        clear hh hbe hbh
        simp only [lcpO, Nat.max_zero, Nat.zero_max, Nat.sub_zero] at hl1 hl2 ⊢
        go_enter Try.func31, Try.ntmps31
        go_wp2_with (first
          | (go_at_call 41; refine (mrank_calls F H m _ ps k _ (by exact Hm.out) (by exact Hb.out) hs hlen).mono ?_; rintro e w1 ⟨rfl, N1⟩)
          | (go_at_call 30; refine (mget_calls F H m _ ps k _ (by exact Hm.out.new N3) (by exact Hb.out.new N3) hs hlen).mono ?_; rintro e w4 ⟨rfl, hw4⟩; rw [Hh.out]; have N4 := New.tr N3 hw4)
          | (go_at_call 38; refine (mselect_in F m ps _ p _ (by exact Hm.out.new N1) (by exact H1.out) Fp).mono ?_; rintro e w2 ⟨v, rfl, hw2, hv⟩; obtain ⟨A2, c2, rfl, ho⟩ := hv.shape; have N2 := New.tr N1 hw2)
          | (go_at_call 38; refine (mselect_out F m ps _ _ (by exact Hm.out.new N4) (by exact nth_none H2.out)).mono ?_; rintro e w5 ⟨rfl, hw5⟩; have N5 := New.tr N4 hw5)
          | (go_at_call 28; refine (common_calls (fun _ => True) H _ _ p.key k _ (by exact (ho.read.new ((New.refl _).al _)).mono (fun _ _ _ => trivial)) (by exact Hb.out.new (N2.al _))).mono ?_; rintro e w3 ⟨rfl, hw3⟩; have N3 := New.tr (N2.al _) hw3))
        all_goals
          go_ret
          refine ⟨ret_int ?_, by first | exact N6 | exact N5.al _ | exact N3⟩
          first | omega | (simp only [Nat.max_def]; split <;> omega) | skip
      | some q =>
        have H1 := Lib.hid (nth_before ps k)
        have H2 := Lib.hid (nth_behind_f hh)
        rw [hbe] at H1 hl1
        rw [hbh] at H2 hl2
        have Fp := hf p (before_fit hbe)
        have Fq := hf q (behind_fit hbh)
        have Hh := Lib.hid hh
        clear hh hbe hbh
        simp only [lcpO, Nat.max_zero, Nat.zero_max, Nat.sub_zero] at hl1 hl2 ⊢
        go_enter Try.func31, Try.ntmps31
        go_wp2_with (first
          | (go_at_call 41; refine (mrank_calls F H m _ ps k _ (by exact Hm.out) (by exact Hb.out) hs hlen).mono ?_; rintro e w1 ⟨rfl, N1⟩)
          | (go_at_call 30; refine (mget_calls F H m _ ps k _ (by exact Hm.out.new N3) (by exact Hb.out.new N3) hs hlen).mono ?_; rintro e w4 ⟨rfl, hw4⟩; rw [Hh.out]; have N4 := New.tr N3 hw4)
          | (go_at_call 38; refine (mselect_in F m ps _ p _ (by exact Hm.out.new N1) (by exact H1.out) Fp).mono ?_; rintro e w2 ⟨v, rfl, hw2, hv⟩; obtain ⟨A2, c2, rfl, ho⟩ := hv.shape; have N2 := New.tr N1 hw2)
          | (go_at_call 38; refine (mselect_in F m ps _ q _ (by exact Hm.out.new N4) (by exact H2.out) Fq).mono ?_; rintro e w5 ⟨v, rfl, hw5, hv⟩; obtain ⟨A5, c5, rfl, ho5⟩ := hv.shape; have N5 := New.tr N4 hw5)
          | (go_at_call 28; refine (common_calls (fun _ => True) H _ _ q.key k _ (by exact (ho5.read.new ((New.refl _).al _)).mono (fun _ _ _ => trivial)) (by exact Hb.out.new (N5.al _))).mono ?_; rintro e w6 ⟨rfl, hw6⟩; have N6 := New.tr (N5.al _) hw6)
          | (go_at_call 28; refine (common_calls (fun _ => True) H _ _ p.key k _ (by exact (ho.read.new ((New.refl _).al _)).mono (fun _ _ _ => trivial)) (by exact Hb.out.new (N2.al _))).mono ?_; rintro e w3 ⟨rfl, hw3⟩; have N3 := New.tr (N2.al _) hw3))
        all_goals
          go_ret
          refine ⟨ret_int ?_, by first | exact N6 | exact N5.al _ | exact N3⟩
          first | omega | (simp only [Nat.max_def]; split <;> omega) | skip

end Go.Proofs.Ytbnipbhkdodfpaa
