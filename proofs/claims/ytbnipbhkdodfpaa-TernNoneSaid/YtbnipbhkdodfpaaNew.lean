/- model.New, Rises, and the two ways of Put and Drop in one. -/
import Derived.Test.YtbnipbhkdodfpaaLists
namespace Go.Proofs.Ytbnipbhkdodfpaa
open Go.RowKit

theorem mput_calls (F H : Nat → Prop) (m : Nat) (u : Value) (ps : List Pr) (k : Key) (v : Int) (w : World) (hm : MapAt w F m ps) (hb : BytesAt w H u k) (hs : Sorted ps) (hlen : ps.length ≤ 1048576) (hk : k.length ≤ 65535) :
    Calls Try.prog 32 #[.pointer (some ⟨m, 0, none⟩), u, .int .u64 v] w fun e w' => e = .returned (.tuple #[.int .u64 (get ps k), .bool (has ps k), .int .i64 0]) ∧ MapAt w' (Gr F w) m (put ps k v) ∧ Chg F w w' := by
  cases hh : has ps k with
  | true => exact mput_old F H m u ps k v w hm hb hs hlen hk hh
  | false => rw [get_of_not hh]; exact mput_new F H m u ps k v w hm hb hs hlen hk hh

theorem mdrop_calls (F H : Nat → Prop) (m : Nat) (u : Value) (ps : List Pr) (k : Key) (w : World) (hm : MapAt w F m ps) (hb : BytesAt w H u k) (hs : Sorted ps) (hlen : ps.length ≤ 1048576) :
    Calls Try.prog 33 #[.pointer (some ⟨m, 0, none⟩), u] w fun e w' => e = .returned (.tuple #[.int .u64 (get ps k), .bool (has ps k)]) ∧ MapAt w' (Gr F w) m (del ps k) ∧ Chg F w w' := by
  cases hh : has ps k with
  | true => exact mdrop_has F H m u ps k w hm hb hs hlen hh
  | false =>
    rw [get_of_not hh, del_of_not hh]
    refine (mdrop_not F H m u ps k w hm hb hs hlen hh).mono ?_
    rintro e w' ⟨rfl, hN⟩
    exact ⟨rfl, (hm.new hN).mono fun b _ h => .inl h, Chg.of_new hN⟩

def puts (qs ps : List Pr) : List Pr := ps.foldl (fun q p => put q p.key p.val) qs
theorem puts_cons (qs : List Pr) (p : Pr) (ps : List Pr) : puts qs (p :: ps) = puts (put qs p.key p.val) ps := rfl
theorem puts_snoc (qs : List Pr) (p : Pr) (ps : List Pr) : puts qs (ps ++ [p]) = put (puts qs ps) p.key p.val := by simp [puts]
theorem length_put (ps : List Pr) (k : Key) (v : Int) : (put ps k v).length ≤ ps.length + 1 := by
  induction ps with
  | nil => simp [put]
  | cons p ps ih =>
    simp only [put]
    split
    · simp; omega
    · split <;> simp
theorem length_puts (qs ps : List Pr) : (puts qs ps).length ≤ qs.length + ps.length := by
  induction ps generalizing qs with
  | nil => simp [puts]
  | cons p ps ih => rw [puts_cons]; have := ih (put qs p.key p.val); have := length_put qs p.key p.val; simp; omega
theorem sorted_puts {qs : List Pr} (h : Sorted qs) (ps : List Pr) : Sorted (puts qs ps) := by
  induction ps generalizing qs with
  | nil => exact h
  | cons p ps ih => exact ih (sorted_put h _ _)
theorem mem_puts {qs ps : List Pr} {q : Pr} (h : q ∈ puts qs ps) : q ∈ qs ∨ q ∈ ps := by
  induction ps generalizing qs with
  | nil => exact .inl h
  | cons p ps ih =>
    rcases ih h with h | h
    · rcases mem_put h with rfl | h
      · exact .inr (List.mem_cons_self ..)
      · exact .inl h
    · exact .inr (List.mem_cons_of_mem _ h)

set_option maxHeartbeats 1000000 in
theorem mnew_calls (G : Nat → Prop) (v : Value) (ps : List Pr) (w : World) (hp : PairsAt w G v ps) (hlen : ps.length ≤ 1048576) (hk : ∀ p ∈ ps, p.key.length ≤ 65535) :
    Calls Try.prog 26 #[v] w fun e w' => ∃ m, e = .returned (.pointer (some ⟨m, 0, none⟩)) ∧ New w w' ∧ MapAt w' (fun b => w.heap.size ≤ b) m (puts [] ps) := by
  obtain ⟨A, c, rfl, h1, h2, h3⟩ := id hp
  have Hp := Lib.hid hp
  clear h3 hp
  go_enter Try.func26, Try.ntmps26
  go_wp2
  go_loopw [10] (fun i wr => ∃ j : Nat, j ≤ ps.length ∧ i = .int .i64 (j : Int) ∧ New w wr ∧ MapAt wr (fun b => w.heap.size ≤ b) w.heap.size (puts [] (ps.take j))) (fun i _ => ps.length - (intOf i).toNat)
  case atStart =>
    refine ⟨0, Nat.zero_le _, rfl, (New.refl w).al _, _, [], heap_new w _, Nat.le_refl _, Own.nil _ _ _ _, ?_, rfl⟩
    intro b h; cases h
  case round =>
    obtain ⟨j, hj, rfl, hn, hm⟩ := hrel
    have Hm := Lib.hid hm
    clear hm
    by_cases hA : j < ps.length
    · obtain ⟨p, hpj⟩ : ∃ p, ps[j]? = some p := ⟨_, List.getElem?_eq_getElem hA⟩
      obtain ⟨g, off, kv, rfl, _, q1, q2, q3⟩ := (Hp.out.new hn).at2 hpj
      obtain ⟨A2, c2, rfl, -, -⟩ := id q2
      have hN2 := (New.refl wr).al (.cells #[.slice A2 p.key.length c2, .int .u64 p.val] 40)
      have hkp := hk p (List.mem_of_getElem? hpj)
      have hl1 : (puts [] (ps.take j)).length ≤ 1048576 := by have := length_puts [] (ps.take j); simp at this; omega
      have Q2 := Lib.hid q2
      clear q2
      go_wp2_with (go_at_call 32; (refine (mput_calls _ G _ _ (puts [] (ps.take j)) p.key p.val _ (by exact Hm.out.new (by assumption)) (by exact Q2.out.new (by assumption)) (sorted_puts .nil _) hl1 hkp).mono ?_); rintro e w2 ⟨rfl, hm2, hc2⟩)
      have hs := hn.size
      have hN4 : Below w.heap.size (wr.alloc (.cells #[.slice A2 p.key.length c2, .int .u64 p.val] 40)) w2 := hc2.below (by have := hN2.size; omega) fun b hb h => Nat.not_lt.2 h hb
      refine ⟨⟨j + 1, by omega, by congr 1, (hn.trans (hN2.mono hs)).trans hN4, ?_⟩, ?_⟩
      · rw [show ps.take (j + 1) = ps.take j ++ [p] from by rw [List.take_add_one, hpj]; rfl, puts_snoc]
        exact hm2.mono fun b _ h => h.elim id fun h => by have := hN2.size; simp at this h ⊢; omega
      · simp only [intOf]; omega
    · go_wp2
      obtain rfl : j = ps.length := by omega
      refine bodyPost_ret (v := .pointer (some ⟨w.heap.size, 0, none⟩)) (by simp [results, Try.results26, go_sem]) rfl ⟨_, rfl, hn, ?_⟩
      have := Hm.out
      rwa [List.take_length] at this

theorem rises_drop {ps : List Pr} {j : Nat} {p q : Pr} (hp : ps[j]? = some p) (hq : ps[j + 1]? = some q) : rises (ps.drop j) = (klt p.key q.key && rises (ps.drop (j + 1))) := by
  have h1 := (List.getElem?_eq_some_iff.1 hp)
  have h2 := (List.getElem?_eq_some_iff.1 hq)
  obtain ⟨l1, rfl⟩ := h1
  obtain ⟨l2, rfl⟩ := h2
  rw [List.drop_eq_getElem_cons l1, List.drop_eq_getElem_cons l2]
  rfl
theorem rises_end {ps : List Pr} {j : Nat} (h : ps.length ≤ j + 1) : rises (ps.drop j) = true := by
  have : (ps.drop j).length ≤ 1 := by simp; omega
  match hq : ps.drop j with
  | [] => rfl
  | [_] => rfl
  | a :: b :: l => rw [hq] at this; simp at this
theorem rises_drop0 (ps : List Pr) : rises (ps.drop 0) = rises ps := by rw [List.drop_zero]

set_option maxHeartbeats 1000000 in
theorem mrises_calls (G : Nat → Prop) (v : Value) (ps : List Pr) (w : World) (hp : PairsAt w G v ps) (hlen : ps.length ≤ 1048576) :
    Calls Try.prog 49 #[v] w fun e w' => e = .returned (.bool (rises ps)) ∧ New w w' := by
  obtain ⟨A, c, rfl, h1, h2, h3⟩ := id hp
  have Hp := Lib.hid hp
  clear h3 hp
  go_enter Try.func49, Try.ntmps49
  go_wp2
  go_loopw [3] (fun i wr => ∃ j : Nat, (j ≤ ps.length ∨ j = 0) ∧ i = .int .i64 ((j : Int) + 1) ∧ New w wr ∧ rises ps = rises (ps.drop j)) (fun i _ => ps.length + 2 - (intOf i).toNat)
  case atStart => exact ⟨0, .inr rfl, rfl, New.refl w, (rises_drop0 ps).symm⟩
  case round =>
    obtain ⟨j, hj, rfl, hn, hr⟩ := hrel
    have Hr := Lib.hid hr
    clear hr
    by_cases hA : j + 1 < ps.length
    · obtain ⟨p, hpj⟩ : ∃ p, ps[j]? = some p := ⟨_, List.getElem?_eq_getElem (by omega)⟩
      obtain ⟨q, hqj⟩ : ∃ p, ps[j + 1]? = some p := ⟨_, List.getElem?_eq_getElem hA⟩
      obtain ⟨g, off, kv, rfl, _, q1, q2, q3⟩ := (Hp.out.new hn).at2 hpj
      obtain ⟨g', off', kv', e, _, q1', q2', q3'⟩ := (Hp.out.new hn).at2 hqj
      cases e
      have Q2 := Lib.hid q2
      have Q2' := Lib.hid q2'
      clear q2 q2' q3 q3'
      have hrd := Lib.hid (rises_drop hpj hqj)
      have i1 : (j : Int) + 1 - 1 = j := by omega
      have i2 : ((j : Int) + 1).toNat = j + 1 := by omega
      have i3 : ((j : Int) + 1) < ps.length := by omega
      have i4 : (0 : Int) ≤ (j : Int) + 1 := by omega
      have i5 : (j : Int) < ps.length := by omega
      have i6 : IntKind.i64.wrap ((j : Int) + 1 - 1) = j := by rw [i1]; exact IntWalk.i64_in _ (by omega)
      cases hkl : klt p.key q.key with
      | true =>
        go_wp2
        go_quiet ((go_at_call 63; exact Calls.quiet_of_same (compare_calls G G _ _ p.key q.key _ (Q2.out.new ((New.refl _).drN _)) (Q2'.out.new ((New.refl _).drN _)))))
        have hc : kcmp p.key q.key < 0 := (kcmp_lt p.key q.key).2 hkl
        clear i6
        go_wp2
        refine ⟨⟨j + 1, .inl (by omega), by congr 1, hn.drN _, ?_⟩, ?_⟩
        · rw [Hr.out, hrd.out, hkl, Bool.true_and]
        · simp only [intOf]; omega
      | false =>
        go_wp2
        go_quiet ((go_at_call 63; exact Calls.quiet_of_same (compare_calls G G _ _ p.key q.key _ (Q2.out.new ((New.refl _).drN _)) (Q2'.out.new ((New.refl _).drN _)))))
        have hc : 0 ≤ kcmp p.key q.key := by have := mt (kcmp_lt p.key q.key).1 (by simp [hkl]); omega
        clear i6
        go_wp2
        refine bodyPost_ret (v := .bool false) (by simp [results, Try.results49, go_sem]) rfl ⟨?_, hn.drN _⟩
        rw [Hr.out, hrd.out, hkl, Bool.false_and]
    · go_wp2
      refine bodyPost_ret (v := .bool true) (by simp [results, Try.results49, go_sem]) rfl ⟨?_, hn⟩
      rw [Hr.out, rises_end (by omega)]

end Go.Proofs.Ytbnipbhkdodfpaa
