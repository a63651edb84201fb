/- The tree's Build of pairs that rise. -/
import Derived.Test.YtbnipbhkdodfpaaBuild
import Derived.Test.YtbnipbhkdodfpaaTPut
namespace Go.Proofs.Ytbnipbhkdodfpaa
open Go.RowKit

theorem put_end {qs : List Pr} {k : Key} {v : Int} (h : ∀ q ∈ qs, klt q.key k = true) : put qs k v = qs ++ [⟨k, v⟩] := by
  induction qs with
  | nil => rfl
  | cons q qs ih =>
    simp only [put, h q (List.mem_cons_self ..), if_true, List.cons_append]
    rw [ih fun r hr => h r (List.mem_cons_of_mem _ hr)]
theorem puts_rise {qs ps : List Pr} (h : Sorted (qs ++ ps)) : puts qs ps = qs ++ ps := by
  induction ps generalizing qs with
  | nil => simp [puts]
  | cons p ps ih =>
    have h1 : ∀ q ∈ qs, klt q.key p.key = true := fun q hq => by
      have := (List.pairwise_append.1 h).2.2 q hq p (List.mem_cons_self ..)
      exact this
    rw [puts_cons, put_end h1]
    rw [ih (by simpa using h)]
    simp
theorem puts_sorted {ps : List Pr} (h : Sorted ps) : puts [] ps = ps := puts_rise (qs := []) h

theorem tcells_step {ps : List Pr} {j : Nat} {p : Pr} (hp : ps[j]? = some p) : tcells (ps.take (j + 1)) = tcells (ps.take j) + tw (lastO none (ps.take j)) p.key := by
  rw [List.take_add_one, hp]
  simp only [tcells, tc_append, Option.toList, tc, Nat.add_zero]
theorem lastO_take0 (ps : List Pr) : lastO none (ps.take 0) = none := rfl
theorem lastO_takeS {ps : List Pr} {j : Nat} {q : Pr} (hq : ps[j]? = some q) : lastO none (ps.take (j + 1)) = some q := by
  rw [List.take_add_one, hq]; simp [lastO]

set_option maxHeartbeats 4000000 in
theorem tbuild_ok (F G : Nat → Prop) (t : Nat) (v : Value) (ps qs : List Pr) (most live : Int) (w : World) (ht : TAt w F t qs most live) (hp : PairsAt w G v ps) (hlen : ps.length ≤ 1048576) (hk : ∀ p ∈ ps, p.key.length ≤ 65535) (hr : rises ps = true) (hm : tcells ps ≤ most) :
    Calls Try.prog 9 #[.pointer (some ⟨t, 0, none⟩), v] w fun e w' => e = .returned (.int .i64 0) ∧ TAt w' (Gr F w) t ps most (tcells ps) ∧ Chg F w w' := by
  obtain ⟨m, FM, h1, h2, hd, h3⟩ := ht
  obtain ⟨A, c, rfl, k1, k2, k3⟩ := id hp
  have Hp := Lib.hid hp
  have Hr := Lib.hid hr
  clear k3 hp hd h3 hr
  have c1 : w.cell? ⟨t, 1, none⟩ = some (.int .i64 most) := cell_of_heap h1 rfl
  go_enter Try.func9, Try.ntmps9
  go_wp2_with (go_at_call 27; refine (tmay_calls G _ ps _ (by exact Hp.out) hlen hk).mono ?_; rintro e w1 ⟨rfl, hw⟩; rw [Hr.out])
  go_loopw [6, 18] (fun n i wr => ∃ j : Nat, j ≤ ps.length ∧ i = .int .i64 (j : Int) ∧ n = .int .i64 (tcells (ps.take j) : Int) ∧ New w wr) (fun _ i _ => ps.length - (intOf i).toNat)
  case atStart => exact ⟨0, Nat.zero_le _, rfl, rfl, hw⟩
  case round =>
    obtain ⟨j, hj, rfl, rfl, hn⟩ := hrel
    have hb1 := tc_le none (ps.take j) 65535 fun p hp => hk p (List.mem_of_mem_take hp)
    have hb2 : (ps.take j).length ≤ 1048576 := by simp; omega
    have hb3 : tcells (ps.take j) ≤ 1048576 * 65536 := Nat.le_trans hb1 (Nat.mul_le_mul_right _ hb2)
    clear hb1
    have hS := fun p (h : ps[j]? = some p) => tcells_step h
    have hE := fun (h : j = ps.length) => show tcells (ps.take j) = tcells ps by rw [h, List.take_length]
    have hZ := fun (h : j = 0) => show tcells (ps.take j) = 0 by rw [h]; rfl
    generalize tcells (ps.take j) = n at hb3 hS hE hZ ⊢
    by_cases hA : j < ps.length
    · obtain ⟨p, hpj⟩ : ∃ p, ps[j]? = some p := ⟨_, List.getElem?_eq_getElem hA⟩
      obtain ⟨g, off, kv, rfl, _, q1, q2, q3⟩ := (Hp.out.new hn).at2 hpj
      obtain ⟨A2, c2, rfl, -, -⟩ := id q2
      have Q2 := Lib.hid q2
      have Hs := Lib.hid (hS p hpj)
      have HZ := Lib.hid hZ
      clear hS hE hZ
      have hpl := hk p (List.mem_of_getElem? hpj)
      clear q2
      by_cases hz : p.key.length = 0
      · have hz' : (p.key.length : Int) = 0 := by omega
        have he : tw (lastO none (ps.take j)) p.key = 1 := by simp [tw, List.eq_nil_of_length_eq_zero hz]
        go_wp2
        refine ⟨⟨j + 1, by omega, by congr 1, by rw [Hs.out, he]; rfl, hn.al _⟩, ?_⟩
        simp only [intOf]; omega
      · have hz' : ¬ (p.key.length : Int) = 0 := by omega
        cases j with
        | zero =>
          have he : tw (lastO none (ps.take 0)) p.key = p.key.length := by
            simp [tw, lastO, lcpO]; intro h; rw [h] at hz; simp at hz
          simp only [Nat.zero_mul, Nat.add_zero] at q1 q3
          obtain rfl := HZ.out rfl
          go_wp2
          refine ⟨⟨1, by omega, rfl, by rw [Hs.out, he, Nat.zero_add], hn.al _⟩, ?_⟩
          simp only [intOf]; omega
        | succ i =>
          obtain ⟨r, hri⟩ : ∃ r, ps[i]? = some r := ⟨_, List.getElem?_eq_getElem (by omega)⟩
          obtain ⟨g', off', kv', e, _, r1, r2, r3⟩ := (Hp.out.new hn).at2 hri
          cases e
          have R2 := Lib.hid r2
          have Hl := Lib.hid (lastO_takeS hri)
          obtain ⟨A3, c3, rfl, -, -⟩ := id r2
          clear r2 r3
          have i1 : (i : Int) + 1 - 1 = i := by omega
          have i2 : (i : Int) < ps.length := by omega
          have i3 : (i : Int) + 1 < ps.length := by omega
          have i4 : (0 : Int) ≤ (i : Int) + 1 := by omega
          have i5 : ((i : Int) + 1).toNat = i + 1 := by omega
          have he : tw (lastO none (ps.take (i + 1))) p.key = p.key.length - lcp r.key p.key := by
            rw [Hl.out]; simp [tw, lcpO]; intro h; rw [h] at hz; simp at hz
          have hle := lcp_le_right r.key p.key
          have r1' := ((New.refl wr).al (.cells #[.slice A2 p.key.length c2, .int .u64 p.val] 40)).c r1
          have hN3 := (New.refl wr).al (.cells #[.slice A2 p.key.length c2, .int .u64 p.val] 40)
          have i6 : Hid (IntKind.i64.wrap ((i : Int) + 1 - 1) = i) := Lib.hid (by rw [i1]; exact IntWalk.i64_in _ (by omega))
          have i7 : Hid (IntKind.i64.wrap (i : Int) = i) := Lib.hid (IntWalk.i64_in _ (by omega))
          rw [show ((i + 1 : Nat) : Int) = (i : Int) + 1 from rfl]
          have e0 := World.cell?_alloc_new wr #[.slice A2 p.key.length c2, .int .u64 p.val] 40 0
          go_wp2
          have e0c := e0.trans (show #[Value.slice A2 p.key.length c2, .int .u64 p.val][0]? = some (.slice A2 p.key.length c2) from rfl)
          have e0d : (wr.alloc (.cells #[.slice A2 p.key.length c2, .int .u64 p.val] 40)).drew.cell? ⟨wr.heap.size, 0, none⟩ = some (.slice A2 p.key.length c2) := e0c
          have r1d : (wr.alloc (.cells #[.slice A2 p.key.length c2, .int .u64 p.val] 40)).drew.cell? ⟨g, off + i * 2, none⟩ = some (.slice A3 r.key.length c3) := r1'
          have j6 := i6.out
          have j7 := i7.out
          go_region_held3 (fun w' => w'.cell? ⟨wr.heap.size, 0, none⟩ = some (.slice A2 p.key.length c2) ∧ w'.cell? ⟨g, off + i * 2, none⟩ = some (.slice A3 r.key.length c3))
            (first
              | exact ⟨e0d, r1d⟩
              | exact ⟨hw2.un.c e0c, hw2.un.c r1'⟩)
            ((first
              | (go_at_call 28; refine (common_calls G G _ _ r.key p.key _ (by exact R2.out.new (hN3.dr)) (by exact Q2.out.new hN3.dr)).mono ?_; rintro e w2 ⟨rfl, hw2⟩)))
          all_goals
            clear j6 j7
            go_wp2
            refine ⟨⟨i + 2, by omega, by congr 1, by rw [Hs.out, he, IntWalk.i64_in ((p.key.length : Int) - (lcp r.key p.key : Int)) (by omega), IntWalk.i64_in _ (by omega)]; congr 1; omega, (hn.al _).tr hw2.un⟩, ?_⟩
            simp only [intOf]; omega
    · obtain rfl : j = ps.length := by omega
      obtain rfl := hE rfl
      clear hE hS hZ
      have c1' := hn.c c1
      go_wp2_with (go_at_call 26; refine (mnew_calls G _ ps _ (by exact Hp.out.new hn) hlen hk).mono ?_; rintro e w2 ⟨m2, rfl, hw2, hm2⟩; go_loud (have N2 := hn.tr hw2; have h1' := N2.hb h1; have d0 : w2.cell? ⟨t, 0, none⟩ = some (.pointer (some ⟨m, 0, none⟩)) := cell_of_heap h1' rfl; have d2 : w2.cell? ⟨t, 2, none⟩ = some (.int .i64 live) := cell_of_heap h1' rfl; have e0 : w2.frozen? ⟨t, 0, none⟩ = false := frozen_of_heap h1'; have e2 : w2.frozen? ⟨t, 2, none⟩ = false := frozen_of_heap h1'))
      have hz := N2.size
      refine bodyPost_ret (v := .int .i64 0) (by simp [results, Try.results9, go_sem]) rfl ⟨rfl, ?_, ?_⟩
      · have g1 := heap_setCell_same (i := 2) (heap_setCell_same (i := 0) h1' (.pointer (some ⟨m2, 0, none⟩))) (.int .i64 (tcells ps : Int))
        have ht := (Array.getElem?_eq_some_iff.1 (hn.hb h1)).1
        refine ⟨m2, fun b => wr.heap.size ≤ b, g1, .inl h2, fun b h => ⟨.inr (Nat.le_trans hn.size h), by omega⟩, ?_⟩
        rw [puts_sorted ((rises_sorted ps).1 Hr.out)] at hm2
        exact (hm2.tset (fun b h => by omega) _ _).tset (fun b h => by omega) _ _
      · exact ((Chg.of_new (F := F) N2).trans (Chg.setCell _ _ _) fun b _ e => by simp only at e; rw [e]; exact h2).trans (Chg.setCell _ _ _) fun b _ e => by simp only at e; rw [e]; exact h2
end Go.Proofs.Ytbnipbhkdodfpaa
