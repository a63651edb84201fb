/- Dropping a key. -/
import Derived.Test.YtbnipbhkdodfpaaPut2
namespace Go.Proofs.Ytbnipbhkdodfpaa
open Go.RowKit

theorem drop_end {F : Nat → Prop} {w w1 w2 : World} {m g c : Nat} {v3 : Value} {ps : List Pr} {cs : List Value} {k : Key}
    (hN : New w w1) (h1 : w1.heap[m]? = some (.cells #[.slice (some ⟨g, 0, none⟩) ps.length c] 79 (0, 0))) (h2 : F m) (b3 : Own w1 0 40 2 (.slice (some ⟨g, 0, none⟩) ps.length c) ps.length cs) (hc : 0 < c) (b4 : F g)
    (b5 : PairCells w1 (fun b => F b ∧ Typ w1 b 5) cs ps) (hh : has ps k = true)
    (o1 : Own w2 0 40 2 v3 (ps.length - 1) (cs.take (rank ps k * 2) ++ cs.drop (rank ps k * 2 + 2))) (o2 : w1.grownBy w2 (some g)) (o3 : blk v3 = some g) :
    MapAt (w2.setCell ⟨m, 0, none⟩ v3) (Gr F w) m (del ps k) ∧ Chg F w (w2.setCell ⟨m, 0, none⟩ v3) := by
  obtain ⟨v1, he, hp⟩ := has_split hh
  have hbg : blk (.slice (some ⟨g, 0, none⟩) ps.length c) = some g := by
    obtain ⟨c', rfl⟩ : ∃ q, c = q + 1 := ⟨c - 1, by omega⟩
    rfl
  have hne := own_typ b3 h1 (by decide)
  rw [hbg] at hne
  have hk : ∀ b, b < w1.heap.size → b ≠ g → b ≠ m → (w2.setCell ⟨m, 0, none⟩ v3).heap[b]? = w1.heap[b]? := fun b hb h hm =>
    (Below.heap_setCell w2 _ _ b hm).trans (o2.block b hb fun e => h (Option.some.inj e))
  have ht : ∀ b, Typ w1 b 5 → b ≠ g ∧ b ≠ m := fun b ⟨c, fr, h⟩ => ⟨fun e => own_typ b3 h (by decide) (by rw [hbg, e]), fun e => by
    rw [e, h1] at h; injection h with h; injection h with _ h; exact absurd h (by decide)⟩
  have hl := (List.getElem?_eq_some_iff.1 hp).1
  have hm1 : m < w1.heap.size := (Array.getElem?_eq_some_iff.1 h1).1
  have hm2 : w2.heap[m]? = some (.cells #[.slice (some ⟨g, 0, none⟩) ps.length c] 79 (0, 0)) := (o2.block m hm1 hne).trans h1
  refine ⟨⟨v3, cs.take (rank ps k * 2) ++ cs.drop (rank ps k * 2 + 2), heap_setCell_same hm2 v3, .inl h2, ?_, fun b hb => ?_, ?_⟩, ?_⟩
  · rw [del_of_has hh, show (ps.take (rank ps k) ++ ps.drop (rank ps k + 1)).length = ps.length - 1 from by simp; omega]
    refine o1.keep (Nat.le_refl _) fun b hb' he => Below.heap_setCell w2 _ v3 b ?_
    rw [o3] at he; exact fun h => hne (by rw [he, h])
  · rw [o3] at hb; injection hb with hb; exact .inl (hb ▸ b4)
  · rw [del_of_has hh]
    have hq : PairCells w1 (fun b => F b ∧ Typ w1 b 5) (cs.take (rank ps k * 2) ++ cs.drop (rank ps k * 2 + 2)) (ps.take (rank ps k) ++ ps.drop (rank ps k + 1)) := by
      have := pairCells_drop b5 (rank ps k + 1)
      rw [show (rank ps k + 1) * 2 = rank ps k * 2 + 2 from by omega] at this
      exact PairCells.append (pairCells_take b5 (rank ps k)) this
    exact (hq.keep fun b hb hg => hk b hb (ht b hg.2).1 (ht b hg.2).2).mono fun b _ hg => ⟨.inl hg.1, by
        obtain ⟨c, fr, hc⟩ := hg.2
        exact ⟨c, fr, by rw [hk b hg.2.lt (ht b hg.2).1 (ht b hg.2).2]; exact hc⟩⟩
  · refine ((Chg.of_new (F := F) hN).trans (Chg.grown o2) fun b hb e => ?_).trans (Chg.setCell w2 _ _) fun b hb e => by simp only at e; rw [e]; exact h2
    injection e with e; rw [e]; exact b4

set_option maxHeartbeats 1000000 in
theorem mdrop_has (F H : Nat → Prop) (m : Nat) (u : Value) (ps : List Pr) (k : Key) (w : World) (hm : MapAt w F m ps) (hb : BytesAt w H u k) (hs : Sorted ps) (hlen : ps.length ≤ 1048576) (hh : has ps k = true) :
    Calls Try.prog 33 #[.pointer (some ⟨m, 0, none⟩), u] w fun e w' => e = .returned (.tuple #[.int .u64 (get ps k), .bool true]) ∧ MapAt w' (Gr F w) m (del ps k) ∧ Chg F w w' := by
  have Hm := Lib.hid hm
  have Hb := Lib.hid hb
  have Hh := Lib.hid hh
  obtain ⟨A, c, rfl, k1, k2, -⟩ := id hb
  obtain ⟨v1, he, hp⟩ := has_split hh
  have Hg := Lib.hid (show get ps k = v1 by simp [get, hp])
  have hl : rank ps k < ps.length := (List.getElem?_eq_some_iff.1 hp).1
  have hr1 : (0 : Int) ≤ (rank ps k : Int) + 1 := by omega
  have Hp := Lib.hid hp
  clear hh hm hb he hp
  go_enter Try.func33, Try.ntmps33
  go_wp2_with (first
    | (go_at_call 50; refine (mfind_calls F H m _ ps k _ (by exact Hm.out) (by exact Hb.out) hs hlen).mono ?_; rintro e w1 ⟨rfl, hw⟩; rw [Hh.out]; go_loud (obtain ⟨v0, cs, b1, b2, b3, b4, b5⟩ := Hm.out.new hw; obtain ⟨A0, c0, rfl, hc0, hm0⟩ := b3.shape; obtain ⟨g, c0', hv, -⟩ := b3.cases (by omega); injection hv with ea eb ec; subst ea; subst ec; have q1 : w1.cell? ⟨m, 0, none⟩ = some (.slice (some ⟨g, 0, none⟩) ps.length c0) := cell_of_heap b1 rfl; obtain ⟨kv, x1, x2, x3⟩ := b5.at_ hl; have q2 := b3.cell x1; have q3 := b3.cell x3; rw [Hp.out] at q3; have q1f : w1.frozen? ⟨m, 0, none⟩ = false := frozen_of_heap b1; have Hne := Lib.hid (own_typ b3 b1 (by decide)); have B3 := Lib.hid b3; have B4 := Lib.hid b4; have B5 := Lib.hid b5; clear b3 b4 b5 x1 x3))
    | (go_at_call 53; refine (delete_calls 0 g _ c0 _ cs _ (by exact B3.out) hl hlen B5.out.one).mono ?_; rintro e w2 ⟨v3, rfl, o1, o2, o3⟩; obtain ⟨A3, c3, rfl, -, -⟩ := o1.shape; have hbg : blk (.slice (some ⟨g, 0, none⟩) ps.length c0) = some g := (by obtain ⟨c', rfl⟩ : ∃ q, c0 = q + 1 := ⟨c0 - 1, by omega⟩; rfl); have q4 := o2.cell q1 (hbg ▸ Hne.out); have q4f := grown_f o2 q1 q1f (hbg ▸ Hne.out)))
  go_wp2
  refine bodyPost_ret (v := .tuple #[.int .u64 v1, .bool true]) (by simp [results, Try.results33, go_sem]) rfl ?_
  exact ⟨by rw [Hg.out], drop_end hw b1 b2 B3.out (by omega) (B4.out g hbg) B5.out Hh.out o1 o2 o3⟩

set_option maxHeartbeats 1000000 in
theorem mdrop_not (F H : Nat → Prop) (m : Nat) (u : Value) (ps : List Pr) (k : Key) (w : World) (hm : MapAt w F m ps) (hb : BytesAt w H u k) (hs : Sorted ps) (hlen : ps.length ≤ 1048576) (hh : has ps k = false) :
    Calls Try.prog 33 #[.pointer (some ⟨m, 0, none⟩), u] w fun e w' => e = .returned (.tuple #[.int .u64 0, .bool false]) ∧ New w w' := by
  have Hh := Lib.hid hh
  clear hh
  go_enter Try.func33, Try.ntmps33
  go_wp2_with (go_at_call 50; refine (mfind_calls F H m _ ps k _ hm hb hs hlen).mono ?_; rintro e w1 ⟨rfl, hw⟩; rw [Hh.out])
  go_ret2
  exact ⟨rfl, hw⟩

set_option maxHeartbeats 1000000 in
theorem mput_nil (u : Value) (v : Int) (w : World) :
    Calls Try.prog 32 #[.pointer none, u, .int .u64 v] w fun e w' => e = .returned (.tuple #[.int .u64 0, .bool false, .int .i64 1]) ∧ w' = w := by
  go_enter Try.func32, Try.ntmps32
  go_wp2
  refine bodyPost_ret (v := .tuple #[.int .u64 0, .bool false, .int .i64 1]) (by simp [results, Try.results32, go_sem]) rfl ⟨rfl, rfl⟩

end Go.Proofs.Ytbnipbhkdodfpaa
