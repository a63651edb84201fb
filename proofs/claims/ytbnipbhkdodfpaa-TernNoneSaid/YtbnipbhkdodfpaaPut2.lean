/- Putting a key that is there already. -/
import Derived.Test.YtbnipbhkdodfpaaPut
namespace Go.Proofs.Ytbnipbhkdodfpaa
open Go.RowKit

theorem own_set {w : World} {base g n c : Nat} {e : TypeId} {size : Nat} {xs : List Value} (h : Own w base e size (.slice (some ⟨g, 0, none⟩) n c) n xs) {j : Nat} (hj : j < xs.length) (u : Value) :
    Own (w.setCell ⟨g, j, none⟩ u) base e size (.slice (some ⟨g, 0, none⟩) n c) n (xs.set j u) := by
  obtain ⟨h1, A', c', hv, h2, h3, h4, h5⟩ := h
  injection hv with e1 e2 e3
  subst e1; subst e3
  refine ⟨by simpa using h1, _, c, rfl, h2, h3, h4, fun hc => ?_⟩
  obtain ⟨g', cur, e, k1, k2, k3, k4⟩ := h5 hc
  cases e
  refine ⟨g, cur.setIfInBounds j u, rfl, k1, heap_setCell_same k2 u, by simpa using k3, ?_⟩
  rw [Array.toList_setIfInBounds, List.take_set, k4]

theorem put_old_end {F : Nat → Prop} {w w1 : World} {m g c : Nat} {ps : List Pr} {cs : List Value} {k : Key} {v : Int}
    (hN : New w w1) (h1 : w1.heap[m]? = some (.cells #[.slice (some ⟨g, 0, none⟩) ps.length c] 79 (0, 0))) (h2 : F m) (b3 : Own w1 0 40 2 (.slice (some ⟨g, 0, none⟩) ps.length c) ps.length cs) (hc : 0 < c) (b4 : F g)
    (b5 : PairCells w1 (fun b => F b ∧ Typ w1 b 5) cs ps) (hh : has ps k = true) :
    MapAt (w1.setCell ⟨g, rank ps k * 2 + 1, none⟩ (.int .u64 v)) (Gr F w) m (put ps k v) ∧ Chg F w (w1.setCell ⟨g, rank ps k * 2 + 1, none⟩ (.int .u64 v)) := by
  obtain ⟨v1, he, hp⟩ := has_split hh
  have hbg : blk (.slice (some ⟨g, 0, none⟩) ps.length c) = some g := by
    obtain ⟨c', rfl⟩ : ∃ q, c = q + 1 := ⟨c - 1, by omega⟩
    rfl
  have hne := own_typ b3 h1 (by decide)
  rw [hbg] at hne
  have hk : ∀ b, b ≠ g → (w1.setCell ⟨g, rank ps k * 2 + 1, none⟩ (.int .u64 v)).heap[b]? = w1.heap[b]? := fun b h => Below.heap_setCell w1 _ _ b h
  have ht : ∀ b, Typ w1 b 5 → b ≠ g := fun b ⟨c, fr, h⟩ e => own_typ b3 h (by decide) (by rw [hbg, e])
  have hl := (List.getElem?_eq_some_iff.1 hp).1
  refine ⟨⟨_, cs.set (rank ps k * 2 + 1) (.int .u64 v), (hk m fun e => hne (by rw [e])).trans h1, .inl h2, ?_, fun b hb => ?_, ?_⟩, ?_⟩
  · rw [put_of_has hh, List.length_set]
    exact own_set b3 (by have := b5.length; omega) _
  · rw [hbg] at hb; injection hb with hb; exact .inl (hb ▸ b4)
  · rw [put_of_has hh]
    refine pairCells_set (p := ⟨k, v1⟩) ?_ hp v
    exact (b5.keep fun b hb hg => hk b (ht b hg.2)).mono fun b _ hg => ⟨.inl hg.1, by
        obtain ⟨c, fr, hc⟩ := hg.2
        exact ⟨c, fr, by rw [hk b (ht b hg.2)]; exact hc⟩⟩
  · exact (Chg.of_new hN).trans (Chg.setCell w1 _ _) fun b hb e => by simp only at e; rw [e]; exact b4

theorem Own.fro {w : World} {base g n c : Nat} {e : TypeId} {size : Nat} {xs : List Value} (h : Own w base e size (.slice (some ⟨g, 0, none⟩) n c) n xs) (hc : 0 < c) {j : Nat} : w.frozen? ⟨g, j, none⟩ = false := by
  obtain ⟨h1, A', c', hv, h2, h3, h4, h5⟩ := h
  injection hv with e1 e2 e3
  subst e1; subst e3
  obtain ⟨g', cur, e, k1, k2, k3, k4⟩ := h5 hc
  cases e
  exact frozen_of_heap k2

set_option maxHeartbeats 1000000 in
theorem mput_old (F H : Nat → Prop) (m : Nat) (u : Value) (ps : List Pr) (k : Key) (v : Int) (w : World) (hm : MapAt w F m ps) (hb : BytesAt w H u k) (hs : Sorted ps) (hlen : ps.length ≤ 1048576) (hk : k.length ≤ 65535) (hh : has ps k = true) :
    Calls Try.prog 32 #[.pointer (some ⟨m, 0, none⟩), u, .int .u64 v] w fun e w' => e = .returned (.tuple #[.int .u64 (get ps k), .bool true, .int .i64 0]) ∧ MapAt w' (Gr F w) m (put ps k v) ∧ Chg F w w' := by
  have Hm := Lib.hid hm
  have Hb := Lib.hid hb
  have Hh := Lib.hid hh
  have Hk : Hid (decide ((k.length : Int) ≤ 65535) = true) := Lib.hid (by simp; omega)
  obtain ⟨A, c, rfl, k1, k2, -⟩ := id hb
  obtain ⟨v1, he, hp⟩ := has_split hh
  have Hg := Lib.hid (show get ps k = v1 by simp [get, hp])
  have hl : rank ps k < ps.length := (List.getElem?_eq_some_iff.1 hp).1
  have Hp := Lib.hid hp
  clear hh hm hb he hp
  go_enter Try.func32, Try.ntmps32
  go_wp2_with (first
    | (go_at_call 29; refine (may_calls _ _ _ _).mono ?_; rintro e w1 ⟨rfl, rfl⟩; rw [Hk.out])
    | (go_at_call 50; refine (mfind_calls F H m _ ps k _ (by exact Hm.out) (by exact Hb.out) hs hlen).mono ?_; rintro e w1 ⟨rfl, hw⟩; rw [Hh.out]; go_loud (obtain ⟨v0, cs, b1, b2, b3, b4, b5⟩ := Hm.out.new hw; obtain ⟨A0, c0, rfl, hc0, hm0⟩ := b3.shape; obtain ⟨g, c0', hv, -⟩ := b3.cases (by omega); injection hv with ea eb ec; subst ea; subst ec; have q1 : w1.cell? ⟨m, 0, none⟩ = some (.slice (some ⟨g, 0, none⟩) ps.length c0) := cell_of_heap b1 rfl; obtain ⟨kv, x1, x2, x3⟩ := b5.at_ hl; have q2 := b3.cell x1; have q3 := b3.cell x3; rw [Hp.out] at q3; have q3f : w1.frozen? ⟨g, rank ps k * 2 + 1, none⟩ = false := b3.fro (by omega); have B3 := Lib.hid b3; have B4 := Lib.hid b4; have B5 := Lib.hid b5; clear b3 b4 b5 x1 x3)))
  refine bodyPost_ret (v := .tuple #[.int .u64 v1, .bool true, .int .i64 0]) (by simp [results, Try.results32, go_sem]) rfl ?_
  exact ⟨by rw [Hg.out], put_old_end hw b1 b2 B3.out (by omega) (B4.out g (by obtain ⟨c', rfl⟩ : ∃ q, c0 = q + 1 := ⟨c0 - 1, by omega⟩; rfl)) B5.out Hh.out⟩

end Go.Proofs.Ytbnipbhkdodfpaa
