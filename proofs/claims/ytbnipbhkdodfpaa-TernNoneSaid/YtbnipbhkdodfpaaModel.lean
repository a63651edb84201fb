/- How a model's map lies in memory; its walks that only read. -/
import Derived.Test.YtbnipbhkdodfpaaFind
import Derived.Deep.RegionHeld3
namespace Go.Proofs.Ytbnipbhkdodfpaa
open Go.RowKit

def Typ (w : World) (b : Nat) (t : TypeId) : Prop := ∃ cs fr, w.heap[b]? = some (.cells cs t fr)

/-- A model.Map at block m with some pairs: all that it leads to lies in F. -/
def MapAt (w : World) (F : Nat → Prop) (m : Nat) (ps : List Pr) : Prop :=
  ∃ v cs, w.heap[m]? = some (.cells #[v] 79 (0, 0)) ∧ F m ∧ Own w 0 40 2 v ps.length cs ∧ (∀ b, blk v = some b → F b) ∧ PairCells w (fun b => F b ∧ Typ w b 5) cs ps

theorem MapAt.keep {w w' : World} {F : Nat → Prop} {m : Nat} {ps : List Pr} (h : MapAt w F m ps) (hk : ∀ b, b < w.heap.size → F b → w'.heap[b]? = w.heap[b]?) : MapAt w' F m ps := by
  obtain ⟨v, cs, h1, h2, h3, h4, h5⟩ := h
  refine ⟨v, cs, ?_, h2, h3.keep (Nat.le_refl _) (fun b hb he => hk b hb (h4 b he)), h4, ?_⟩
  · rw [hk m (Array.getElem?_eq_some_iff.1 h1).1 h2]; exact h1
  · refine (h5.keep fun b hb hg => hk b hb hg.1).mono fun b hb hg => ⟨hg.1, ?_⟩
    obtain ⟨cs', fr, hc⟩ := hg.2
    exact ⟨cs', fr, by rw [hk b (Array.getElem?_eq_some_iff.1 hc).1 hg.1]; exact hc⟩
theorem MapAt.new {w w' : World} {F : Nat → Prop} {m : Nat} {ps : List Pr} (h : MapAt w F m ps) (hn : New w w') : MapAt w' F m ps := h.keep fun b hb _ => hn.block b hb
theorem MapAt.chg {w w' : World} {F G : Nat → Prop} {m : Nat} {ps : List Pr} (h : MapAt w F m ps) (hn : Chg G w w') (hd : ∀ b, F b → ¬ G b) : MapAt w' F m ps := h.keep fun b hb hf => hn.block b hb (hd b hf)
theorem MapAt.mono {w : World} {F F' : Nat → Prop} {m : Nat} {ps : List Pr} (h : MapAt w F m ps) (hf : ∀ b, b < w.heap.size → F b → F' b) : MapAt w F' m ps := by
  obtain ⟨v, cs, h1, h2, h3, h4, h5⟩ := h
  exact ⟨v, cs, h1, hf m (Array.getElem?_eq_some_iff.1 h1).1 h2, h3, fun b hb => hf b (h3.base b hb).2 (h4 b hb), h5.mono fun b hb hg => ⟨hf b hb hg.1, hg.2⟩⟩
theorem MapAt.read {w : World} {F : Nat → Prop} {m : Nat} {ps : List Pr} (h : MapAt w F m ps) : ∃ v, w.cell? ⟨m, 0, none⟩ = some v ∧ PairsAt w F v ps := by
  obtain ⟨v, cs, h1, h2, h3, h4, h5⟩ := h
  refine ⟨v, cell_of_heap h1 rfl, ?_⟩
  obtain ⟨A, c, rfl, hc, hm⟩ := h3.shape
  refine ⟨A, c, rfl, hc, hm, fun h0 => ?_⟩
  obtain ⟨g, c', hv, _⟩ := h3.cases h0
  injection hv with e1 e2 e3
  subst e1; subst e3
  have hF : F g := h4 g (by obtain ⟨c', rfl⟩ : ∃ q, c = q + 1 := ⟨c - 1, by omega⟩; rfl)
  refine ⟨g, 0, rfl, hF, fun i hi => ?_⟩
  obtain ⟨kv, k1, k2, k3⟩ := h5.at_ hi
  exact ⟨kv, by simpa using h3.cell k1, k2.mono fun b _ h => h.1, by simpa using h3.cell k3⟩

set_option maxHeartbeats 400000 in
theorem mfind_calls (F H : Nat → Prop) (m : Nat) (u : Value) (ps : List Pr) (k : Key) (w : World) (hm : MapAt w F m ps) (hb : BytesAt w H u k) (hs : Sorted ps) (hlen : ps.length ≤ 1048576) :
    Calls Try.prog 50 #[.pointer (some ⟨m, 0, none⟩), u] w fun e w' => e = .returned (.tuple #[.int .i64 (rank ps k), .bool (has ps k)]) ∧ New w w' := by
  obtain ⟨v, hc, hp⟩ := hm.read
  obtain ⟨A, c, rfl, h1, h2, h3⟩ := id hp
  clear h3 hm
  go_enter Try.func50, Try.ntmps50
  go_wp2_with (go_at_call 64; refine (bsearch_calls _ _ _ _ ps k _ hp hb hs hlen).mono ?_; rintro e w2 ⟨rfl, hw⟩)
  go_ret2
  exact ⟨rfl, hw⟩

set_option maxHeartbeats 400000 in
theorem mfind_nil (u : Value) (w : World) :
    Calls Try.prog 50 #[.pointer none, u] w fun e w' => e = .returned (.tuple #[.int .i64 0, .bool false]) ∧ w' = w := by
  go_enter Try.func50, Try.ntmps50
  go_wp2
  go_ret2
  exact ⟨rfl, rfl⟩

set_option maxHeartbeats 400000 in
theorem mlen_calls (F : Nat → Prop) (m : Nat) (ps : List Pr) (w : World) (hm : MapAt w F m ps) :
    Calls Try.prog 40 #[.pointer (some ⟨m, 0, none⟩)] w fun e w' => e = .returned (.int .i64 ps.length) ∧ w' = w := by
  obtain ⟨v, hc, hp⟩ := hm.read
  obtain ⟨A, c, rfl, h1, h2, h3⟩ := hp
  clear h3 hm
  go_enter Try.func40, Try.ntmps40
  go_wp2
  go_ret
  exact ⟨rfl, rfl⟩
set_option maxHeartbeats 400000 in
theorem mlen_nil (w : World) :
    Calls Try.prog 40 #[.pointer none] w fun e w' => e = .returned (.int .i64 0) ∧ w' = w := by
  go_enter Try.func40, Try.ntmps40
  go_wp2
  go_ret
  exact ⟨rfl, rfl⟩

set_option maxHeartbeats 400000 in
theorem mget_calls (F H : Nat → Prop) (m : Nat) (u : Value) (ps : List Pr) (k : Key) (w : World) (hm : MapAt w F m ps) (hb : BytesAt w H u k) (hs : Sorted ps) (hlen : ps.length ≤ 1048576) :
    Calls Try.prog 30 #[.pointer (some ⟨m, 0, none⟩), u] w fun e w' => e = .returned (.tuple #[.int .u64 (get ps k), .bool (has ps k)]) ∧ New w w' := by
  have Hm := Lib.hid hm
  cases hh : has ps k with
  | false =>
    have Hg := Lib.hid (get_of_not hh)
    have Hh := Lib.hid hh
    clear hh
    go_enter Try.func30, Try.ntmps30
    go_wp2_with (go_at_call 50; refine (mfind_calls _ _ _ _ ps k _ Hm.out hb hs hlen).mono ?_; rintro e w2 ⟨rfl, hw⟩; rw [Hh.out])
    go_ret2
    exact ⟨show Ending.returned (.tuple #[.int .u64 0, .bool false]) = _ by rw [Hg.out], hw⟩
  | true =>
    obtain ⟨v0, he, hp⟩ := has_split hh
    have Hg := Lib.hid (show get ps k = v0 by simp [get, hp])
    have hr := rank_le ps k
    have hl : rank ps k < ps.length := (List.getElem?_eq_some_iff.1 hp).1
    have Hh := Lib.hid hh
    have Hp := Lib.hid hp
    clear hh hp he hm
    go_enter Try.func30, Try.ntmps30
    go_wp2_with (go_at_call 50; refine (mfind_calls _ _ _ _ ps k _ Hm.out hb hs hlen).mono ?_; rintro e w2 ⟨rfl, hw⟩; rw [Hh.out]; obtain ⟨v, hc, hpp⟩ := (Hm.out.new hw).read; obtain ⟨A, c, hv, h1, h2, h3⟩ := id hpp; clear h3; obtain rfl := hv; obtain ⟨g, off, kv, ha, _, q1, q2, q3⟩ := hpp.at2 Hp.out; obtain rfl := ha)
    go_ret2
    exact ⟨show Ending.returned (.tuple #[.int .u64 v0, .bool true]) = _ by rw [Hg.out], hw⟩

set_option maxHeartbeats 400000 in
theorem mget_nil (u : Value) (w : World) :
    Calls Try.prog 30 #[.pointer none, u] w fun e w' => e = .returned (.tuple #[.int .u64 0, .bool false]) ∧ w' = w := by
  go_enter Try.func30, Try.ntmps30
  go_wp2_with (go_at_call 50; refine (mfind_nil _ _).mono ?_; rintro e w2 ⟨rfl, rfl⟩)
  go_ret2
  exact ⟨rfl, rfl⟩

set_option maxHeartbeats 400000 in
theorem mrank_calls (F H : Nat → Prop) (m : Nat) (u : Value) (ps : List Pr) (k : Key) (w : World) (hm : MapAt w F m ps) (hb : BytesAt w H u k) (hs : Sorted ps) (hlen : ps.length ≤ 1048576) :
    Calls Try.prog 41 #[.pointer (some ⟨m, 0, none⟩), u] w fun e w' => e = .returned (.int .i64 (rank ps k)) ∧ New w w' := by
  go_enter Try.func41, Try.ntmps41
  go_wp2_with (go_at_call 50; refine (mfind_calls _ _ _ _ ps k _ hm hb hs hlen).mono ?_; rintro e w2 ⟨rfl, hw⟩)
  go_ret
  exact ⟨rfl, hw⟩
set_option maxHeartbeats 400000 in
theorem mrank_nil (u : Value) (w : World) :
    Calls Try.prog 41 #[.pointer none, u] w fun e w' => e = .returned (.int .i64 0) ∧ w' = w := by
  go_enter Try.func41, Try.ntmps41
  go_wp2_with (go_at_call 50; refine (mfind_nil _ _).mono ?_; rintro e w2 ⟨rfl, rfl⟩)
  go_ret
  exact ⟨rfl, rfl⟩

set_option maxHeartbeats 400000 in
theorem copied_calls (G : Nat → Prop) (kv : Value) (p : Pr) (w : World) (ha : BytesAt w G kv p.key) (hl : p.key.length ≤ 140737488355328) :
    Calls Try.prog 59 #[.agg #[kv, .int .u64 p.val]] w fun e w' => ∃ kv', e = .returned (.agg #[kv', .int .u64 p.val]) ∧ New w w' ∧ OwnBytes w' w.heap.size kv' p.key := by
  have c0 := two_cells w #[kv, .int .u64 p.val] #[.slice none 0 0, .int .u64 0] 40 40 (i := 0) rfl
  have c1 := two_cells w #[kv, .int .u64 p.val] #[.slice none 0 0, .int .u64 0] 40 40 (i := 1) rfl
  have d0 := two_cells' w #[kv, .int .u64 p.val] #[.slice none 0 0, .int .u64 0] 40 40 (i := 0) rfl
  have d1 := two_cells' w #[kv, .int .u64 p.val] #[.slice none 0 0, .int .u64 0] 40 40 (i := 1) rfl
  have f0 := two_free' w #[kv, .int .u64 p.val] #[.slice none 0 0, .int .u64 0] 40 40 0
  have f1 := two_free' w #[kv, .int .u64 p.val] #[.slice none 0 0, .int .u64 0] 40 40 1
  have hN : New w ((w.alloc (.cells #[kv, .int .u64 p.val] 40)).alloc (.cells #[.slice none 0 0, .int .u64 0] 40)) := ((New.refl w).al _).al _
  have ha' := ha.new hN
  have hz : ((w.alloc (.cells #[kv, .int .u64 p.val] 40)).alloc (.cells #[.slice none 0 0, .int .u64 0] 40)).heap.size = w.heap.size + 2 := by simp
  clear ha
  go_enter Try.func59, Try.ntmps59
  go_wp2
  generalize (w.alloc (.cells #[kv, .int .u64 p.val] 40)).alloc (.cells #[.slice none 0 0, .int .u64 0] 40) = W at *
  go_region_with (go_at_call 52; refine (clone_calls G kv p.key _ (by exact ha') hl).mono ?_; rintro e w1 ⟨kv', rfl, hw, ho⟩; obtain ⟨A, c, rfl, -, -⟩ := Own.shape ho; have c1' := hw.c c1; have d0' := hw.c d0; have d1' := hw.c d1; have f0' := hw.f d0 f0; have f1' := hw.f d1 f1)
  all_goals
    go_wp2
    refine bodyPost_ret (v := .agg #[.slice A p.key.length c, .int .u64 p.val]) (by simp [results, Try.results59, go_sem, d0', d1']) rfl ⟨_, rfl, ?_, ?_⟩
    · exact ((hN.dr.tr hw).setCell (by simp) _).setCell (by simp) _
    · exact ((Own.set_ (Own.set_ ho (by simp [hz]) _) (by simp [hz]) _).lower (by simp [hz]))

end Go.Proofs.Ytbnipbhkdodfpaa
