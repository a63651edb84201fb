/- model's Longest. -/
import Derived.Test.YtbnipbhkdodfpaaBack
namespace Go.Proofs.Ytbnipbhkdodfpaa
open Go.RowKit Go.Shelf

attribute [local go_sem] Oper.semAt_some

def longest (ps : List Pr) (k : Key) : Option Pr := ps.reverse.find? (fun p => begins k p.key)

theorem keepsFrom_new {B : Nat} {W W' : World} (h : New W W') : KeepsFrom B W W' :=
  ⟨h.size, fun _ _ _ hk _ => (h.block _ (Array.getElem?_eq_some_iff.1 hk).1).trans hk⟩

theorem longest_none {w : World} {L : List (It w)} {ps : List Pr} {k : Key} (hm : L.map (·.p) = ps) (h : ∀ x ∈ L.reverse, begins k x.p.key = false) : longest ps k = none := by
  subst hm
  unfold longest
  rw [List.find?_eq_none]
  intro p hp
  rw [← List.map_reverse, List.mem_map] at hp
  obtain ⟨x, hx, rfl⟩ := hp
  simp [h x hx]
theorem longest_some {w : World} {L : List (It w)} {ps : List Pr} {k : Key} {pre : List (It w)} {x : It w} {j : Nat} (hm : L.map (·.p) = ps) (ht : pre ++ [x] = L.reverse.take j) (h : ∀ x ∈ pre, begins k x.p.key = false) (hx : begins k x.p.key = true) : longest ps k = some x.p := by
  subst hm
  unfold longest
  rw [← List.map_reverse, ← List.take_append_drop j L.reverse, ← ht, List.map_append, List.map_append, List.find?_append, List.find?_append]
  have : List.find? (fun p => begins k p.key) (pre.map (·.p)) = none := by
    rw [List.find?_eq_none]
    intro p hp
    obtain ⟨y, hy, rfl⟩ := List.mem_map.1 hp
    simp [h y hy]
  rw [this]
  simp [hx]

/-- What the boxes of the call hold while it goes on. -/
def LI (w : World) (uk : Value) (W : World) : Prop :=
  Boxed W w.heap.size 38 uk ∧ W.heap[w.heap.size + 1]? = some (.cells #[.slice none 0 0, .int .u64 0] 40 (0, 0)) ∧ Boxed W (w.heap.size + 2) 4 (.bool false) ∧ New w W ∧ w.heap.size + 4 ≤ W.heap.size
theorem own_boxes {row : Option Nat} {X Y : World} {b : Nat} {cs : Array Value} {t : TypeId} {fr : Nat × Nat} (h : X.heap[b]? = some (.cells cs t fr)) (hg : X.grownBy Y row) (hr : ∀ r, row = some r → ∃ o : Obj, X.heap[r]? = some o ∧ o.isCells = false) : Y.heap[b]? = some (.cells cs t fr) :=
  (grownBy_keeps_cells hg hr h rfl).trans h

theorem LI.new {w W W' : World} {uk : Value} (h : LI w uk W) (hn : New W W') : LI w uk W' :=
  ⟨hn.hb h.1, hn.hb h.2.1, hn.hb h.2.2.1, h.2.2.2.1.tr hn, Nat.le_trans h.2.2.2.2 hn.size⟩
theorem Own.rows {W V : World} {row : Option Nat} {base : Nat} {e : TypeId} {size : Nat} {v : Value} {n : Nat} {xs : List Value} (h : Own W base e size v n xs) (hg : W.grownBy V row) (hr : ∀ r, row = some r → ∃ o : Obj, W.heap[r]? = some o ∧ o.isCells = false) : Own V base e size v n xs := by
  refine h.keep (Nat.le_refl _) fun b hb he => ?_
  obtain ⟨h1, A, c, rfl, h2, h3, h4, h5⟩ := h
  cases c with
  | zero => rw [blk_zero] at he; cases he
  | succ c =>
    obtain ⟨g, cur, rfl, k1, k2, k3⟩ := h5 (by omega)
    simp only [blk, Option.some.injEq] at he
    subst he
    rw [own_boxes k2 hg hr, k2]
set_option maxRecDepth 100000 in
set_option maxHeartbeats 4000000 in
theorem mlongest_in (n : Nat) (hn : 5 ≤ n) (F H : Nat → Prop) (m : Nat) (u : Value) (ps : List Pr) (k : Key) (w : World) (hm : MapAt w F m ps) (hb : BytesAt w H u k) (hlen : ps.length ≤ 1048576) (hf : Fit ps) :
    CallsIn Fence.wide n Try.prog 46 #[.pointer (some ⟨m, 0, none⟩), u] w fun e w' => ∃ v, e = .returned (.tuple #[v, .bool (longest ps k).isSome]) ∧ New w w' ∧ PairV w' w.heap.size v ((longest ps k).getD default) := by
  have h1 : 1 ≤ n := by omega
  obtain ⟨v, hc, hpp⟩ := hm.read
  obtain ⟨A, c, rfl, hl1, hl2, hl3⟩ := id hpp
  obtain ⟨Ak, ck, rfl, hk1, hk2, hk3⟩ := id hb
  obtain ⟨L, hL, hmap, hLa⟩ := its hpp hf
  have Hb := Lib.hid hb
  have HL := Lib.hid hLa
  clear hm hb hpp hl3 hk3 hLa
  refine callsIn_of_wp_marks Try.func46 rfl trivial ?_ rfl
  simp only [Try.ntmps46, List.size_toArray, List.length_cons, List.length_nil, Nat.reduceAdd, Nat.reduceSub, Array.replicate_succ, Array.replicate_zero, List.push_toArray, List.append_toArray, List.nil_append, List.cons_append]
  obtain ⟨W0, hW0⟩ : ∃ W0, (((w.alloc (.cells #[.slice Ak k.length ck] 38)).alloc (.cells #[.slice none 0 0, .int .u64 0] 40)).alloc (.cells #[.bool false] 4)) = W0 := ⟨_, rfl⟩
  have hN0 : New w W0 := by rw [← hW0]; exact (((New.refl w).al _).al _).al _
  have q0 := hN0.c hc
  gi_wp2_with (first | (refine ⟨trivial, ?_⟩; gi_at_call 60; refine (back_in _ _ _ _ _).mono ?_; rintro e w' ⟨rfl, rfl⟩))
  have hsz : W0.heap.size = w.heap.size + 3 := by rw [← hW0]; simp
  have g1 : W0.heap[w.heap.size]? = some (.cells #[.slice Ak k.length ck] 38 (0, 0)) := by
    rw [← hW0]; exact ((Below.heap_alloc _ _ _ (by simp; omega)).trans (Below.heap_alloc _ _ _ (by simp))).trans (World.alloc_heap_new w _)
  have g2 : W0.heap[w.heap.size + 1]? = some (.cells #[.slice none 0 0, .int .u64 0] 40 (0, 0)) := by
    rw [← hW0]; refine (Below.heap_alloc _ _ _ (by simp)).trans ?_
    have := World.alloc_heap_new (w.alloc (.cells #[.slice Ak k.length ck] 38)) (.cells #[.slice none 0 0, .int .u64 0] 40); rwa [World.size_alloc] at this
  have g3 : W0.heap[w.heap.size + 2]? = some (.cells #[.bool false] 4 (0, 0)) := by
    rw [← hW0]; have := World.alloc_heap_new ((w.alloc (.cells #[.slice Ak k.length ck] 38)).alloc (.cells #[.slice none 0 0, .int .u64 0] 40)) (.cells #[.bool false] 4); rwa [World.size_alloc, World.size_alloc] at this
  rw [hsz]
  obtain ⟨W1, hW1⟩ : ∃ W1, W0.alloc (.cells #[.slice A ps.length c] 22) = W1 := ⟨_, rfl⟩
  have hN1 : New w W1 := by rw [← hW1]; exact hN0.al _
  have hs1 : W1.heap.size = w.heap.size + 4 := by rw [← hW1]; simp [hsz]
  have bA : W1.cell? ⟨w.heap.size + 3, 0, none⟩ = some (.slice A L.length c) := by rw [← hW1, ← hsz, hL]; exact World.cell?_alloc_new _ _ _ _
  have hLI : LI w (.slice Ak k.length ck) W1 := by
    rw [← hW1]
    exact ⟨(Below.heap_alloc _ _ _ (by omega)).trans g1, (Below.heap_alloc _ _ _ (by omega)).trans g2, (Below.heap_alloc _ _ _ (by omega)).trans g3, hN0.al _, by simp; omega⟩
  rw [hW1]
  clear hW1 hW0 g1 g2 g3 q0 hN0
  refine wpIn_rangeFunc_ownH rfl h1 (gf := 76) (lb := #[.pointer (some ⟨w.heap.size + 3, 0, none⟩)]) rfl trivial (enters_of Try.func76 (by kernel_rfl) rfl)
    (back_stops (n - 1) (w.heap.size + 3) (w.heap.size + 4) c A L (by omega) (by omega) W1 (by omega) (by omega) bA
      (fun h => by
        obtain ⟨b, off, e, hb, hl⟩ := HL.out h
        refine ⟨b, off, e, by omega, fun j x hx => ?_⟩
        obtain ⟨k1, k2, k3⟩ := hl j x hx
        exact ⟨k1, hN1.c k2, hN1.c k3⟩)) belowK_t (belowK_b (by omega)) (Below.refl _ _) (fun _ => rfl)
    (fun pre W => (∀ x ∈ pre, begins k x.p.key = false) ∧ LI w (.slice Ak k.length ck) W)
    (fun cd pre W => (cd = .ret ∧ ∃ p' x, pre = p' ++ [x] ∧ (∀ y ∈ p', begins k y.p.key = false) ∧ begins k x.p.key = true ∧ ∃ A2 c2, W.heap[w.heap.size + 1]? = some (.cells #[.slice A2 x.p.key.length c2, .int .u64 x.p.val] 40 (0, 0)) ∧ OwnBytes W (w.heap.size + 3) (.slice A2 x.p.key.length c2) x.p.key ∧ W.heap[w.heap.size + 2]? = some (.cells #[.bool true] 4 (0, 0))) ∧ New w W)
    ?hI ?hIx ⟨by simp, hLI⟩
    (fun x a' W => ∃ Bx, w.heap.size + 2 < Bx ∧ W.heap[Bx]? = some (.cells #[x.kv, .int .u64 x.p.val] 40 (0, 0)) ∧ a' = { tmps := #[.pointer (some ⟨m, 0, none⟩), .slice Ak k.length ck, undef, .pointer (some ⟨w.heap.size, 0, none⟩), .pointer (some ⟨w.heap.size + 1, 0, none⟩), .pointer (some ⟨w.heap.size + 1 + 1, 0, none⟩), undef, .pointer (some ⟨Bx, 0, none⟩), .pointer (some ⟨m, 0, none⟩), .bool false, undef, .pointer (some ⟨m, 0, none⟩), .pointer (some ⟨m, 0, none⟩), .pointer (some ⟨m, 0, none⟩), .slice A ps.length c, .func (.func 76) #[] #[.pointer (some ⟨w.heap.size + 3, 0, none⟩)], .int .i64 (x.i : Int), .agg #[x.kv, .int .u64 x.p.val], undef, undef, undef, undef, undef, undef, undef], defers := [] })
    ?hAx ?assign ?body ?done ?stop
  case hI =>
    rintro pre X Y row ⟨hp, k1, k2, k3, k4, k5⟩ hg hr
    have hr' : ∀ r, row = some r → ∃ o : Obj, X.heap[r]? = some o ∧ o.isCells = false := fun r e => (hr r e).2
    exact ⟨hp, own_boxes k1 hg hr', own_boxes k2 hg hr', own_boxes k3 hg hr', k4.grown hg k4.size (fun b e => by have := (hr b e).1; omega), Nat.le_trans k5 hg.size⟩
  case hIx =>
    rintro cd pre X Y row ⟨⟨e, p', x, e', hp, hx, A2, c2, k1, k2, k3⟩, k4⟩ hg hr
    have hr' : ∀ r, row = some r → ∃ o : Obj, X.heap[r]? = some o ∧ o.isCells = false := fun r e => (hr r e).2
    exact ⟨⟨e, p', x, e', hp, hx, A2, c2, own_boxes k1 hg hr', Own.rows k2 hg hr', own_boxes k3 hg hr'⟩, k4.grown hg k4.size (fun b e => by have := (hr b e).1; omega)⟩
  case hAx =>
    rintro x a' _ X Y row ⟨Bx, k1, k2, k3⟩ hg hr
    exact ⟨Bx, k1, own_boxes k2 hg (fun r e => (hr r e).2), k3⟩
  case assign =>
    rintro l pre x W K ⟨hp, hLW⟩ hK
    obtain ⟨A3, c3, e3, -⟩ := id x.hb
    gi_wp2
    have hs := hLW.2.2.2.2
    exact hK _ _ ((KeepsOthers.alloc _ _).from _) ((Below.refl _ W).alloc hs _) ⟨hp, hLW.new ((New.refl W).al _)⟩ ⟨W.heap.size, by omega, by rw [e3]; exact heap_new W _, by rw [e3]⟩
  case body =>
    rintro l pre x a' W hl ⟨r, hr⟩ ⟨hp, b1, b2, b3, hNW, hsW⟩ ⟨Bx, hBx, bX, rfl⟩ hlt
    have h1' : 1 ≤ n - 1 - 1 := by omega
    have cK := b1.cell
    have cX := cell_of_heap (i := 0) bX rfl
    have cX1 := cell_of_heap (i := 1) bX rfl
    have HbW := Lib.hid (Hb.out.new hNW)
    have HxW := Lib.hid (x.hb.new hNW)
    cases hbeg : begins k x.p.key with
    | true =>
      have Hg := Lib.hid hbeg
      clear hbeg
      gi_wp2_with (first
        | (refine ⟨trivial, ?_⟩; gi_at_call 61; refine (CallsIn.inRound l (callsIn_wide.2 (begins_calls H (fun _ => True) _ _ k x.p.key _ (by exact HbW.out) (by exact HxW.out)))).mono ?_; rintro e w' ⟨rfl, rfl⟩; rw [Hg.out])
        | (refine ⟨trivial, ?_⟩; gi_at_call 59; refine (CallsIn.inRound l (callsIn_wide.2 (copied_calls (fun _ => True) x.kv x.p _ (by exact HxW.out) x.hl))).mono ?_; rintro e w2 ⟨kv', rfl, hw2, hok⟩; go_loud (obtain ⟨A2, c2, rfl, -, -⟩ := Own.shape hok; have b2' := hw2.hb b2; have b3' : w2.heap[w.heap.size + 1 + 1]? = some (.cells #[.bool false] 4 (0, 0)) := hw2.hb b3; have r0 := cell_of_heap (i := 0) b2' rfl; have r1 := cell_of_heap (i := 1) b2' rfl; have r2 := cell_of_heap (i := 0) b3' rfl; have t0 := frozen_of_heap (i := 0) b2'; have t1 := frozen_of_heap (i := 1) b2'; have t2 := frozen_of_heap (i := 0) b3')))
      have hs2 := hw2.size
      refine ⟨(keepsFrom_new hw2).trans ((((KeepsOthers.setCell _ _ _).trans (KeepsOthers.setCell _ _ _)).trans (KeepsOthers.setCell _ _ _)).from _), ⟨rfl, pre, x, rfl, hp, Hg.out, A2, c2, ?_, ?_, ?_⟩, ?_⟩
      · rw [Below.heap_setCell _ _ _ _ (by simp)]
        exact heap_setCell_same (heap_setCell_same b2' _) _
      · exact (((hok.lower (base' := w.heap.size + 3) (by omega)).set_ (by simp) _).set_ (by simp) _).set_ (by simp) _
      · refine heap_setCell_same (cs := #[.bool false]) ?_ _
        rw [Below.heap_setCell _ _ _ _ (by simp), Below.heap_setCell _ _ _ _ (by simp)]
        exact b3'
      · exact (((hNW.tr hw2).setCell (by simp) _).setCell (by simp) _).setCell (by simp; omega) _
    | false =>
      have Hg := Lib.hid hbeg
      clear hbeg
      gi_wp2_with (first
        | (refine ⟨trivial, ?_⟩; gi_at_call 61; refine (CallsIn.inRound l (callsIn_wide.2 (begins_calls H (fun _ => True) _ _ k x.p.key _ (by exact HbW.out) (by exact HxW.out)))).mono ?_; rintro e w' ⟨rfl, rfl⟩; rw [Hg.out]))
      refine ⟨KeepsFrom.refl _ _, Below.refl _ _, ?_, b1, b2, b3, hNW, hsW⟩
      intro y hy
      rcases List.mem_append.1 hy with hy | hy
      · exact hp y hy
      · simp at hy; subst hy; exact Hg.out
  case done =>
    rintro D ys W hD rfl ⟨hne, b1, b2, b3, hNW, hsW⟩ hK
    have cR := cell_of_heap (i := 0) b2 rfl
    have cR1 := cell_of_heap (i := 1) b2 rfl
    have fR := frozen_of_heap (i := 0) b2
    have fR1 := frozen_of_heap (i := 1) b2
    have b3' : W.heap[w.heap.size + 1 + 1]? = some (.cells #[.bool false] 4 (0, 0)) := b3
    have cF := cell_of_heap (i := 0) b3' rfl
    have fF := frozen_of_heap (i := 0) b3'
    gi_wp2
    have hK' := (((KeepsOthers.setCell W ⟨w.heap.size + 1, 0, none⟩ (.slice none 0 0)).trans (KeepsOthers.setCell _ ⟨w.heap.size + 1, 1, none⟩ (.int .u64 0))).trans (KeepsOthers.setCell _ ⟨w.heap.size + 1 + 1, 0, none⟩ (.bool false))).same D _ hK rfl
    refine ⟨by simp, .inl ⟨_, _, rfl, run_takeDeferred hK', ?_⟩⟩
    generalize hU : (((W.setCell ⟨w.heap.size + 1, 0, none⟩ (.slice none 0 0)).setCell ⟨w.heap.size + 1, 1, none⟩ (.int .u64 0)).setCell ⟨w.heap.size + 1 + 1, 0, none⟩ (.bool false)) = U at *
    have hNU : New w U := by rw [← hU]; exact ((hNW.setCell (by simp) _).setCell (by simp) _).setCell (by simp; omega) _
    have u2 : U.heap[w.heap.size + 1]? = some (.cells #[.slice none 0 0, .int .u64 0] 40 (0, 0)) := by
      rw [← hU, Below.heap_setCell _ _ _ _ (by simp)]
      exact heap_setCell_same (heap_setCell_same b2 _) _
    have u3 : U.heap[w.heap.size + 1 + 1]? = some (.cells #[.bool false] 4 (0, 0)) := by
      rw [← hU]
      refine heap_setCell_same (cs := #[.bool false]) ?_ _
      rw [Below.heap_setCell _ _ _ _ (by simp), Below.heap_setCell _ _ _ _ (by simp)]
      exact b3'
    have hrow : ∀ r, some D = some r → ∃ o : Obj, U.heap[r]? = some o ∧ o.isCells = false := fun r e => by cases e; exact ⟨_, hK', rfl⟩
    have v2 := own_boxes u2 (grownBy_putObj' U D (.deferred none)) hrow
    have v3 := own_boxes u3 (grownBy_putObj' U D (.deferred none)) hrow
    have w0 := cell_of_heap (i := 0) v2 rfl
    have w1 := cell_of_heap (i := 1) v2 rfl
    have w2 := cell_of_heap (i := 0) v3 rfl
    refine ⟨.tuple #[.agg #[.slice none 0 0, .int .u64 0], .bool false], ?_, ?_⟩
    · simp [results, Try.f46, go_sem, w0, w1, w2]
    · rw [longest_none hmap hne]
      exact ⟨_, rfl, hNU.trans (belowK_b (w := w) (Nat.le_refl _) U D _ _ (by omega) hK' rfl rfl), PairV.zero _ _⟩
  case stop =>
    rintro D cd pre W hD ⟨j, hj, hpre⟩ ⟨⟨rfl, p', x, rfl, hne, hx, A2, c2, hR, hok, hT⟩, hNW⟩ hK
    gi_wp2
    refine ⟨by simp, .inl ⟨_, _, rfl, run_takeDeferred hK, ?_⟩⟩
    have hT' : W.heap[w.heap.size + 1 + 1]? = some (.cells #[.bool true] 4 (0, 0)) := hT
    have hrow : ∀ r, some D = some r → ∃ o : Obj, W.heap[r]? = some o ∧ o.isCells = false := fun r e => by cases e; exact ⟨_, hK, rfl⟩
    have v2 := own_boxes hR (grownBy_putObj' W D (.deferred none)) hrow
    have v3 := own_boxes hT' (grownBy_putObj' W D (.deferred none)) hrow
    have w0 := cell_of_heap (i := 0) v2 rfl
    have w1 := cell_of_heap (i := 1) v2 rfl
    have w2 := cell_of_heap (i := 0) v3 rfl
    refine ⟨.tuple #[.agg #[.slice A2 x.p.key.length c2, .int .u64 x.p.val], .bool true], ?_, ?_⟩
    · simp [results, Try.f46, go_sem, w0, w1, w2]
    · rw [longest_some hmap hpre hne hx]
      exact ⟨_, rfl, hNW.trans (belowK_b (w := w) (Nat.le_refl _) W D _ _ (by omega) hK rfl rfl), _, rfl, (Own.rows hok (grownBy_putObj' W D (.deferred none)) hrow).lower (by omega)⟩

theorem mlongest_calls (F H : Nat → Prop) (m : Nat) (u : Value) (ps : List Pr) (k : Key) (w : World) (hm : MapAt w F m ps) (hb : BytesAt w H u k) (hlen : ps.length ≤ 1048576) (hf : Fit ps) :
    Calls Try.prog 46 #[.pointer (some ⟨m, 0, none⟩), u] w fun e w' => ∃ v, e = .returned (.tuple #[v, .bool (longest ps k).isSome]) ∧ New w w' ∧ PairV w' w.heap.size v ((longest ps k).getD default) :=
  callsIn_wide.1 (mlongest_in 5 (Nat.le_refl _) F H m u ps k w hm hb hlen hf)

end Go.Proofs.Ytbnipbhkdodfpaa
