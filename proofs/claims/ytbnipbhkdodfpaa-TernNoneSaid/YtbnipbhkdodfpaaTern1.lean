/- The tree's walks that only read. -/
import Derived.Test.YtbnipbhkdodfpaaLongest
namespace Go.Proofs.Ytbnipbhkdodfpaa
open Go.RowKit

/-- A tree at block t: its pairs, how many cells it has in all, how many are taken. -/
def TAt (w : World) (F : Nat → Prop) (t : Nat) (ps : List Pr) (most live : Int) : Prop :=
  ∃ (m : Nat) (FM : Nat → Prop), w.heap[t]? = some (.cells #[.pointer (some ⟨m, 0, none⟩), .int .i64 most, .int .i64 live] 58 (0, 0)) ∧ F t ∧ (∀ b, FM b → F b ∧ b ≠ t) ∧ MapAt w FM m ps
theorem TAt.keep {w w' : World} {F : Nat → Prop} {t : Nat} {ps : List Pr} {most live : Int} (h : TAt w F t ps most live) (hk : ∀ b, b < w.heap.size → F b → w'.heap[b]? = w.heap[b]?) : TAt w' F t ps most live := by
  obtain ⟨m, FM, h1, h2, hd, h3⟩ := h
  exact ⟨m, FM, (hk t (Array.getElem?_eq_some_iff.1 h1).1 h2).trans h1, h2, hd, h3.keep fun b hb h => hk b hb (hd b h).1⟩
theorem TAt.new {w w' : World} {F : Nat → Prop} {t : Nat} {ps : List Pr} {most live : Int} (h : TAt w F t ps most live) (hn : New w w') : TAt w' F t ps most live := h.keep fun b hb _ => hn.block b hb
theorem TAt.chg {w w' : World} {F G : Nat → Prop} {t : Nat} {ps : List Pr} {most live : Int} (h : TAt w F t ps most live) (hn : Chg G w w') (hd : ∀ b, F b → ¬ G b) : TAt w' F t ps most live := h.keep fun b hb hf => hn.block b hb (hd b hf)
theorem TAt.mono {w : World} {F F' : Nat → Prop} {t : Nat} {ps : List Pr} {most live : Int} (h : TAt w F t ps most live) (hf : ∀ b, b < w.heap.size → F b → F' b) : TAt w F' t ps most live := by
  obtain ⟨m, FM, h1, h2, hd, h3⟩ := h
  exact ⟨m, fun b => FM b ∧ b < w.heap.size, h1, hf t (Array.getElem?_eq_some_iff.1 h1).1 h2, fun b h => ⟨hf b h.2 (hd b h.1).1, (hd b h.1).2⟩, h3.mono fun b hb h => ⟨h, hb⟩⟩

set_option maxHeartbeats 400000 in
theorem tindex_nil (w : World) : Calls Try.prog 36 #[.pointer none] w fun e w' => e = .returned (.pointer none) ∧ w' = w := by
  go_enter Try.func36, Try.ntmps36
  go_wp2
  go_ret
  exact ⟨rfl, rfl⟩
set_option maxHeartbeats 400000 in
theorem tindex_at (w : World) (t : Nat) (v : Value) (hc : w.cell? ⟨t, 0, none⟩ = some v) (hp : ∃ p, v = .pointer p) : Calls Try.prog 36 #[.pointer (some ⟨t, 0, none⟩)] w fun e w' => e = .returned v ∧ w' = w := by
  obtain ⟨p, rfl⟩ := hp
  go_enter Try.func36, Try.ntmps36
  go_wp2
  go_ret
  exact ⟨rfl, rfl⟩
set_option maxHeartbeats 400000 in
theorem tlen_nil (w : World) : Calls Try.prog 18 #[.pointer none] w fun e w' => e = .returned (.int .i64 0) ∧ w' = w := by
  go_enter Try.func18, Try.ntmps18
  go_wp2_with (first
    | (go_at_call 36; refine (tindex_nil _).mono ?_; rintro e w1 ⟨rfl, rfl⟩)
    | (go_at_call 40; refine (mlen_nil _).mono ?_; rintro e w1 ⟨rfl, rfl⟩))
  go_ret
  exact ⟨rfl, rfl⟩
set_option maxHeartbeats 400000 in
theorem tlen_calls (F : Nat → Prop) (t : Nat) (ps : List Pr) (most live : Int) (w : World) (ht : TAt w F t ps most live) : Calls Try.prog 18 #[.pointer (some ⟨t, 0, none⟩)] w fun e w' => e = .returned (.int .i64 ps.length) ∧ w' = w := by
  obtain ⟨m, FM, h1, h2, hd, h3⟩ := ht
  go_enter Try.func18, Try.ntmps18
  go_wp2_with (first
    | (go_at_call 36; refine (tindex_at _ _ _ (cell_of_heap h1 rfl) ⟨_, rfl⟩).mono ?_; rintro e w1 ⟨rfl, rfl⟩)
    | (go_at_call 40; refine (mlen_calls _ m ps _ h3).mono ?_; rintro e w1 ⟨rfl, rfl⟩))
  go_ret
  exact ⟨rfl, rfl⟩
set_option maxHeartbeats 400000 in
theorem tlive_nil (w : World) : Calls Try.prog 19 #[.pointer none] w fun e w' => e = .returned (.int .i64 0) ∧ w' = w := by
  go_enter Try.func19, Try.ntmps19
  go_wp2
  go_ret
  exact ⟨rfl, rfl⟩
set_option maxHeartbeats 400000 in
theorem tlive_calls (F : Nat → Prop) (t : Nat) (ps : List Pr) (most live : Int) (w : World) (ht : TAt w F t ps most live) : Calls Try.prog 19 #[.pointer (some ⟨t, 0, none⟩)] w fun e w' => e = .returned (.int .i64 live) ∧ w' = w := by
  obtain ⟨m, FM, h1, h2, hd, h3⟩ := ht
  have c2 : w.cell? ⟨t, 2, none⟩ = some (.int .i64 live) := cell_of_heap h1 rfl
  go_enter Try.func19, Try.ntmps19
  go_wp2
  go_ret
  exact ⟨rfl, rfl⟩
set_option maxHeartbeats 400000 in
theorem tmost_calls (F : Nat → Prop) (t : Nat) (ps : List Pr) (most live : Int) (w : World) (ht : TAt w F t ps most live) : Calls Try.prog 24 #[.pointer (some ⟨t, 0, none⟩)] w fun e w' => e = .returned (.int .i64 most) ∧ w' = w := by
  obtain ⟨m, FM, h1, h2, hd, h3⟩ := ht
  have c2 : w.cell? ⟨t, 1, none⟩ = some (.int .i64 most) := cell_of_heap h1 rfl
  go_enter Try.func24, Try.ntmps24
  go_wp2
  go_ret
  exact ⟨rfl, rfl⟩
set_option maxHeartbeats 400000 in
theorem tget_nil (u : Value) (w : World) : Calls Try.prog 13 #[.pointer none, u] w fun e w' => e = .returned (.tuple #[.int .u64 0, .bool false]) ∧ w' = w := by
  go_enter Try.func13, Try.ntmps13
  go_wp2_with (first
    | (go_at_call 36; refine (tindex_nil _).mono ?_; rintro e w1 ⟨rfl, rfl⟩)
    | (go_at_call 30; refine (mget_nil _ _).mono ?_; rintro e w1 ⟨rfl, rfl⟩))
  go_ret2
  exact ⟨rfl, rfl⟩
set_option maxHeartbeats 400000 in
theorem tget_calls (F H : Nat → Prop) (t : Nat) (u : Value) (ps : List Pr) (k : Key) (most live : Int) (w : World) (ht : TAt w F t ps most live) (hb : BytesAt w H u k) (hs : Sorted ps) (hlen : ps.length ≤ 1048576) : Calls Try.prog 13 #[.pointer (some ⟨t, 0, none⟩), u] w fun e w' => e = .returned (.tuple #[.int .u64 (get ps k), .bool (has ps k)]) ∧ New w w' := by
  obtain ⟨m, FM, h1, h2, hd, h3⟩ := ht
  go_enter Try.func13, Try.ntmps13
  go_wp2_with (first
    | (go_at_call 36; refine (tindex_at _ _ _ (cell_of_heap h1 rfl) ⟨_, rfl⟩).mono ?_; rintro e w1 ⟨rfl, rfl⟩)
    | (go_at_call 30; refine (mget_calls _ H m u ps k _ h3 hb hs hlen).mono ?_; rintro e w1 ⟨rfl, hw⟩))
  go_ret2
  exact ⟨rfl, hw⟩
set_option maxHeartbeats 400000 in
theorem trank_nil (u : Value) (w : World) : Calls Try.prog 20 #[.pointer none, u] w fun e w' => e = .returned (.int .i64 0) ∧ w' = w := by
  go_enter Try.func20, Try.ntmps20
  go_wp2_with (first
    | (go_at_call 36; refine (tindex_nil _).mono ?_; rintro e w1 ⟨rfl, rfl⟩)
    | (go_at_call 41; refine (mrank_nil _ _).mono ?_; rintro e w1 ⟨rfl, rfl⟩))
  go_ret
  exact ⟨rfl, rfl⟩
set_option maxHeartbeats 400000 in
theorem tfrom_nil (u : Value) (n : Int) (w : World) : Calls Try.prog 21 #[.pointer none, u, .int .i64 n] w fun e w' => e = .returned (.slice none 0 0) ∧ w' = w := by
  go_enter Try.func21, Try.ntmps21
  go_wp2_with (first
    | (go_at_call 36; refine (tindex_nil _).mono ?_; rintro e w1 ⟨rfl, rfl⟩)
    | (go_at_call 42; refine (mfrom_nil _ _ _).mono ?_; rintro e w1 ⟨rfl, rfl⟩))
  go_ret
  exact ⟨rfl, rfl⟩

set_option maxHeartbeats 1000000 in
theorem tfloor_nil (u : Value) (w : World) :
    Calls Try.prog 14 #[.pointer none, u] w fun e w' => e = .returned (.tuple #[.agg #[.slice none 0 0, .int .u64 0], .bool false]) ∧ New w w' := by
  have hN := (New.refl w).al (.cells #[.slice none 0 0, .int .u64 0] 40)
  have e0 := World.cell?_alloc_new w #[.slice none 0 0, .int .u64 0] 40 0
  have e1 := World.cell?_alloc_new w #[.slice none 0 0, .int .u64 0] 40 1
  have f0 := World.frozen?_alloc_new w #[.slice none 0 0, .int .u64 0] 40 0
  have f1 := World.frozen?_alloc_new w #[.slice none 0 0, .int .u64 0] 40 1
  have hz : (w.alloc (.cells #[.slice none 0 0, .int .u64 0] 40)).heap.size = w.heap.size + 1 := by simp
  go_enter Try.func14, Try.ntmps14
  go_wp2_with (first
    | (go_at_call 36; refine (tindex_nil _).mono ?_; rintro e w1 ⟨rfl, rfl⟩)
    | (go_at_call 37; refine (mfloor_nil _ _).mono ?_; rintro e w2 ⟨rfl, hw3⟩; go_loud (have d0 := hw3.c (e0.trans rfl); have d1 := hw3.c (e1.trans rfl); have k0 := hw3.f (e0.trans rfl) f0; have k1 := hw3.f (e1.trans rfl) f1)))
  refine bodyPost_ret (v := .tuple #[.agg #[.slice none 0 0, .int .u64 0], .bool false]) (by simp [results, Try.results14, go_sem, d0, d1]) rfl ⟨rfl, ?_⟩
  exact ((hN.tr hw3).setCell (by simp) _).setCell (by simp) _

set_option maxHeartbeats 1000000 in
theorem tselect_nil (i : Int) (w : World) :
    Calls Try.prog 15 #[.pointer none, .int .i64 i] w fun e w' => e = .returned (.tuple #[.agg #[.slice none 0 0, .int .u64 0], .bool false]) ∧ New w w' := by
  have hN := (New.refl w).al (.cells #[.slice none 0 0, .int .u64 0] 40)
  have e0 := World.cell?_alloc_new w #[.slice none 0 0, .int .u64 0] 40 0
  have e1 := World.cell?_alloc_new w #[.slice none 0 0, .int .u64 0] 40 1
  have f0 := World.frozen?_alloc_new w #[.slice none 0 0, .int .u64 0] 40 0
  have f1 := World.frozen?_alloc_new w #[.slice none 0 0, .int .u64 0] 40 1
  have hz : (w.alloc (.cells #[.slice none 0 0, .int .u64 0] 40)).heap.size = w.heap.size + 1 := by simp
  go_enter Try.func15, Try.ntmps15
  go_wp2_with (first
    | (go_at_call 36; refine (tindex_nil _).mono ?_; rintro e w1 ⟨rfl, rfl⟩)
    | (go_at_call 38; refine (mselect_nil _ _).mono ?_; rintro e w2 ⟨rfl, hw3⟩; go_loud (have d0 := hw3.c (e0.trans rfl); have d1 := hw3.c (e1.trans rfl); have k0 := hw3.f (e0.trans rfl) f0; have k1 := hw3.f (e1.trans rfl) f1)))
  refine bodyPost_ret (v := .tuple #[.agg #[.slice none 0 0, .int .u64 0], .bool false]) (by simp [results, Try.results15, go_sem, d0, d1]) rfl ⟨rfl, ?_⟩
  exact ((hN.tr hw3).setCell (by simp) _).setCell (by simp) _

set_option maxHeartbeats 1000000 in
theorem tceil_calls (F H : Nat → Prop) (t : Nat) (u : Value) (k : Key) (ps : List Pr) (most live : Int) (w : World) (ht : TAt w F t ps most live) (hb : BytesAt w H u k) (hs : Sorted ps) (hlen : ps.length ≤ 1048576) (hf : Fit ps) :
    Calls Try.prog 16 #[.pointer (some ⟨t, 0, none⟩), u] w fun e w' => ∃ v, e = .returned (.tuple #[v, .bool (nth ps (rank ps k)).isSome]) ∧ New w w' ∧ PairV w' w.heap.size v ((nth ps (rank ps k)).getD default) := by
  have hN := (New.refl w).al (.cells #[.slice none 0 0, .int .u64 0] 40)
  have e0 := World.cell?_alloc_new w #[.slice none 0 0, .int .u64 0] 40 0
  have e1 := World.cell?_alloc_new w #[.slice none 0 0, .int .u64 0] 40 1
  have f0 := World.frozen?_alloc_new w #[.slice none 0 0, .int .u64 0] 40 0
  have f1 := World.frozen?_alloc_new w #[.slice none 0 0, .int .u64 0] 40 1
  have hz : (w.alloc (.cells #[.slice none 0 0, .int .u64 0] 40)).heap.size = w.heap.size + 1 := by simp
  have hT := Lib.hid (ht.new hN)
  obtain ⟨m, FM, h1, h2, hd, h3⟩ := ht
  have h1' := hN.hb h1
  have hM := Lib.hid (h3.new hN)
  clear hT h1 h2 h3 hd
  have hB := Lib.hid (hb.new hN); clear hb
  go_enter Try.func16, Try.ntmps16
  go_wp2_with (first
    | (go_at_call 36; refine (tindex_at _ _ _ (cell_of_heap h1' rfl) ⟨_, rfl⟩).mono ?_; rintro e w1 ⟨rfl, rfl⟩)
    | (go_at_call 39; refine (mceil_calls _ H m u ps k _ (by exact hM.out) (by exact hB.out) hs hlen hf).mono ?_; rintro e w2 ⟨v, rfl, hw3, hv⟩; go_loud (obtain ⟨A2, c2, rfl, ho⟩ := hv.shape; have d0 := hw3.c (e0.trans rfl); have d1 := hw3.c (e1.trans rfl); have k0 := hw3.f (e0.trans rfl) f0; have k1 := hw3.f (e1.trans rfl) f1)))
  refine bodyPost_ret (v := .tuple #[.agg #[.slice A2 ((nth ps (rank ps k)).getD default).key.length c2, .int .u64 ((nth ps (rank ps k)).getD default).val], .bool (nth ps (rank ps k)).isSome]) (by simp [results, Try.results16, go_sem, d0, d1]) rfl ⟨_, rfl, ?_, _, rfl, ?_⟩
  · exact ((hN.tr hw3).setCell (by simp) _).setCell (by simp) _
  · exact ((Own.set_ (Own.set_ ho (by simp) _) (by simp) _).lower (by omega))

set_option maxHeartbeats 1000000 in
theorem tlongest_calls (F H : Nat → Prop) (t : Nat) (u : Value) (k : Key) (ps : List Pr) (most live : Int) (w : World) (ht : TAt w F t ps most live) (hb : BytesAt w H u k) (hlen : ps.length ≤ 1048576) (hf : Fit ps) :
    Calls Try.prog 23 #[.pointer (some ⟨t, 0, none⟩), u] w fun e w' => ∃ v, e = .returned (.tuple #[v, .bool (longest ps k).isSome]) ∧ New w w' ∧ PairV w' w.heap.size v ((longest ps k).getD default) := by
  have hN := (New.refl w).al (.cells #[.slice none 0 0, .int .u64 0] 40)
  have e0 := World.cell?_alloc_new w #[.slice none 0 0, .int .u64 0] 40 0
  have e1 := World.cell?_alloc_new w #[.slice none 0 0, .int .u64 0] 40 1
  have f0 := World.frozen?_alloc_new w #[.slice none 0 0, .int .u64 0] 40 0
  have f1 := World.frozen?_alloc_new w #[.slice none 0 0, .int .u64 0] 40 1
  have hz : (w.alloc (.cells #[.slice none 0 0, .int .u64 0] 40)).heap.size = w.heap.size + 1 := by simp
  have hT := Lib.hid (ht.new hN)
  obtain ⟨m, FM, h1, h2, hd, h3⟩ := ht
  have h1' := hN.hb h1
  have hM := Lib.hid (h3.new hN)
  clear hT h1 h2 h3 hd
  have hB := Lib.hid (hb.new hN); clear hb
  go_enter Try.func23, Try.ntmps23
  go_wp2_with (first
    | (go_at_call 36; refine (tindex_at _ _ _ (cell_of_heap h1' rfl) ⟨_, rfl⟩).mono ?_; rintro e w1 ⟨rfl, rfl⟩)
    | (go_at_call 46; refine (mlongest_calls _ H m u ps k _ (by exact hM.out) (by exact hB.out) hlen hf).mono ?_; rintro e w2 ⟨v, rfl, hw3, hv⟩; go_loud (obtain ⟨A2, c2, rfl, ho⟩ := hv.shape; have d0 := hw3.c (e0.trans rfl); have d1 := hw3.c (e1.trans rfl); have k0 := hw3.f (e0.trans rfl) f0; have k1 := hw3.f (e1.trans rfl) f1)))
  refine bodyPost_ret (v := .tuple #[.agg #[.slice A2 ((longest ps k).getD default).key.length c2, .int .u64 ((longest ps k).getD default).val], .bool (longest ps k).isSome]) (by simp [results, Try.results23, go_sem, d0, d1]) rfl ⟨_, rfl, ?_, _, rfl, ?_⟩
  · exact ((hN.tr hw3).setCell (by simp) _).setCell (by simp) _
  · exact ((Own.set_ (Own.set_ ho (by simp) _) (by simp) _).lower (by omega))

set_option maxHeartbeats 400000 in
theorem tnew_calls (n : Int) (h0 : 0 ≤ n) (h1 : n ≤ 1048576) (w : World) : Calls Try.prog 8 #[.int .i64 n] w fun e w' => ∃ t, e = .returned (.pointer (some ⟨t, 0, none⟩)) ∧ New w w' ∧ TAt w' (fun b => w.heap.size ≤ b) t [] n 0 := by
  have g1 : decide (n > 1048576) = false := by simp; omega
  have g0 : decide (n < 0) = false := by simp; omega
  go_enter Try.func8, Try.ntmps8
  go_wp2_with (go_at_call 26; refine (mnew_calls (fun _ => False) _ [] _ (PairsAt.nil _ _) (by simp) (by simp)).mono ?_; rintro e w1 ⟨m, rfl, hw, hm⟩)
  go_ret
  have hs := hw.size
  exact ⟨_, rfl, hw.al _, m, fun b => w.heap.size ≤ b ∧ b < w1.heap.size, heap_new _ _, hs, fun b h => ⟨h.1, by omega⟩, (hm.mono fun b hb h => ⟨h, hb⟩).new ((New.refl w1).al _)⟩
set_option maxHeartbeats 400000 in
theorem tnew_none (n : Int) (h : n < 0 ∨ 1048576 < n) (w : World) : Calls Try.prog 8 #[.int .i64 n] w fun e w' => e = .returned (.pointer none) ∧ w' = w := by
  by_cases h0 : n < 0
  · go_enter Try.func8, Try.ntmps8
    go_wp2
    go_ret
    exact ⟨rfl, rfl⟩
  · have h1 : n > 1048576 := by omega
    go_enter Try.func8, Try.ntmps8
    go_wp2
    go_ret
    exact ⟨rfl, rfl⟩

end Go.Proofs.Ytbnipbhkdodfpaa
