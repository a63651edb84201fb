/- The tree's Put and Drop. -/
import Derived.Test.YtbnipbhkdodfpaaAlone
namespace Go.Proofs.Ytbnipbhkdodfpaa
open Go.RowKit

set_option maxHeartbeats 1000000 in
theorem tput_nil (u : Value) (v : Int) (w : World) : Calls Try.prog 10 #[.pointer none, u, .int .u64 v] w fun e w' => e = .returned (.tuple #[.int .u64 0, .bool false, .int .i64 1]) ∧ w' = w := by
  go_enter Try.func10, Try.ntmps10
  go_wp2
  refine bodyPost_ret (v := .tuple #[.int .u64 0, .bool false, .int .i64 1]) (by simp [results, Try.results10, go_sem]) rfl ⟨rfl, rfl⟩

set_option maxHeartbeats 1000000 in
theorem tput_long (t : Nat) (A : Option Addr) (n c : Nat) (v : Int) (w : World) (hn : 65535 < n) : Calls Try.prog 10 #[.pointer (some ⟨t, 0, none⟩), .slice A n c, .int .u64 v] w fun e w' => e = .returned (.tuple #[.int .u64 0, .bool false, .int .i64 3]) ∧ w' = w := by
  have Hk : Hid (decide ((n : Int) ≤ 65535) = false) := Lib.hid (by simp; omega)
  go_enter Try.func10, Try.ntmps10
  go_wp2_with (go_at_call 29; refine (may_calls _ _ _ _).mono ?_; rintro e w1 ⟨rfl, rfl⟩; rw [Hk.out])
  refine bodyPost_ret (v := .tuple #[.int .u64 0, .bool false, .int .i64 3]) (by simp [results, Try.results10, go_sem]) rfl ⟨rfl, rfl⟩

theorem Gr.of {F : Nat → Prop} {w : World} {b : Nat} (h : F b) : Gr F w b := .inl h
theorem Gr.step {F : Nat → Prop} {w w1 : World} {b : Nat} (hs : w.heap.size ≤ w1.heap.size) (h : Gr F w1 b) : Gr F w b := h.imp id fun h => Nat.le_trans hs h

/-- The tree behind what turned its pairs. -/
theorem TAt.put {w w1 w2 : World} {F FM : Nat → Prop} {t m : Nat} {ps' : List Pr} {most live : Int} (hn : New w w1) (h1 : w1.heap[t]? = some (.cells #[.pointer (some ⟨m, 0, none⟩), .int .i64 most, .int .i64 live] 58 (0, 0))) (h2 : F t) (hd : ∀ b, FM b → F b ∧ b ≠ t)
    (hm : MapAt w2 (Gr FM w1) m ps') (hc : Chg FM w1 w2) : TAt w2 (Gr F w) t ps' most live ∧ Chg F w w2 := by
  have ht := (Array.getElem?_eq_some_iff.1 h1).1
  refine ⟨⟨m, Gr FM w1, (hc.block t ht fun h => (hd t h).2 rfl).trans h1, .inl h2, fun b h => ?_, hm⟩, (Chg.of_new hn).trans hc fun b _ h => (hd b h).1⟩
  rcases h with h | h
  · exact ⟨.inl (hd b h).1, (hd b h).2⟩
  · exact ⟨.inr (Nat.le_trans hn.size h), by omega⟩

set_option maxHeartbeats 2000000 in
theorem tput_old (F H : Nat → Prop) (t : Nat) (u : Value) (ps : List Pr) (k : Key) (v most live : Int) (w : World) (ht : TAt w F t ps most live) (hb : BytesAt w H u k) (hs : Sorted ps) (hlen : ps.length ≤ 1048576) (hk : k.length ≤ 65535) (hh : has ps k = true) :
    Calls Try.prog 10 #[.pointer (some ⟨t, 0, none⟩), u, .int .u64 v] w fun e w' => e = .returned (.tuple #[.int .u64 (get ps k), .bool true, .int .i64 0]) ∧ TAt w' (Gr F w) t (put ps k v) most live ∧ Chg F w w' := by
  have Hb := Lib.hid hb
  obtain ⟨m, FM, h1, h2, hd, h3⟩ := ht
  have Hm := Lib.hid h3
  have Hd := Lib.hid hd
  have Hh := Lib.hid hh
  have Hk : Hid (decide ((k.length : Int) ≤ 65535) = true) := Lib.hid (by simp; omega)
  obtain ⟨A, c, rfl, k1, k2, -⟩ := id hb
  have c0 : w.cell? ⟨t, 0, none⟩ = some (.pointer (some ⟨m, 0, none⟩)) := cell_of_heap h1 rfl
  clear hh hb hd h3
  go_enter Try.func10, Try.ntmps10
  go_wp2_with (first
    | (go_at_call 29; refine (may_calls _ _ _ _).mono ?_; rintro e w1 ⟨rfl, rfl⟩; rw [Hk.out])
    | (go_at_call 30; refine (mget_calls FM H m _ ps k _ (by exact Hm.out) (by exact Hb.out) hs hlen).mono ?_; rintro e w1 ⟨rfl, hw⟩; rw [Hh.out]; go_loud (have c0' := hw.c c0))
    | (go_at_call 32; refine (mput_old FM H m _ ps k v _ (by exact Hm.out.new hw) (by exact Hb.out.new hw) hs hlen hk Hh.out).mono ?_; rintro e w2 ⟨rfl, hm2, hc2⟩))
  refine bodyPost_ret (v := .tuple #[.int .u64 (get ps k), .bool true, .int .i64 0]) (by simp [results, Try.results10, go_sem]) rfl ⟨rfl, ?_⟩
  exact TAt.put hw (hw.hb h1) h2 Hd.out hm2 hc2

set_option maxHeartbeats 2000000 in
theorem tput_full (F H : Nat → Prop) (t : Nat) (u : Value) (ps : List Pr) (k : Key) (v most live : Int) (w : World) (ht : TAt w F t ps most live) (hb : BytesAt w H u k) (hs : Sorted ps) (hlen : ps.length ≤ 1048576) (hk : k.length ≤ 65535) (hf : Fit ps) (hh : has ps k = false) (hl0 : 0 ≤ live) (hl1 : live ≤ 1000000000000) (hm : most < live + alone ps k) :
    Calls Try.prog 10 #[.pointer (some ⟨t, 0, none⟩), u, .int .u64 v] w fun e w' => e = .returned (.tuple #[.int .u64 0, .bool false, .int .i64 4]) ∧ New w w' := by
  have Hb := Lib.hid hb
  obtain ⟨m, FM, h1, h2, hd, h3⟩ := ht
  have Hm := Lib.hid h3
  have Hh := Lib.hid hh
  have Hk : Hid (decide ((k.length : Int) ≤ 65535) = true) := Lib.hid (by simp; omega)
  obtain ⟨A, c, rfl, k1, k2, -⟩ := id hb
  have c0 : w.cell? ⟨t, 0, none⟩ = some (.pointer (some ⟨m, 0, none⟩)) := cell_of_heap h1 rfl
  have c1 : w.cell? ⟨t, 1, none⟩ = some (.int .i64 most) := cell_of_heap h1 rfl
  have c2 : w.cell? ⟨t, 2, none⟩ = some (.int .i64 live) := cell_of_heap h1 rfl
  have hal : alone ps k ≤ k.length + 1 := by unfold alone; split <;> omega
  clear hh hb hd h3
  go_enter Try.func10, Try.ntmps10
  go_wp2_with (first
    | (go_at_call 29; refine (may_calls _ _ _ _).mono ?_; rintro e w1 ⟨rfl, rfl⟩; rw [Hk.out])
    | (go_at_call 30; refine (mget_calls FM H m _ ps k _ (by exact Hm.out) (by exact Hb.out) hs hlen).mono ?_; rintro e w1 ⟨rfl, hw⟩; rw [Hh.out]; go_loud (have c0' := hw.c c0; have c1' := hw.c c1; have c2' := hw.c c2)))
  go_region_with (go_at_call 31; refine (alone_calls FM H m _ ps k _ (by exact Hm.out.new (hw.dr)) (by exact Hb.out.new hw.dr) hs hlen hf (by omega)).mono ?_; rintro e w2 ⟨rfl, hw2⟩; have c0'' := hw2.c c0'; have c1'' := hw2.c c1'; have c2'' := hw2.c c2')
  all_goals
    go_wp2
    refine bodyPost_ret (v := .tuple #[.int .u64 0, .bool false, .int .i64 4]) (by simp [results, Try.results10, go_sem]) rfl ⟨rfl, hw.tr hw2.un⟩

/-- The map, where the tree's own count has turned. -/
theorem MapAt.tset {w : World} {FM : Nat → Prop} {m t : Nat} {ps : List Pr} (h : MapAt w FM m ps) (hd : ∀ b, FM b → b ≠ t) (i : Nat) (u : Value) : MapAt (w.setCell ⟨t, i, none⟩ u) FM m ps :=
  h.keep fun b _ hf => Below.heap_setCell w _ u b (hd b hf)

set_option maxHeartbeats 2000000 in
theorem tput_new (F H : Nat → Prop) (t : Nat) (u : Value) (ps : List Pr) (k : Key) (v most live : Int) (w : World) (ht : TAt w F t ps most live) (hb : BytesAt w H u k) (hHt : ∀ b, H b → b ≠ t) (hs : Sorted ps) (hlen : ps.length ≤ 1048576) (hk : k.length ≤ 65535) (hf : Fit ps) (hh : has ps k = false) (hl0 : 0 ≤ live) (hl1 : live ≤ 1000000000000) (hm : live + alone ps k ≤ most) :
    Calls Try.prog 10 #[.pointer (some ⟨t, 0, none⟩), u, .int .u64 v] w fun e w' => e = .returned (.tuple #[.int .u64 0, .bool false, .int .i64 0]) ∧ TAt w' (Gr F w) t (put ps k v) most (live + alone ps k) ∧ Chg F w w' := by
  have Hb := Lib.hid hb
  obtain ⟨m, FM, h1, h2, hd, h3⟩ := ht
  have Hm := Lib.hid h3
  have Hd := Lib.hid hd
  have Hh := Lib.hid hh
  have Hk : Hid (decide ((k.length : Int) ≤ 65535) = true) := Lib.hid (by simp; omega)
  obtain ⟨A, c, rfl, k1, k2, -⟩ := id hb
  have c0 : w.cell? ⟨t, 0, none⟩ = some (.pointer (some ⟨m, 0, none⟩)) := cell_of_heap h1 rfl
  have c1 : w.cell? ⟨t, 1, none⟩ = some (.int .i64 most) := cell_of_heap h1 rfl
  have c2 : w.cell? ⟨t, 2, none⟩ = some (.int .i64 live) := cell_of_heap h1 rfl
  have f2 : w.frozen? ⟨t, 2, none⟩ = false := frozen_of_heap h1
  have hal : alone ps k ≤ k.length + 1 := by unfold alone; split <;> omega
  clear hh hb hd h3
  go_enter Try.func10, Try.ntmps10
  go_wp2_with (first
    | (go_at_call 29; refine (may_calls _ _ _ _).mono ?_; rintro e w1 ⟨rfl, rfl⟩; rw [Hk.out])
    | (go_at_call 30; refine (mget_calls FM H m _ ps k _ (by exact Hm.out) (by exact Hb.out) hs hlen).mono ?_; rintro e w1 ⟨rfl, hw⟩; rw [Hh.out]; go_loud (have c0' := hw.c c0; have c1' := hw.c c1; have c2' := hw.c c2; have f2' := hw.f c2 f2)))
  go_region_with (go_at_call 31; refine (alone_calls FM H m _ ps k _ (by exact Hm.out.new (hw.dr)) (by exact Hb.out.new hw.dr) hs hlen hf (by omega)).mono ?_; rintro e w2 ⟨rfl, hw2⟩; have c0'' := hw2.c c0'; have c1'' := hw2.c c1'; have c2'' := hw2.c c2'; have f2'' := hw2.f c2' f2'; have N2 := New.tr hw hw2.un)
  all_goals
    go_wp2_with (go_at_call 32; go_loud (refine (mput_new FM H m _ ps k v _ (by exact (Hm.out.new N2).tset (fun b h => (Hd.out b h).2) _ _) (by exact (Hb.out.new N2).keep fun b _ h => Below.heap_setCell _ _ _ b (hHt b h)) hs hlen hk Hh.out).mono ?_); rintro e w3 ⟨rfl, hm3, hc3⟩)
    refine bodyPost_ret (v := .tuple #[.int .u64 0, .bool false, .int .i64 0]) (by simp [results, Try.results10, go_sem]) rfl ⟨rfl, ?_⟩
    have h1' := heap_setCell_same (i := 2) (N2.hb h1) (.int .i64 (live + alone ps k))
    have hx := TAt.put (F := F) (New.refl _) h1' h2 Hd.out hm3 hc3
    have hz := N2.size
    refine ⟨hx.1.mono fun b _ h => Gr.step (by simpa using hz) h, ((Chg.of_new N2).trans (Chg.setCell _ _ _) fun b _ e => by simp only at e; rw [e]; exact h2).trans hx.2 fun _ _ h => h⟩

theorem tdrop_nothing : True := trivial

set_option maxHeartbeats 2000000 in
theorem tdrop_has (F H : Nat → Prop) (t : Nat) (u : Value) (ps : List Pr) (k : Key) (most live : Int) (w : World) (ht : TAt w F t ps most live) (hb : BytesAt w H u k) (hHt : ∀ b, H b → b ≠ t) (hs : Sorted ps) (hlen : ps.length ≤ 1048576) (hk : k.length ≤ 65535) (hf : Fit ps) (hh : has ps k = true) (hl0 : 0 ≤ live) (hl1 : live ≤ 1000000000000) :
    Calls Try.prog 11 #[.pointer (some ⟨t, 0, none⟩), u] w fun e w' => e = .returned (.tuple #[.int .u64 (get ps k), .bool true]) ∧ TAt w' (Gr F w) t (del ps k) most (live - alone ps k) ∧ Chg F w w' := by
  have Hb := Lib.hid hb
  have Ht := Lib.hid ht
  obtain ⟨m, FM, h1, h2, hd, h3⟩ := ht
  have Hm := Lib.hid h3
  have Hd := Lib.hid hd
  have Hh := Lib.hid hh
  obtain ⟨A, c, rfl, k1, k2, -⟩ := id hb
  have c0 : w.cell? ⟨t, 0, none⟩ = some (.pointer (some ⟨m, 0, none⟩)) := cell_of_heap h1 rfl
  have c2 : w.cell? ⟨t, 2, none⟩ = some (.int .i64 live) := cell_of_heap h1 rfl
  have f2 : w.frozen? ⟨t, 2, none⟩ = false := frozen_of_heap h1
  have hal : alone ps k ≤ k.length + 1 := by unfold alone; split <;> omega
  clear hh hb hd h3
  go_enter Try.func11, Try.ntmps11
  go_wp2_with (go_at_call 13; refine (tget_calls F H t _ ps k most live _ (by exact Ht.out) (by exact Hb.out) hs hlen).mono ?_; rintro e w1 ⟨rfl, hw⟩; rw [Hh.out]; go_loud (have c0' := hw.c c0; have c2' := hw.c c2; have f2' := hw.f c2 f2))
  go_region_with (go_at_call 31; refine (alone_calls FM H m _ ps k _ (by exact Hm.out.new (hw.dr)) (by exact Hb.out.new hw.dr) hs hlen hf (by omega)).mono ?_; rintro e w2 ⟨rfl, hw2⟩; have c0'' := hw2.c c0'; have c2'' := hw2.c c2'; have f2'' := hw2.f c2' f2'; have N2 := New.tr hw hw2.un)
  all_goals
    go_wp2_with (go_at_call 33; go_loud (refine (mdrop_has FM H m _ ps k _ (by exact (Hm.out.new N2).tset (fun b h => (Hd.out b h).2) _ _) (by exact (Hb.out.new N2).keep fun b _ h => Below.heap_setCell _ _ _ b (hHt b h)) hs hlen Hh.out).mono ?_); rintro e w3 ⟨rfl, hm3, hc3⟩)
    refine bodyPost_ret (v := .tuple #[.int .u64 (get ps k), .bool true]) (by simp [results, Try.results11, go_sem]) rfl ⟨rfl, ?_⟩
    have h1' := heap_setCell_same (i := 2) (N2.hb h1) (.int .i64 (live - alone ps k))
    have hx := TAt.put (F := F) (New.refl _) h1' h2 Hd.out hm3 hc3
    have hz := N2.size
    refine ⟨hx.1.mono fun b _ h => Gr.step (by simpa using hz) h, ((Chg.of_new N2).trans (Chg.setCell _ _ _) fun b _ e => by simp only at e; rw [e]; exact h2).trans hx.2 fun _ _ h => h⟩

set_option maxHeartbeats 2000000 in
theorem tdrop_not (F H : Nat → Prop) (t : Nat) (u : Value) (ps : List Pr) (k : Key) (most live : Int) (w : World) (ht : TAt w F t ps most live) (hb : BytesAt w H u k) (hs : Sorted ps) (hlen : ps.length ≤ 1048576) (hh : has ps k = false) :
    Calls Try.prog 11 #[.pointer (some ⟨t, 0, none⟩), u] w fun e w' => e = .returned (.tuple #[.int .u64 0, .bool false]) ∧ New w w' := by
  have Hh := Lib.hid hh
  clear hh
  go_enter Try.func11, Try.ntmps11
  go_wp2_with (go_at_call 13; refine (tget_calls F H t _ ps k most live _ ht hb hs hlen).mono ?_; rintro e w1 ⟨rfl, hw⟩; rw [Hh.out])
  go_ret2
  exact ⟨rfl, hw⟩

end Go.Proofs.Ytbnipbhkdodfpaa
