/- Reading one pair by its place. -/
import Derived.Test.YtbnipbhkdodfpaaModel
namespace Go.Proofs.Ytbnipbhkdodfpaa
open Go.RowKit

def PairV (w : World) (base : Nat) (v : Value) (p : Pr) : Prop := ∃ kv, v = .agg #[kv, .int .u64 p.val] ∧ OwnBytes w base kv p.key
theorem PairV.new {w w' : World} {base : Nat} {v : Value} {p : Pr} (h : PairV w base v p) (hn : New w w') : PairV w' base v p := by
  obtain ⟨kv, rfl, h⟩ := h; exact ⟨kv, rfl, h.new hn⟩
theorem PairV.lower {w : World} {base base' : Nat} {v : Value} {p : Pr} (h : PairV w base v p) (hb : base' ≤ base) : PairV w base' v p := by
  obtain ⟨kv, rfl, h⟩ := h; exact ⟨kv, rfl, h.lower hb⟩
theorem PairV.zero (w : World) (base : Nat) : PairV w base (.agg #[.slice none 0 0, .int .u64 0]) default := ⟨_, rfl, OwnBytes.nil w base⟩

def nth (ps : List Pr) (i : Int) : Option Pr := if i < 0 then none else ps[i.toNat]?
theorem nth_out {ps : List Pr} {i : Int} (h : i < 0 ∨ (ps.length : Int) ≤ i) : nth ps i = none := by
  unfold nth; split
  · rfl
  · exact List.getElem?_eq_none (by omega)
theorem nth_in {ps : List Pr} {i : Int} {p : Pr} (h : nth ps i = some p) : 0 ≤ i ∧ i < ps.length ∧ ps[i.toNat]? = some p := by
  unfold nth at h; split at h
  · cases h
  · have := (List.getElem?_eq_some_iff.1 h).1; exact ⟨by omega, by omega, h⟩

set_option maxHeartbeats 1000000 in
theorem mselect_in (F : Nat → Prop) (m : Nat) (ps : List Pr) (i : Int) (p : Pr) (w : World) (hm : MapAt w F m ps) (hp : nth ps i = some p) (hkl : p.key.length ≤ 140737488355328) :
    Calls Try.prog 38 #[.pointer (some ⟨m, 0, none⟩), .int .i64 i] w fun e w' => ∃ v, e = .returned (.tuple #[v, .bool true]) ∧ New w w' ∧ PairV w' w.heap.size v p := by
  obtain ⟨i0, i1, hp⟩ := nth_in hp
  obtain ⟨i, rfl⟩ : ∃ n : Nat, i = n := ⟨i.toNat, by omega⟩
  rw [Int.toNat_natCast] at hp
  have hl : i < ps.length := by omega
  have Hm := Lib.hid hm
  have hN := (New.refl w).al (.cells #[.slice none 0 0, .int .u64 0] 40)
  obtain ⟨v, hc, hpp⟩ := (hm.new hN).read
  obtain ⟨A, c, rfl, h1, h2, h3⟩ := id hpp
  obtain ⟨g, off, kv, rfl, _, q1, q2, q3⟩ := hpp.at2 hp
  have e0 := World.cell?_alloc_new w #[.slice none 0 0, .int .u64 0] 40 0
  have e1 := World.cell?_alloc_new w #[.slice none 0 0, .int .u64 0] 40 1
  have f0 := World.frozen?_alloc_new w #[.slice none 0 0, .int .u64 0] 40 0
  have f1 := World.frozen?_alloc_new w #[.slice none 0 0, .int .u64 0] 40 1
  have hs : (w.alloc (.cells #[.slice none 0 0, .int .u64 0] 40)).heap.size = w.heap.size + 1 := by simp
  have hM := Lib.hid (hm.new hN)
  clear h3 hm hpp
  have g1 : decide ((i : Int) < 0) = false := by simp
  have g2 : decide ((i : Int) ≥ ps.length) = false := by simp; omega
  go_enter Try.func38, Try.ntmps38
  go_wp2_with (first
    | (go_at_call 40; refine (mlen_calls F m ps _ (by exact hM.out)).mono ?_; rintro e w1 ⟨rfl, rfl⟩)
    | (go_at_call 59; refine (copied_calls F kv p _ (by exact q2) hkl).mono ?_; rintro e w1 ⟨kv', rfl, hw, ho⟩; go_loud (obtain ⟨A2, c2, rfl, -, -⟩ := Own.shape ho; have d0 := hw.c (e0.trans rfl); have d1 := hw.c (e1.trans rfl); have k0 := hw.f (e0.trans rfl) f0; have k1 := hw.f (e1.trans rfl) f1)))
  refine bodyPost_ret (v := .tuple #[.agg #[.slice A2 p.key.length c2, .int .u64 p.val], .bool true]) (by simp [results, Try.results38, go_sem, d0, d1]) rfl ⟨_, rfl, ?_, _, rfl, ?_⟩
  · exact ((hN.tr hw).setCell (by simp) _).setCell (by simp) _
  · exact ((Own.set_ (Own.set_ ho (by simp [hs]) _) (by simp [hs]) _).lower (by simp [hs]))

set_option maxHeartbeats 1000000 in
theorem mselect_out (F : Nat → Prop) (m : Nat) (ps : List Pr) (i : Int) (w : World) (hm : MapAt w F m ps) (ho : i < 0 ∨ (ps.length : Int) ≤ i) :
    Calls Try.prog 38 #[.pointer (some ⟨m, 0, none⟩), .int .i64 i] w fun e w' => e = .returned (.tuple #[.agg #[.slice none 0 0, .int .u64 0], .bool false]) ∧ New w w' := by
  have hN := (New.refl w).al (.cells #[.slice none 0 0, .int .u64 0] 40)
  have e0 := World.cell?_alloc_new w #[.slice none 0 0, .int .u64 0] 40 0
  have e1 := World.cell?_alloc_new w #[.slice none 0 0, .int .u64 0] 40 1
  have f0 := World.frozen?_alloc_new w #[.slice none 0 0, .int .u64 0] 40 0
  have f1 := World.frozen?_alloc_new w #[.slice none 0 0, .int .u64 0] 40 1
  have hM := Lib.hid (hm.new hN)
  clear hm
  by_cases h : i < 0
  · clear ho
    go_enter Try.func38, Try.ntmps38
    go_wp2
    refine bodyPost_ret (v := .tuple #[.agg #[.slice none 0 0, .int .u64 0], .bool false]) (by simp [results, Try.results38, go_sem, e0, e1]) rfl ⟨rfl, ?_⟩
    exact hN
  · have ho : (ps.length : Int) ≤ i := by omega
    have ho' : i ≥ (ps.length : Int) := ho
    go_enter Try.func38, Try.ntmps38
    go_wp2_with (go_at_call 40; refine (mlen_calls F m ps _ (by exact hM.out)).mono ?_; rintro e w1 ⟨rfl, rfl⟩)
    refine bodyPost_ret (v := .tuple #[.agg #[.slice none 0 0, .int .u64 0], .bool false]) (by simp [results, Try.results38, go_sem, e0, e1]) rfl ⟨rfl, ?_⟩
    exact hN

set_option maxHeartbeats 1000000 in
theorem mselect_nil (i : Int) (w : World) :
    Calls Try.prog 38 #[.pointer none, .int .i64 i] w fun e w' => e = .returned (.tuple #[.agg #[.slice none 0 0, .int .u64 0], .bool false]) ∧ New w w' := by
  have hN := (New.refl w).al (.cells #[.slice none 0 0, .int .u64 0] 40)
  have e0 := World.cell?_alloc_new w #[.slice none 0 0, .int .u64 0] 40 0
  have e1 := World.cell?_alloc_new w #[.slice none 0 0, .int .u64 0] 40 1
  by_cases h : i < 0
  · go_enter Try.func38, Try.ntmps38
    go_wp2
    refine bodyPost_ret (v := .tuple #[.agg #[.slice none 0 0, .int .u64 0], .bool false]) (by simp [results, Try.results38, go_sem, e0, e1]) rfl ⟨rfl, ?_⟩
    exact hN
  · have ho : 0 ≤ i := by omega
    have ho' : i ≥ 0 := ho
    go_enter Try.func38, Try.ntmps38
    go_wp2_with (go_at_call 40; refine (mlen_nil _).mono ?_; rintro e w1 ⟨rfl, rfl⟩)
    refine bodyPost_ret (v := .tuple #[.agg #[.slice none 0 0, .int .u64 0], .bool false]) (by simp [results, Try.results38, go_sem, e0, e1]) rfl ⟨rfl, ?_⟩
    exact hN

/-- A short key is one whose copy can be made. -/
def Fit (ps : List Pr) : Prop := ∀ p ∈ ps, p.key.length ≤ 140737488355328
theorem nth_mem {ps : List Pr} {i : Int} {p : Pr} (h : nth ps i = some p) : p ∈ ps := List.mem_of_getElem? (nth_in h).2.2

theorem mselect_calls (F : Nat → Prop) (m : Nat) (ps : List Pr) (i : Int) (w : World) (hm : MapAt w F m ps) (hf : Fit ps) :
    Calls Try.prog 38 #[.pointer (some ⟨m, 0, none⟩), .int .i64 i] w fun e w' => ∃ v, e = .returned (.tuple #[v, .bool (nth ps i).isSome]) ∧ New w w' ∧ PairV w' w.heap.size v ((nth ps i).getD default) := by
  cases h : nth ps i with
  | some p => exact mselect_in F m ps i p w hm h (hf p (nth_mem h))
  | none =>
    refine (mselect_out F m ps i w hm ?_).mono ?_
    · unfold nth at h; split at h
      · exact .inl ‹_›
      · have := List.getElem?_eq_none_iff.1 h; right; omega
    · rintro e w' ⟨rfl, hN⟩
      exact ⟨_, rfl, hN, PairV.zero _ _⟩

theorem PairV.shape {w : World} {base : Nat} {v : Value} {p : Pr} (h : PairV w base v p) : ∃ A c, v = .agg #[.slice A p.key.length c, .int .u64 p.val] ∧ OwnBytes w base (.slice A p.key.length c) p.key := by
  obtain ⟨kv, rfl, h⟩ := h
  obtain ⟨A, c, rfl, -, -⟩ := Own.shape h
  exact ⟨A, c, rfl, h⟩

def floorI (ps : List Pr) (k : Key) : Int := if has ps k then rank ps k else rank ps k - 1

set_option maxHeartbeats 1000000 in
theorem mceil_calls (F H : Nat → Prop) (m : Nat) (u : Value) (ps : List Pr) (k : Key) (w : World) (hm : MapAt w F m ps) (hb : BytesAt w H u k) (hs : Sorted ps) (hlen : ps.length ≤ 1048576) (hf : Fit ps) :
    Calls Try.prog 39 #[.pointer (some ⟨m, 0, none⟩), u] w fun e w' => ∃ v, e = .returned (.tuple #[v, .bool (nth ps (rank ps k)).isSome]) ∧ New w w' ∧ PairV w' w.heap.size v ((nth ps (rank ps k)).getD default) := by
  have hN := (New.refl w).al (.cells #[.slice none 0 0, .int .u64 0] 40)
  have e0 := World.cell?_alloc_new w #[.slice none 0 0, .int .u64 0] 40 0
  have e1 := World.cell?_alloc_new w #[.slice none 0 0, .int .u64 0] 40 1
  have f0 := World.frozen?_alloc_new w #[.slice none 0 0, .int .u64 0] 40 0
  have f1 := World.frozen?_alloc_new w #[.slice none 0 0, .int .u64 0] 40 1
  have hz : (w.alloc (.cells #[.slice none 0 0, .int .u64 0] 40)).heap.size = w.heap.size + 1 := by simp
  have hM := Lib.hid (hm.new hN)
  have hB := Lib.hid (hb.new hN)
  clear hm hb
  go_enter Try.func39, Try.ntmps39
  go_wp2_with (first
    | (go_at_call 50; refine (mfind_calls F H m _ ps k _ (by exact hM.out) (by exact hB.out) hs hlen).mono ?_; rintro e w1 ⟨rfl, hw⟩)
    | (go_at_call 38; refine (mselect_calls F m ps _ _ (by exact hM.out.new hw) hf).mono ?_; rintro e w2 ⟨v, rfl, hw2, hv⟩; go_loud (obtain ⟨A2, c2, rfl, ho⟩ := hv.shape; have hw3 := hw.tr hw2; have d0 := hw3.c (e0.trans rfl); have d1 := hw3.c (e1.trans rfl); have k0 := hw3.f (e0.trans rfl) f0; have k1 := hw3.f (e1.trans rfl) f1)))
  refine bodyPost_ret (v := .tuple #[.agg #[.slice A2 ((nth ps (rank ps k)).getD default).key.length c2, .int .u64 ((nth ps (rank ps k)).getD default).val], .bool (nth ps (rank ps k)).isSome]) (by simp [results, Try.results39, go_sem, d0, d1]) rfl ⟨_, rfl, ?_, _, rfl, ?_⟩
  · exact ((hN.tr hw3).setCell (by simp) _).setCell (by simp) _
  · have := hw.size
    exact ((Own.set_ (Own.set_ ho (by simp; omega) _) (by simp; omega) _).lower (by omega))

end Go.Proofs.Ytbnipbhkdodfpaa
