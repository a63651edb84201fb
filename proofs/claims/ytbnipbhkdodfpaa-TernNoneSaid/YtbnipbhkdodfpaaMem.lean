/- How keys and pairs lie in memory: plain facts on worlds, no program. -/
import Derived.WalkKit
import Derived.WalkSpells
import Derived.WalkLawsBesides
import Derived.KernelRfl
import Derived.Lib.Hide
import Derived.Laws.CopyOwn
import Derived.Laws.BytesArg
import Derived.Maps.AppendAt
import Derived.Deep.AppendSrc
import Derived.Lib.Bytealg
import Derived.Laws.Externs
import Derived.Test.YtbnipbhkdodfpaaLcp
import Derived.Test.YtbnipbhkdodfpaaApp
namespace Go.Proofs.Ytbnipbhkdodfpaa
open Go.RowKit

/-- Only new blocks have come. -/
abbrev New (w w' : World) : Prop := Below w.heap.size w w'

theorem New.refl (w : World) : New w w := Below.refl _ w
theorem New.tr {w w1 w2 : World} (h : New w w1) (k : New w1 w2) : New w w2 := h.trans (k.mono h.size)
theorem New.al {w w1 : World} (h : New w w1) (o : Obj) : New w (w1.alloc o) := h.alloc h.size o
theorem New.dr {w w1 : World} (h : New w w1) : New w w1.drew := Below.drew h
theorem New.drN {w w1 : World} (h : New w w1) (n : Nat) : New w (w1.drewN n) := ⟨h.os, h.tape, h.output, h.size, h.block⟩
theorem New.c {w w1 : World} (h : New w w1) {a : Addr} {v : Value} (hc : w.cell? a = some v) : w1.cell? a = some v := (h.cell (World.block_lt_of_cell? w a hc)).trans hc
theorem New.hb {w w1 : World} (h : New w w1) {b : Nat} {o : Obj} (hc : w.heap[b]? = some o) : w1.heap[b]? = some o :=
  (h.block b (Array.getElem?_eq_some_iff.1 hc).1).trans hc
theorem Below.tr {B : Nat} {w w1 w2 : World} (h : Below B w w1) (hB : B ≤ w1.heap.size) (k : New w1 w2) : Below B w w2 := h.trans (k.mono hB)

/-- Only what lies in F has turned, and new blocks have come. -/
structure Chg (F : Nat → Prop) (w w' : World) : Prop where
  os : w'.os = w.os
  tape : w'.tape = w.tape
  output : w'.output = w.output
  size : w.heap.size ≤ w'.heap.size
  block : ∀ k, k < w.heap.size → ¬ F k → w'.heap[k]? = w.heap[k]?

theorem Chg.of_new {F : Nat → Prop} {w w' : World} (h : New w w') : Chg F w w' := ⟨h.os, h.tape, h.output, h.size, fun k hk _ => h.block k hk⟩
theorem Chg.refl (F : Nat → Prop) (w : World) : Chg F w w := .of_new (New.refl w)
theorem Chg.trans {F G : Nat → Prop} {w w1 w2 : World} (h : Chg F w w1) (k : Chg G w1 w2) (hG : ∀ b, b < w.heap.size → G b → F b) : Chg F w w2 :=
  ⟨k.os.trans h.os, k.tape.trans h.tape, k.output.trans h.output, Nat.le_trans h.size k.size,
    fun b hb hF => (k.block b (Nat.lt_of_lt_of_le hb h.size) fun hg => hF (hG b hb hg)).trans (h.block b hb hF)⟩
theorem Chg.mono {F G : Nat → Prop} {w w1 : World} (h : Chg F w w1) (hG : ∀ b, b < w.heap.size → F b → G b) : Chg G w w1 :=
  ⟨h.os, h.tape, h.output, h.size, fun b hb hF => h.block b hb fun hf => hF (hG b hb hf)⟩
theorem Chg.below {F : Nat → Prop} {w w1 : World} {B : Nat} (h : Chg F w w1) (hB : B ≤ w.heap.size) (hF : ∀ b, b < B → ¬ F b) : Below B w w1 :=
  ⟨h.os, h.tape, h.output, h.size, fun b hb => h.block b (Nat.lt_of_lt_of_le hb hB) (hF b hb)⟩
theorem Chg.new {w w1 : World} (h : Chg (fun _ => False) w w1) : New w w1 := h.below (Nat.le_refl _) fun _ _ => id
theorem Chg.tr {F : Nat → Prop} {w w1 w2 : World} (h : Chg F w w1) (k : New w1 w2) : Chg F w w2 := h.trans (Chg.of_new (F := fun _ => False) k) fun _ _ => False.elim
theorem Chg.grown {w w1 : World} {row : Option Nat} (h : w.grownBy w1 row) : Chg (fun b => some b = row) w w1 :=
  ⟨h.os, h.tape, h.output, h.size, fun b hb hF => h.block b hb hF⟩
theorem Chg.setCell (w : World) (p : Addr) (u : Value) : Chg (fun b => b = p.block) w (w.setCell p u) :=
  ⟨rfl, rfl, rfl, by simp [World.setCell], fun b _ hF => Below.heap_setCell w p u b hF⟩

theorem cell_of_heap {w : World} {b i : Nat} {cs : Array Value} {t : TypeId} {fr : Nat × Nat} {v : Value} (h : w.heap[b]? = some (.cells cs t fr)) (hi : cs[i]? = some v) : w.cell? ⟨b, i, none⟩ = some v := by
  simp [World.cell?, h, hi]
theorem frozen_of_heap {w : World} {b i : Nat} {cs : Array Value} {t : TypeId} (h : w.heap[b]? = some (.cells cs t (0, 0))) : w.frozen? ⟨b, i, none⟩ = false := by
  simp [World.frozen?, h]
theorem heap_setCell_same {w : World} {b i : Nat} {cs : Array Value} {t : TypeId} {fr : Nat × Nat} (h : w.heap[b]? = some (.cells cs t fr)) (u : Value) :
    (w.setCell ⟨b, i, none⟩ u).heap[b]? = some (.cells (cs.setIfInBounds i u) t fr) := by
  simp [World.setCell, Array.getElem?_modify, h]
theorem heap_new (w : World) (o : Obj) : (w.alloc o).heap[w.heap.size]? = some o := by
  show (w.heap.push o)[w.heap.size]? = some o
  simp

theorem cell_past {w : World} {a : Addr} {v : Value} (h : w.cell? a = some v) (o : Obj) : (w.alloc o).cell? a = some v := ((New.refl w).al o).c h
theorem frozen_past {w : World} {a : Addr} (h : a.block < w.heap.size) (hf : w.frozen? a = false) (o : Obj) : (w.alloc o).frozen? a = false := by
  rw [World.frozen?_of_block (w := w) (Below.heap_alloc w o a.block h)]; exact hf
theorem New.f {w w1 : World} (h : New w w1) {a : Addr} {v : Value} (hc : w.cell? a = some v) (hf : w.frozen? a = false) : w1.frozen? a = false :=
  (h.frozen (World.block_lt_of_cell? w a hc)).trans hf
/-- Two boxes laid one behind the other. -/
theorem two_cells (w : World) (a b : Array Value) (s t : TypeId) {i : Nat} {v : Value} (h : a[i]? = some v) : ((w.alloc (.cells a s)).alloc (.cells b t)).cell? ⟨w.heap.size, i, none⟩ = some v :=
  cell_past (by simpa using h) _
theorem two_cells' (w : World) (a b : Array Value) (s t : TypeId) {i : Nat} {v : Value} (h : b[i]? = some v) : ((w.alloc (.cells a s)).alloc (.cells b t)).cell? ⟨w.heap.size + 1, i, none⟩ = some v := by
  have := World.cell?_alloc_new (w.alloc (.cells a s)) b t i
  rw [World.size_alloc] at this
  rw [this, h]
theorem two_free' (w : World) (a b : Array Value) (s t : TypeId) (i : Nat) : ((w.alloc (.cells a s)).alloc (.cells b t)).frozen? ⟨w.heap.size + 1, i, none⟩ = false := by
  have := World.frozen?_alloc_new (w.alloc (.cells a s)) b t i
  rw [World.size_alloc] at this
  exact this

/-! ### keys -/
def u8 (x : UInt8) : Value := .int .u8 (x.toNat : Int)

/-- A slice value that reads as a key; the block that it leads to is one of G. -/
def BytesAt (w : World) (G : Nat → Prop) (v : Value) (bs : Key) : Prop :=
  ∃ A c, v = .slice A bs.length c ∧ bs.length ≤ c ∧ c ≤ 9223372036854775807 ∧
    (0 < bs.length → ∃ b off, A = some ⟨b, off, none⟩ ∧ G b ∧ ∀ i, i < bs.length → w.cell? ⟨b, off + i, none⟩ = some (.int .u8 ((bs[i]?.getD 0).toNat : Int)))

theorem BytesAt.nil (w : World) (G : Nat → Prop) : BytesAt w G (.slice none 0 0) [] := ⟨none, 0, rfl, Nat.le_refl _, by omega, by simp⟩

theorem BytesAt.keep {w w' : World} {G : Nat → Prop} {v : Value} {bs : Key} (h : BytesAt w G v bs) (hk : ∀ b, b < w.heap.size → G b → w'.heap[b]? = w.heap[b]?) : BytesAt w' G v bs := by
  obtain ⟨A, c, hv, h1, h2, h3⟩ := h
  refine ⟨A, c, hv, h1, h2, fun h0 => ?_⟩
  obtain ⟨b, off, ha, hg, hc⟩ := h3 h0
  refine ⟨b, off, ha, hg, fun i hi => ?_⟩
  have hl : b < w.heap.size := World.block_lt_of_cell? w _ (hc i hi)
  rw [World.cell?_of_block (w := w) (hk b hl hg)]
  exact hc i hi

theorem BytesAt.new {w w' : World} {G : Nat → Prop} {v : Value} {bs : Key} (h : BytesAt w G v bs) (hn : New w w') : BytesAt w' G v bs :=
  h.keep fun b hb _ => hn.block b hb
theorem BytesAt.mono {w : World} {G G' : Nat → Prop} {v : Value} {bs : Key} (h : BytesAt w G v bs) (hg : ∀ b, b < w.heap.size → G b → G' b) : BytesAt w G' v bs := by
  obtain ⟨A, c, hv, h1, h2, h3⟩ := h
  refine ⟨A, c, hv, h1, h2, fun h0 => ?_⟩
  obtain ⟨b, off, ha, hgb, hc⟩ := h3 h0
  exact ⟨b, off, ha, hg b (World.block_lt_of_cell? w _ (hc 0 h0)) hgb, hc⟩
theorem BytesAt.chg {w w' : World} {F G : Nat → Prop} {v : Value} {bs : Key} (h : BytesAt w G v bs) (hn : Chg F w w') (hd : ∀ b, G b → ¬ F b) : BytesAt w' G v bs :=
  h.keep fun b hb hg => hn.block b hb (hd b hg)

/-- One cell of a key. -/
theorem BytesAt.at_ {w : World} {G : Nat → Prop} {A : Option Addr} {n c : Nat} {bs : Key} (h : BytesAt w G (.slice A n c) bs) {i : Nat} (hi : i < bs.length) :
    ∃ b off, A = some ⟨b, off, none⟩ ∧ w.cell? ⟨b, off + i, none⟩ = some (.int .u8 ((bs[i]?.getD 0).toNat : Int)) := by
  obtain ⟨A', c', hv, _, _, h3⟩ := h
  injection hv with e1 e2 e3
  obtain ⟨b, off, ha, _, hc⟩ := h3 (by omega)
  exact ⟨b, off, e1.trans ha, hc i hi⟩

theorem BytesAt.take {w : World} {G : Nat → Prop} {A : Option Addr} {n c m : Nat} {bs : Key} (h : BytesAt w G (.slice A n c) bs) (hm : m ≤ bs.length) : BytesAt w G (.slice A m c) (bs.take m) := by
  obtain ⟨A', c', hv, h1, h2, h3⟩ := h
  injection hv with e1 e2 e3
  subst e1; subst e3
  refine ⟨A, c, by simp [Nat.min_eq_left hm], by simp; omega, h2, fun h0 => ?_⟩
  have h0' : 0 < m := by simp at h0; omega
  obtain ⟨b, off, ha, hg, hc⟩ := h3 (by omega)
  refine ⟨b, off, ha, hg, fun i hi => ?_⟩
  have hi' : i < m := by simp at hi; omega
  rw [hc i (by omega), List.getElem?_take_of_lt hi']
theorem BytesAt.len {w : World} {G : Nat → Prop} {A : Option Addr} {n c : Nat} {bs : Key} (h : BytesAt w G (.slice A n c) bs) : n = bs.length ∧ n ≤ c ∧ c ≤ 9223372036854775807 := by
  obtain ⟨A', c', hv, h1, h2, h3⟩ := h
  injection hv with e1 e2 e3
  exact ⟨e2, by omega, by omega⟩

theorem strOf_key (bs : Key) : strOfNums (bs.map fun x => (x.toNat : Int)) = ⟨bs.toArray⟩ := by
  unfold strOfNums
  rw [List.map_map]
  congr 2
  have : ((fun n : Int => UInt8.ofNat n.toNat) ∘ fun x : UInt8 => (x.toNat : Int)) = id := by funext x; simp
  rw [this, List.map_id]

/-- string(k) -/
theorem BytesAt.str {P : Program} {w : World} {G : Nat → Prop} {v : Value} {bs : Key} (h : BytesAt w G v bs) {src e dst : TypeId} (hs : P.underlying src = some (.slice e)) (he : P.underlying e = some (.int .u8)) (hd : P.underlying dst = some .string) :
    (convert src dst v).run P w = .ok (.string ⟨bs.toArray⟩) w := by
  obtain ⟨A, c, rfl, h1, h2, h3⟩ := h
  rcases Nat.eq_zero_or_pos bs.length with h0 | h0
  · have hb : bs = [] := List.eq_nil_of_length_eq_zero h0
    subst hb
    cases A with
    | none => exact run_convert_bytes_nil w src e hs he 0 c dst hd
    | some a =>
      have hl := run_loadCells_list (P := P) w a [] (by simp)
      rw [run_convert_bytes_string w src dst e _ _ c hs he hd]
      simp only [List.length_nil] at hl
      simp [Conv.bytesToString, hl]
      rfl
  · obtain ⟨b, off, rfl, _, hc⟩ := h3 h0
    rw [← strOf_key]
    refine run_convert_bytes_arg w src e hs he b off bs.length c _ (by simp) (fun i hi => ?_) dst hd
    rw [hc i hi]
    simp [List.getD_eq_getElem?_getD, List.getElem?_eq_getElem hi]

theorem run_loadBytes {P : Program} (w : World) (b : Nat) : ∀ (bs : Key) (off : Nat) (acc : ByteArray), (∀ i, i < bs.length → w.cell? ⟨b, off + i, none⟩ = some (.int .u8 ((bs[i]?.getD 0).toNat : Int))) →
    (Extern.Bytes.loadBytes ⟨b, off, none⟩ bs.length acc).run P w = .ok ⟨acc.data ++ bs.toArray⟩ w := by
  intro bs
  induction bs with
  | nil => intro off acc _; simp [Extern.Bytes.loadBytes, Sem.run]
  | cons x xs ih =>
    intro off acc h
    have h0 := h 0 (by simp)
    simp only [Nat.add_zero, List.getElem?_cons_zero, Option.getD_some] at h0
    have ha : (⟨b, off, none⟩ : Addr).add 1 = ⟨b, off + 1, none⟩ := rfl
    have hr := ih (off + 1) (acc.push x) (fun i hi => by
      have := h (i + 1) (by simpa using hi)
      rw [show off + 1 + i = off + (i + 1) from by omega]
      simpa using this)
    simp only [List.length_cons, Extern.Bytes.loadBytes, Sem.run_bind, load, Sem.run, h0, Result.andThen, ha]
    have hx : (((x.toNat : Int)).toNat).toUInt8 = x := by simp
    rw [hx, hr]
    congr 2
    simp [ByteArray.push]

/-- how two keys stand to each other -/
def kcmp (a b : Key) : Int := if klt a b then -1 else if klt b a then 1 else 0
theorem kcmp_lib (a b : Key) : Lib.compareBytes a b = kcmp a b := by
  induction a generalizing b with
  | nil => cases b <;> simp [Lib.compareBytes, kcmp, klt]
  | cons x xs ih =>
    cases b with
    | nil => simp [Lib.compareBytes, kcmp, klt]
    | cons y ys =>
      simp only [Lib.compareBytes, kcmp, klt]
      by_cases h1 : x < y
      · simp [h1]
      · by_cases h2 : y < x
        · have h3 : ¬ x = y := fun e => by subst e; exact UInt8.lt_irrefl _ h2
          simp [h1, h2, h3]
        · have h3 : x = y := UInt8.le_antisymm (UInt8.not_lt.1 h2) (UInt8.not_lt.1 h1)
          subst h3
          rw [ih]
          simp [kcmp]
theorem kcmp_lt (a b : Key) : (kcmp a b < 0) ↔ klt a b = true := by
  unfold kcmp
  split
  · rename_i h; simp [h]
  · rename_i h; split <;> simp_all
theorem kcmp_zero (a b : Key) : (kcmp a b = 0) ↔ a = b := by
  unfold kcmp
  split
  · rename_i h; simp [klt_ne h]
  · rename_i h
    split
    · rename_i h2; simp [(klt_ne h2).symm]
    · rename_i h2
      simp only [true_iff]
      exact klt_tri (by simpa using h) (by simpa using h2)
theorem kcmp_beq (a b : Key) : (kcmp a b == 0) = (a == b) := by
  have := kcmp_zero a b
  rw [Bool.eq_iff_iff, beq_iff_eq, beq_iff_eq]
  exact this
theorem run_compare {P : Program} {w : World} {G H : Nat → Prop} {v u : Value} {a b : Key} (ha : BytesAt w G v a) (hb : BytesAt w H u b) :
    (Extern.BytealgCompare.compare #[v, u]).run P w = .ok (.int .i64 (kcmp a b)) w := by
  have hof : ∀ {G : Nat → Prop} {v : Value} {a : Key}, BytesAt w G v a → (Extern.Bytes.bytesOf v).run P w = .ok ⟨a.toArray⟩ w := by
    intro G v a h
    obtain ⟨A, c, rfl, h1, h2, h3⟩ := h
    rcases Nat.eq_zero_or_pos a.length with h0 | h0
    · have e : a = [] := List.eq_nil_of_length_eq_zero h0
      subst e
      cases A with
      | none => rfl
      | some ad => rfl
    · obtain ⟨b, off, rfl, _, hc⟩ := h3 h0
      have := run_loadBytes (P := P) w b a off ByteArray.empty hc
      simpa [Extern.Bytes.bytesOf] using this
  change Sem.run P (do pure (goInt (Extern.BytealgCompare.cmp (← Extern.Bytes.bytesOf v) (← Extern.Bytes.bytesOf u)))) w = _
  simp only [Sem.run_bind, hof ha, hof hb, Result.andThen, Sem.run_pure, Lib.cmp_eq, kcmp_lib, goInt]

/-! ### pairs -/
def PairAt (w : World) (G : Nat → Prop) (b off : Nat) (p : Pr) : Prop :=
  ∃ kv, w.cell? ⟨b, off, none⟩ = some kv ∧ BytesAt w G kv p.key ∧ w.cell? ⟨b, off + 1, none⟩ = some (.int .u64 p.val)

def PairsAt (w : World) (G : Nat → Prop) (v : Value) (ps : List Pr) : Prop :=
  ∃ A c, v = .slice A ps.length c ∧ ps.length ≤ c ∧ c ≤ 9223372036854775807 ∧
    (0 < ps.length → ∃ b off, A = some ⟨b, off, none⟩ ∧ G b ∧ ∀ i, i < ps.length → PairAt w G b (off + i * 2) (ps[i]?.getD default))

theorem PairAt.lt {w : World} {G : Nat → Prop} {b off : Nat} {p : Pr} (h : PairAt w G b off p) : b < w.heap.size := by
  obtain ⟨kv, hc, _⟩ := h
  exact World.block_lt_of_cell? w _ hc

theorem PairAt.keep {w w' : World} {G : Nat → Prop} {b off : Nat} {p : Pr} (h : PairAt w G b off p) (hb : G b) (hk : ∀ b, b < w.heap.size → G b → w'.heap[b]? = w.heap[b]?) : PairAt w' G b off p := by
  have hl := h.lt
  obtain ⟨kv, h1, h2, h3⟩ := h
  have e := hk b hl hb
  exact ⟨kv, by rw [World.cell?_of_block (w := w) e]; exact h1, h2.keep hk, by rw [World.cell?_of_block (w := w) e]; exact h3⟩

theorem PairsAt.keep {w w' : World} {G : Nat → Prop} {v : Value} {ps : List Pr} (h : PairsAt w G v ps) (hk : ∀ b, b < w.heap.size → G b → w'.heap[b]? = w.heap[b]?) : PairsAt w' G v ps := by
  obtain ⟨A, c, hv, h1, h2, h3⟩ := h
  refine ⟨A, c, hv, h1, h2, fun h0 => ?_⟩
  obtain ⟨b, off, ha, hg, hc⟩ := h3 h0
  exact ⟨b, off, ha, hg, fun i hi => (hc i hi).keep hg hk⟩

theorem PairsAt.new {w w' : World} {G : Nat → Prop} {v : Value} {ps : List Pr} (h : PairsAt w G v ps) (hn : New w w') : PairsAt w' G v ps :=
  h.keep fun b hb _ => hn.block b hb
theorem PairsAt.chg {w w' : World} {F G : Nat → Prop} {v : Value} {ps : List Pr} (h : PairsAt w G v ps) (hn : Chg F w w') (hd : ∀ b, G b → ¬ F b) : PairsAt w' G v ps :=
  h.keep fun b hb hg => hn.block b hb (hd b hg)
theorem PairAt.mono {w : World} {G G' : Nat → Prop} {b off : Nat} {p : Pr} (h : PairAt w G b off p) (hg : ∀ b, b < w.heap.size → G b → G' b) : PairAt w G' b off p := by
  obtain ⟨kv, h1, h2, h3⟩ := h
  exact ⟨kv, h1, h2.mono hg, h3⟩
theorem PairsAt.mono {w : World} {G G' : Nat → Prop} {v : Value} {ps : List Pr} (h : PairsAt w G v ps) (hg : ∀ b, b < w.heap.size → G b → G' b) : PairsAt w G' v ps := by
  obtain ⟨A, c, hv, h1, h2, h3⟩ := h
  refine ⟨A, c, hv, h1, h2, fun h0 => ?_⟩
  obtain ⟨b, off, ha, hgb, hc⟩ := h3 h0
  exact ⟨b, off, ha, hg b (hc 0 h0).lt hgb, fun i hi => (hc i hi).mono hg⟩

theorem PairsAt.nil (w : World) (G : Nat → Prop) : PairsAt w G (.slice none 0 0) [] := ⟨none, 0, rfl, Nat.le_refl _, by omega, by simp⟩

/-- One pair. -/
theorem PairsAt.at_ {w : World} {G : Nat → Prop} {A : Option Addr} {n c : Nat} {ps : List Pr} (h : PairsAt w G (.slice A n c) ps) {i : Nat} (hi : i < ps.length) :
    ∃ b off kv, A = some ⟨b, off, none⟩ ∧ G b ∧ w.cell? ⟨b, off + i * 2, none⟩ = some kv ∧ BytesAt w G kv (ps[i]?.getD default).key ∧ w.cell? ⟨b, off + i * 2 + 1, none⟩ = some (.int .u64 (ps[i]?.getD default).val) := by
  obtain ⟨A', c', hv, _, _, h3⟩ := h
  injection hv with e1 e2 e3
  obtain ⟨b, off, ha, hg, hc⟩ := h3 (by omega)
  obtain ⟨kv, k1, k2, k3⟩ := hc i hi
  exact ⟨b, off, kv, e1.trans ha, hg, k1, k2, k3⟩

theorem PairsAt.at2 {w : World} {G : Nat → Prop} {A : Option Addr} {n c : Nat} {ps : List Pr} (h : PairsAt w G (.slice A n c) ps) {i : Nat} {p : Pr} (hi : ps[i]? = some p) :
    ∃ b off kv, A = some ⟨b, off, none⟩ ∧ G b ∧ w.cell? ⟨b, off + i * 2, none⟩ = some kv ∧ BytesAt w G kv p.key ∧ w.cell? ⟨b, off + i * 2 + 1, none⟩ = some (.int .u64 p.val) := by
  obtain ⟨b, off, kv, h1, h2, h3, h4, h5⟩ := h.at_ (List.getElem?_eq_some_iff.1 hi).1
  rw [hi] at h4 h5
  exact ⟨b, off, kv, h1, h2, h3, h4, h5⟩

/-! ### pairs that the call itself has made -/
def PairCells (w : World) (G : Nat → Prop) : List Value → List Pr → Prop
  | cs, [] => cs = []
  | cs, p :: ps => ∃ kv rest, cs = kv :: .int .u64 p.val :: rest ∧ BytesAt w G kv p.key ∧ PairCells w G rest ps

theorem PairCells.keep {w w' : World} {G : Nat → Prop} {cs : List Value} {ps : List Pr} (h : PairCells w G cs ps) (hk : ∀ b, b < w.heap.size → G b → w'.heap[b]? = w.heap[b]?) : PairCells w' G cs ps := by
  induction ps generalizing cs with
  | nil => exact h
  | cons p ps ih => obtain ⟨kv, rest, e, h1, h2⟩ := h; exact ⟨kv, rest, e, h1.keep hk, ih h2⟩
theorem PairCells.mono {w : World} {G G' : Nat → Prop} {cs : List Value} {ps : List Pr} (h : PairCells w G cs ps) (hg : ∀ b, b < w.heap.size → G b → G' b) : PairCells w G' cs ps := by
  induction ps generalizing cs with
  | nil => exact h
  | cons p ps ih => obtain ⟨kv, rest, e, h1, h2⟩ := h; exact ⟨kv, rest, e, h1.mono hg, ih h2⟩
theorem PairCells.append {w : World} {G : Nat → Prop} {cs ds : List Value} {ps qs : List Pr} (h : PairCells w G cs ps) (k : PairCells w G ds qs) : PairCells w G (cs ++ ds) (ps ++ qs) := by
  induction ps generalizing cs with
  | nil => have e : cs = [] := h; subst e; exact k
  | cons p ps ih => obtain ⟨kv, rest, rfl, h1, h2⟩ := h; exact ⟨kv, rest ++ ds, rfl, h1, ih h2⟩
theorem PairCells.one_ {w : World} {G : Nat → Prop} {kv : Value} {p : Pr} (h : BytesAt w G kv p.key) : PairCells w G [kv, .int .u64 p.val] [p] := ⟨kv, [], rfl, h, rfl⟩
theorem PairCells.length {w : World} {G : Nat → Prop} {cs : List Value} {ps : List Pr} (h : PairCells w G cs ps) : cs.length = ps.length * 2 := by
  induction ps generalizing cs with
  | nil => have e : cs = [] := h; subst e; rfl
  | cons p ps ih => obtain ⟨kv, rest, rfl, h1, h2⟩ := h; have := ih h2; simp only [List.length_cons]; omega
theorem PairCells.at_ {w : World} {G : Nat → Prop} {cs : List Value} {ps : List Pr} (h : PairCells w G cs ps) {i : Nat} (hi : i < ps.length) :
    ∃ kv, cs[i * 2]? = some kv ∧ BytesAt w G kv (ps[i]?.getD default).key ∧ cs[i * 2 + 1]? = some (.int .u64 (ps[i]?.getD default).val) := by
  induction ps generalizing cs i with
  | nil => simp at hi
  | cons p ps ih =>
    obtain ⟨kv, rest, rfl, h1, h2⟩ := h
    cases i with
    | zero => exact ⟨kv, rfl, h1, rfl⟩
    | succ i =>
      obtain ⟨kv', k1, k2, k3⟩ := ih h2 (i := i) (by simpa using hi)
      refine ⟨kv', ?_, by simpa using k2, ?_⟩
      · rw [show (i + 1) * 2 = i * 2 + 1 + 1 from by omega]; simpa using k1
      · rw [show (i + 1) * 2 + 1 = i * 2 + 1 + 1 + 1 from by omega]; simpa using k3
theorem oneCell_bytes {w : World} {G : Nat → Prop} {v : Value} {bs : Key} (h : BytesAt w G v bs) : v.oneCell' = true := by
  obtain ⟨A, c, rfl, _⟩ := h; rfl
theorem PairCells.one {w : World} {G : Nat → Prop} {cs : List Value} {ps : List Pr} (h : PairCells w G cs ps) : ∀ v ∈ cs, v.oneCell' = true := by
  induction ps generalizing cs with
  | nil => have e : cs = [] := h; subst e; simp
  | cons p ps ih =>
    obtain ⟨kv, rest, rfl, h1, h2⟩ := h
    intro v hv
    rcases List.mem_cons.1 hv with rfl | hv
    · exact oneCell_bytes h1
    · rcases List.mem_cons.1 hv with rfl | hv
      · rfl
      · exact ih h2 v hv

/-- A slice of pairs that the call owns: its block, and its keys' blocks, are from 'base' on. -/
def OwnPairs (w : World) (base : Nat) (v : Value) (ps : List Pr) : Prop :=
  ∃ cs, Own w base 40 2 v ps.length cs ∧ PairCells w (fun b => base ≤ b) cs ps

theorem OwnPairs.nil (w : World) (base : Nat) : OwnPairs w base (.slice none 0 0) [] := ⟨[], Own.nil _ _ _ _, rfl⟩
theorem OwnPairs.keep {w w' : World} {base base' : Nat} {v : Value} {ps : List Pr} (h : OwnPairs w base v ps) (hb : base' ≤ base) (hk : ∀ b, b < w.heap.size → base ≤ b → w'.heap[b]? = w.heap[b]?) : OwnPairs w' base' v ps := by
  obtain ⟨cs, h1, h2⟩ := h
  exact ⟨cs, h1.keep hb (fun b hl he => hk b hl (h1.base b he).1), (h2.keep hk).mono fun b _ h => Nat.le_trans hb h⟩
theorem OwnPairs.new {w w' : World} {base : Nat} {v : Value} {ps : List Pr} (h : OwnPairs w base v ps) (hn : New w w') : OwnPairs w' base v ps :=
  h.keep (Nat.le_refl _) fun b hb _ => hn.block b hb
theorem OwnPairs.lower {w : World} {base base' : Nat} {v : Value} {ps : List Pr} (h : OwnPairs w base v ps) (hb : base' ≤ base) : OwnPairs w base' v ps :=
  h.keep hb fun _ _ _ => rfl
theorem Own.cases {w : World} {base : Nat} {e : TypeId} {size : Nat} {v : Value} {n : Nat} {xs : List Value} (h : Own w base e size v n xs) (hn : 0 < n) : ∃ g c, v = .slice (some ⟨g, 0, none⟩) n c ∧ base ≤ g := by
  obtain ⟨h1, A, c, rfl, h2, h3, h4, h5⟩ := h
  obtain ⟨g, cur, rfl, k1, _⟩ := h5 (by omega)
  exact ⟨g, c, rfl, k1⟩
theorem Own.shape {w : World} {base : Nat} {e : TypeId} {size : Nat} {v : Value} {n : Nat} {xs : List Value} (h : Own w base e size v n xs) : ∃ A c, v = .slice A n c ∧ n ≤ c ∧ c ≤ 9223372036854775807 := by
  obtain ⟨h1, A, c, rfl, h2, h3, h4, h5⟩ := h
  exact ⟨A, c, rfl, h2, by simpa [maxLen] using h3⟩

theorem OwnPairs.read {w : World} {base : Nat} {v : Value} {ps : List Pr} (h : OwnPairs w base v ps) : PairsAt w (fun b => base ≤ b) v ps := by
  obtain ⟨cs, h1, h3⟩ := h
  obtain ⟨A, c, rfl, hc, hm⟩ := h1.shape
  refine ⟨A, c, rfl, hc, hm, fun h0 => ?_⟩
  obtain ⟨g, c', hv, hg⟩ := h1.cases h0
  injection hv with e1 e2 e3
  subst e1; subst e3
  refine ⟨g, 0, rfl, hg, fun i hi => ?_⟩
  obtain ⟨kv, k1, k2, k3⟩ := h3.at_ hi
  exact ⟨kv, by simpa using h1.cell k1, k2, by simpa using h1.cell k3⟩

/-- A key that the call owns. -/
def cells8 (bs : Key) : List Value := bs.map fun x => Value.int .u8 (x.toNat : Int)
def OwnBytes (w : World) (base : Nat) (v : Value) (bs : Key) : Prop := Own w base 5 1 v bs.length (cells8 bs)

theorem cells8_at {bs : Key} {i : Nat} (h : i < bs.length) : (cells8 bs)[i]? = some (.int .u8 ((bs[i]?.getD 0).toNat : Int)) := by
  simp [cells8, List.getElem?_eq_getElem h]
theorem OwnBytes.read {w : World} {base : Nat} {v : Value} {bs : Key} (h : OwnBytes w base v bs) : BytesAt w (fun b => base ≤ b) v bs := by
  obtain ⟨A, c, rfl, hc, hm⟩ := Own.shape h
  refine ⟨A, c, rfl, hc, hm, fun h0 => ?_⟩
  obtain ⟨g, c', hv, hg⟩ := Own.cases h h0
  injection hv with e1 e2 e3
  subst e1; subst e3
  refine ⟨g, 0, rfl, hg, fun i hi => ?_⟩
  rw [Nat.zero_add]
  exact Own.cell h (cells8_at hi)
theorem OwnBytes.nil (w : World) (base : Nat) : OwnBytes w base (.slice none 0 0) [] := Own.nil _ _ _ _
theorem OwnBytes.new {w w' : World} {base : Nat} {v : Value} {bs : Key} (h : OwnBytes w base v bs) (hn : New w w') : OwnBytes w' base v bs := Own.new h hn
theorem OwnBytes.lower {w : World} {base base' : Nat} {v : Value} {bs : Key} (h : OwnBytes w base v bs) (hb : base' ≤ base) : OwnBytes w base' v bs := Own.lower h hb

/-- What is read can be appended. -/
theorem BytesAt.src {w : World} {G : Nat → Prop} {v : Value} {bs : Key} (h : BytesAt w G v bs) : Src w 1 v bs.length (cells8 bs) := by
  obtain ⟨A, c, rfl, h1, h2, h3⟩ := h
  refine ⟨by simp [cells8], by simp [cells8, Value.oneCell'], A, c, rfl, fun h0 => ?_⟩
  obtain ⟨b, off, ha, hg, hc⟩ := h3 h0
  refine ⟨b, off, ha, fun j u hu => ?_⟩
  have hj : j < bs.length := by have := (List.getElem?_eq_some_iff.1 hu).1; simpa [cells8] using this
  rw [cells8_at hj] at hu
  rw [hc j hj]; exact hu
theorem cells8_append (a b : Key) : cells8 (a ++ b) = cells8 a ++ cells8 b := by simp [cells8]
theorem cells8_length (a : Key) : (cells8 a).length = a.length := by simp [cells8]

end Go.Proofs.Ytbnipbhkdodfpaa
