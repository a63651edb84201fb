/- Rows that a call owns, and append onto them: whatever program. -/
import Derived.WalkKit
import Derived.Maps.AppendAt
namespace Go.Proofs.Ytbnipbhkdodfpaa
open Go.RowKit

/-- what is known of a slice type's elements -/
structure ElemT (P : Program) (t e : TypeId) (z : Value) (size bytes : Nat) : Prop where
  und : P.underlying t = some (.slice e)
  info : ∃ i, P.info? e = some i ∧ i.zero = some z ∧ i.size = size ∧ i.bytes = bytes
  zsize : z.cells.size = size
  pos : 0 < size
  bpos : 0 < bytes

/-- the block that a slice may write into -/
def blk : Value → Option Nat
  | .slice (some a) _ (_ + 1) => some a.block
  | _ => none

/-- A slice of n elements of 'size' cells each that the call owns: xs are the cells; its block, if it has room for anything, is from 'base' on, and its own alone. -/
def Own (w : World) (base : Nat) (e : TypeId) (size : Nat) (v : Value) (n : Nat) (xs : List Value) : Prop :=
  xs.length = n * size ∧ ∃ A c, v = .slice A n c ∧ n ≤ c ∧ c ≤ maxLen ∧ (A = none → c = 0) ∧
    (0 < c → ∃ g cur, A = some ⟨g, 0, none⟩ ∧ base ≤ g ∧ w.heap[g]? = some (.cells cur e (0, 0)) ∧ cur.size = c * size ∧ cur.toList.take (n * size) = xs)

theorem Own.nil (w : World) (base : Nat) (e : TypeId) (size : Nat) : Own w base e size (.slice none 0 0) 0 [] :=
  ⟨by simp, none, 0, rfl, Nat.le_refl _, Nat.zero_le _, fun _ => rfl, by omega⟩
theorem Own.empty (w : World) (base : Nat) (e : TypeId) (size : Nat) (A : Option Addr) : Own w base e size (.slice A 0 0) 0 [] :=
  ⟨by simp, A, 0, rfl, Nat.le_refl _, Nat.zero_le _, fun _ => rfl, by omega⟩
theorem Own.of_row {w : World} {base : Nat} {e : TypeId} {size : Nat} {v : Value} {n : Nat} {xs : List Value} (h : w.ownsRow base e size v n xs) : Own w base e size v n xs := by
  obtain ⟨h1, h2⟩ := h
  refine ⟨h1, ?_⟩
  rcases h2 with ⟨rfl, rfl⟩ | ⟨g, cap, cur, rfl, hg, hh, hn, hm, hs, ht⟩
  · exact ⟨none, 0, rfl, Nat.le_refl _, Nat.zero_le _, fun _ => rfl, by omega⟩
  · exact ⟨_, cap, rfl, hn, hm, nofun, fun _ => ⟨g, cur, rfl, hg, hh, hs, ht⟩⟩
theorem Own.row {w : World} {base : Nat} {e : TypeId} {size : Nat} {A : Option Addr} {n c : Nat} {xs : List Value} (h : Own w base e size (.slice A n c) n xs) (hc : 0 < c) : w.ownsRow base e size (.slice A n c) n xs := by
  obtain ⟨h1, A', c', hv, h2, h3, h4, h5⟩ := h
  injection hv with e1 e2 e3
  subst e1; subst e3
  obtain ⟨g, cur, rfl, k1, k2, k3, k4⟩ := h5 hc
  exact ⟨h1, .inr ⟨g, c, cur, rfl, k1, k2, h2, h3, k3, k4⟩⟩
theorem Own.lit {w : World} (base : Nat) (e : TypeId) (size n : Nat) (cs : List Value) (hb : base ≤ w.heap.size) (hn : 0 < n) (hm : n ≤ maxLen) (hs : cs.length = n * size) :
    Own (w.alloc (.cells cs.toArray e)) base e size (.slice (some ⟨w.heap.size, 0, none⟩) n n) n cs :=
  ⟨hs, _, n, rfl, Nat.le_refl _, hm, nofun, fun _ => ⟨_, _, rfl, hb, heap_alloc_new w _, by simpa using hs, by simp [← hs]⟩⟩
theorem Own.keep {w w' : World} {base base' : Nat} {e : TypeId} {size : Nat} {v : Value} {n : Nat} {xs : List Value} (h : Own w base e size v n xs) (hb : base' ≤ base) (hk : ∀ b, b < w.heap.size → blk v = some b → w'.heap[b]? = w.heap[b]?) : Own w' base' e size v n xs := by
  obtain ⟨h1, A, c, rfl, h2, h3, h4, h5⟩ := h
  refine ⟨h1, A, c, rfl, h2, h3, h4, fun hc => ?_⟩
  obtain ⟨g, cur, rfl, k1, k2, k3⟩ := h5 hc
  obtain ⟨c, rfl⟩ : ∃ m, c = m + 1 := ⟨c - 1, by omega⟩
  exact ⟨g, cur, rfl, Nat.le_trans hb k1, by rw [hk g (Array.getElem?_eq_some_iff.1 k2).1 rfl]; exact k2, k3⟩
theorem Own.base {w : World} {base : Nat} {e : TypeId} {size : Nat} {v : Value} {n : Nat} {xs : List Value} (h : Own w base e size v n xs) : ∀ b, blk v = some b → base ≤ b ∧ b < w.heap.size := by
  obtain ⟨h1, A, c, rfl, h2, h3, h4, h5⟩ := h
  intro b hb
  cases A with
  | none => simp [blk] at hb
  | some a =>
    cases c with
    | zero => simp [blk] at hb
    | succ c =>
      obtain ⟨g, cur, e1, k1, k2, k3⟩ := h5 (by omega)
      cases e1
      simp only [blk, Option.some.injEq] at hb
      subst hb
      exact ⟨k1, (Array.getElem?_eq_some_iff.1 k2).1⟩
theorem Own.new {w w' : World} {base : Nat} {e : TypeId} {size : Nat} {v : Value} {n : Nat} {xs : List Value} (h : Own w base e size v n xs) (hn : Below w.heap.size w w') : Own w' base e size v n xs :=
  h.keep (Nat.le_refl _) fun b hb _ => hn.block b hb
theorem Own.alloc {w : World} {base : Nat} {e : TypeId} {size : Nat} {v : Value} {n : Nat} {xs : List Value} (h : Own w base e size v n xs) (o : Obj) : Own (w.alloc o) base e size v n xs :=
  h.new ((Below.refl _ w).alloc (Nat.le_refl _) o)
theorem Own.lower {w : World} {base base' : Nat} {e : TypeId} {size : Nat} {v : Value} {n : Nat} {xs : List Value} (h : Own w base e size v n xs) (hb : base' ≤ base) : Own w base' e size v n xs :=
  h.keep hb fun _ _ _ => rfl
theorem Own.cell {w : World} {base : Nat} {e : TypeId} {size : Nat} {g n c : Nat} {s : Option Nat} {xs : List Value} (h : Own w base e size (.slice (some ⟨g, 0, s⟩) n c) n xs) {j : Nat} {u : Value} (hu : xs[j]? = some u) :
    w.cell? ⟨g, j, none⟩ = some u := by
  obtain ⟨h1, A, c', hv, h2, h3, h4, h5⟩ := h
  injection hv with e1 e2 e3
  subst e1; subst e3
  have hj : j < n * size := by have := (List.getElem?_eq_some_iff.1 hu).1; omega
  have hc : 0 < c := by
    rcases Nat.eq_zero_or_pos c with h0 | h0
    · have : n = 0 := by omega
      subst this; simp at hj
    · exact h0
  obtain ⟨g', cur, e1, k1, k2, k3, k4⟩ := h5 hc
  injection e1 with e1; injection e1 with e1
  subst e1
  simp only [World.cell?, k2]
  rw [← k4, List.getElem?_take] at hu
  rw [if_pos (by omega)] at hu
  simpa using hu

theorem Own.set_ {w : World} {base : Nat} {e : TypeId} {size : Nat} {v : Value} {n : Nat} {xs : List Value} (h : Own w base e size v n xs) {p : Addr} (hp : p.block < base) (u : Value) : Own (w.setCell p u) base e size v n xs :=
  h.keep (Nat.le_refl _) fun b _ he => Below.heap_setCell w p u b (by have := (h.base b he).1; omega)

/-- A slice that is read: m elements, its cells are 'news'. -/
def Src (w : World) (size : Nat) (x : Value) (m : Nat) (news : List Value) : Prop :=
  news.length = m * size ∧ (∀ u ∈ news, u.oneCell' = true) ∧ ∃ X cx, x = .slice X m cx ∧ (0 < m → ∃ b off, X = some ⟨b, off, none⟩ ∧ ∀ j u, news[j]? = some u → w.cell? ⟨b, off + j, none⟩ = some u)

theorem Src.keep {w w' : World} {size : Nat} {x : Value} {m : Nat} {news : List Value} (h : Src w size x m news) (hn : Below w.heap.size w w') : Src w' size x m news := by
  obtain ⟨h1, h2, X, cx, rfl, h3⟩ := h
  refine ⟨h1, h2, X, cx, rfl, fun hm => ?_⟩
  obtain ⟨b, off, rfl, hc⟩ := h3 hm
  exact ⟨b, off, rfl, fun j u hu => (hn.cell (World.block_lt_of_cell? w _ (hc j u hu))).trans (hc j u hu)⟩

/-- What one element's box holds. -/
theorem Src.box (w : World) (size : Nat) (e : TypeId) (cs : List Value) (hs : cs.length = size) (h1 : ∀ u ∈ cs, u.oneCell' = true) :
    Src (w.alloc (.cells cs.toArray e)) size (.slice (some ⟨w.heap.size, 0, none⟩) 1 1) 1 cs :=
  ⟨by omega, h1, _, 1, rfl, fun _ => ⟨w.heap.size, 0, rfl, fun j u hu => by simpa using hu⟩⟩

theorem addr_add (b off j : Nat) : (⟨b, off, none⟩ : Addr).add j = ⟨b, off + j, none⟩ := by
  unfold Addr.add; split <;> simp_all

/-- append, whatever is appended, onto what the call owns. -/
theorem run_app {P : Program} {t e ty : TypeId} {z : Value} {size bytes : Nat} (E : ElemT P t e z size bytes) {w : World} {base : Nat} {v x : Value} {n m : Nat} {xs news : List Value}
    (hown : Own w base e size v n xs) (hsrc : Src w size x m news) (hb : (n + m) * bytes ≤ 140737488355328) (hbase : base ≤ w.heap.size) :
    ∃ v' w', (Builtin.append_ #[t, t] ty #[v, x]).run P w = .ok v' w' ∧ Own w' base e size v' (n + m) (xs ++ news) ∧ w.grownBy w' (blk v) ∧ (blk v' = blk v ∨ blk v' = some w.heap.size) ∧
      (v' = .slice none 0 0 ↔ v = .slice none 0 0 ∧ m = 0) := by
  obtain ⟨i, hi, hz, hsz, hby⟩ := E.info
  have hnm : n + m ≤ 140737488355328 := Nat.le_trans (Nat.le_mul_of_pos_right _ E.bpos) hb
  obtain ⟨l1, h1, X, cx, rfl, hs⟩ := hsrc
  by_cases hm : m = 0
  · subst hm
    have hn : news = [] := List.eq_nil_of_length_eq_zero (by simpa using l1)
    subst hn
    have hown' := hown
    obtain ⟨k1, A, c, rfl, k2, k3, k4, k5⟩ := hown
    refine ⟨.slice A n c, w, ?_, by simpa using hown', ⟨rfl, rfl, rfl, Nat.le_refl _, fun _ _ _ => rfl⟩, .inl rfl, by simp⟩
    have hld : ∀ a : Addr, (loadCells a 0).run P w = .ok #[] w := fun a => by
      have := run_loadCells_list (P := P) w a [] (by simp)
      simpa using this
    cases A with
    | none =>
      have : c = 0 := k4 rfl
      subst this
      have : n = 0 := by omega
      subst this
      cases X <;> simp [Builtin.append_, run_underlying E.und, sizeOf, typeInfo, hi, Builtin.lenOf, Builtin.firstCells, hld]
    | some a => cases X <;> simp [Builtin.append_, run_underlying E.und, sizeOf, typeInfo, hi, Builtin.lenOf, Builtin.firstCells, hld, k2, storeCells]
  · obtain ⟨b, off, rfl, hc⟩ := hs (by omega)
    have hnews : ∀ j u, news[j]? = some u → w.cell? ((⟨b, off, none⟩ : Addr).add j) = some u := fun j u hu => by rw [addr_add]; exact hc j u hu
    have hown' := hown
    obtain ⟨k1, A, c, rfl, k2, k3, k4, k5⟩ := hown
    by_cases hc0 : 0 < c
    · have hrow := hown'.row hc0
      obtain ⟨v', w', r1, r2, r3, r4, r5⟩ := run_append_own_at (P := P) w base t ty e i z size bytes E.und hi hz hsz hby E.zsize E.pos _ n xs hrow ⟨b, off, none⟩ m cx news l1 hnews h1 (by simp only [maxLen]; omega) hb hbase
      obtain ⟨g, cur, rfl, -⟩ := k5 hc0
      clear k5 hs
      have hbv : blk (.slice (some ⟨g, 0, none⟩) n c) = some g := by
        obtain ⟨c', rfl⟩ : ∃ q, c = q + 1 := ⟨c - 1, by omega⟩
        rfl
      rcases r2.2 with ⟨rfl, r6⟩ | ⟨g', cap', cur', rfl, z1, z2, z3, z4, z5, z6⟩
      · omega
      · have hbv' : blk (.slice (some ⟨g', 0, none⟩) (n + m) cap') = some g' := by
          obtain ⟨c', rfl⟩ : ∃ q, cap' = q + 1 := ⟨cap' - 1, by omega⟩
          rfl
        refine ⟨_, w', r1, Own.of_row r2, by rw [hbv]; exact r3, ?_, by simp⟩
        rw [hbv, hbv']
        simpa [Value.ownBlock] using r5
    · have hc0' : c = 0 := by omega
      subst hc0'
      have hn0 : n = 0 := by omega
      subst hn0
      have hx : xs = [] := List.eq_nil_of_length_eq_zero (by simpa using k1)
      subst hx
      have hbv : ∀ A : Option Addr, blk (.slice A 0 0) = none := fun A => by cases A <;> rfl
      have hge := grownCap_ge w (0 + m) 0 e
      have hcm : grownCap w (0 + m) 0 e ≤ maxLen := grownCap_le_maxLen w (0 + m) 0 e (by simp only [maxLen]; omega)
      have hE : (Builtin.append_ #[t, t] ty #[.slice A 0 0, .slice (some ⟨b, off, none⟩) m cx]).run P w =
          .ok (.slice (some ⟨w.heap.size, 0, none⟩) (0 + m) (grownCap w (0 + m) 0 e)) (w.drew.alloc (.cells (news.toArray ++ Builtin.zeroCells z.cells (grownCap w (0 + m) 0 e - (0 + m))) e)) := by
        subst hsz; subst hby
        cases A with
        | none =>
          have := run_append_nil (P := P) w t ty e i z E.und hi hz ⟨b, off, none⟩ m cx news l1 hnews (by omega) (by omega) (by simp only [Nat.zero_add] at hb; omega)
          simpa using this
        | some a =>
          have := run_append_grow (P := P) w t ty e i z E.und hi hz a 0 0 [] (by simp) (by simp) ⟨b, off, none⟩ m cx news l1 hnews (by omega) (by omega) (growslice_fits (by omega) hb)
          simpa using this
      refine ⟨_, _, hE, ⟨by simpa using l1, _, _, rfl, hge, hcm, nofun, fun _ => ⟨w.heap.size, _, rfl, hbase, heap_alloc_new w.drew _, ?_, ?_⟩⟩, ⟨rfl, rfl, rfl, by simp, fun k hk _ => Below.heap_alloc w.drew _ k hk⟩, .inr ?_, by simp [hm]⟩
      · simp only [Array.size_append, List.size_toArray, size_zeroCells, E.zsize, l1, ← Nat.add_mul]
        congr 1
        omega
      · simp only [Array.toList_append, Nat.zero_add, List.nil_append, ← l1]
        exact List.take_left
      · obtain ⟨c', hc'⟩ : ∃ q, grownCap w (0 + m) 0 e = q + 1 := ⟨grownCap w (0 + m) 0 e - 1, by omega⟩
        rw [hc']; rfl

/-- The same at the operation, for the walk. -/
theorem wp_app {P : Program} {ops : Array Oper} {rest : List Oper} {o : Oper} {a : Act} {Q : Exit → Act → World → Prop} (hgd : o.guard = none) (s x : Operand) {t e : TypeId} {z : Value} {size bytes : Nat}
    (ho : o.op = .call { callee := .builtin .append, args := #[s, x], argTypes := #[t, t] }) (E : ElemT P t e z size bytes) (v u : Value) (hs : a.eval s = v) (hx : a.eval x = u) {w : World} {base : Nat} (n m : Nat) (xs news : List Value)
    (hown : Own w base e size v n xs) (hsrc : Src w size u m news) (hb : (n + m) * bytes ≤ 140737488355328) (hbase : base ≤ w.heap.size)
    (h : ∀ v' w', Own w' base e size v' (n + m) (xs ++ news) → w.grownBy w' (blk v) → (blk v' = blk v ∨ blk v' = some w.heap.size) →
      wpList P ops Q rest (a.put o.dst v') w') : wpList P ops Q (o :: rest) a w := by
  refine wpList_plain hgd fun K hK => ?_
  obtain ⟨v', w', hr, h2, h3, h4, _⟩ := run_app (ty := o.type) E hown hsrc hb hbase
  unfold Oper.wp execOp
  simp only [ho, resolve, invoke, builtin, Sem.run_bind, Sem.run_pure, Result.andThen_ok, List.map_toArray, List.map_cons, List.map_nil, hs, hx, hr]
  exact hK _ _ (h v' w' h2 h3 h4)

theorem blk_zero (A : Option Addr) (n : Nat) : blk (.slice A n 0) = none := by cases A <;> rfl

end Go.Proofs.Ytbnipbhkdodfpaa
