/- The walks of model that write. -/
import Derived.Test.YtbnipbhkdodfpaaModel
import Derived.Test.YtbnipbhkdodfpaaInsert2
import Derived.Test.YtbnipbhkdodfpaaDelete
namespace Go.Proofs.Ytbnipbhkdodfpaa
open Go.RowKit

theorem insert_any (base vb i n : Nat) (v x0 x1 : Value) (cs : List Value) (w : World) (ho : Own w base 40 2 v n cs) (hi : i ≤ n) (hn : n ≤ 1048576) (hb : base ≤ w.heap.size) (hne : blk v ≠ some vb)
    (hv : w.heap[vb]? = some (.cells #[x0, x1] 40 (0, 0))) (h0 : x0.oneCell' = true) (h1 : x1.oneCell' = true) (hone : ∀ u ∈ cs, u.oneCell' = true) :
    Calls Try.prog 51 #[v, .int .i64 i, .slice (some ⟨vb, 0, none⟩) 1 1] w fun e w' => ∃ v', e = .returned v' ∧ Own w' base 40 2 v' (n + 1) (cs.take (i * 2) ++ [x0, x1] ++ cs.drop (i * 2)) ∧ w.grownBy w' (blk v) ∧
      (blk v' = blk v ∨ ∃ b, blk v' = some b ∧ w.heap.size ≤ b) := by
  obtain ⟨l1, A, c, rfl, hnc, hc, hA, hh⟩ := id ho
  by_cases hin : i = n
  · subst hin
    refine (insert_end base A i c vb x0 x1 cs w ho hb hn hv h0 h1).mono ?_
    rintro e w' ⟨v', rfl, k1, k2, k3⟩
    refine ⟨v', rfl, ?_, k2, ?_⟩
    · rw [List.take_of_length_le (by omega), List.drop_eq_nil_of_le (by omega)]; simpa using k1
    · exact k3.imp id fun h => ⟨_, h, Nat.le_refl _⟩
  · have hc0 : 0 < c := by omega
    obtain ⟨g, cur, rfl, -⟩ := hh hc0
    have hblk : blk (.slice (some ⟨g, 0, none⟩) n c) = some g := by
      obtain ⟨c', rfl⟩ : ∃ q, c = q + 1 := ⟨c - 1, by omega⟩
      rfl
    rw [hblk] at hne ⊢
    by_cases hroom : n + 1 ≤ c
    · refine (insert_shift base g n c vb i x0 x1 cs w ho (by omega) hn hroom (fun h => hne (by rw [h])) hv h0 h1 hone).mono ?_
      rintro e w' ⟨v', rfl, k1, k2, k3⟩
      exact ⟨v', rfl, k1, k2, .inl k3⟩
    · obtain rfl : c = n := by omega
      refine (insert_grow base g c vb i x0 x1 cs w ho (by omega) hn hb hv h0 h1 hone).mono ?_
      rintro e w' ⟨v', rfl, k1, k2, k3⟩
      exact ⟨v', rfl, k1, ⟨k2.os, k2.tape, k2.output, k2.size, fun b hb _ => k2.block b hb⟩, .inr ⟨_, k3, Nat.le_refl _⟩⟩

/-- What something owns, and whatever is new since. -/
def Gr (F : Nat → Prop) (w : World) (b : Nat) : Prop := F b ∨ w.heap.size ≤ b

theorem pairCells_set {w : World} {G : Nat → Prop} {cs : List Value} {ps : List Pr} (h : PairCells w G cs ps) {i : Nat} {p : Pr} (hp : ps[i]? = some p) (v : Int) : PairCells w G (cs.set (i * 2 + 1) (.int .u64 v)) (ps.set i ⟨p.key, v⟩) := by
  induction ps generalizing cs i with
  | nil => simp at hp
  | cons q ps ih =>
    obtain ⟨kv, rest, rfl, h1, h2⟩ := h
    cases i with
    | zero => simp at hp; subst hp; exact ⟨kv, rest, rfl, h1, h2⟩
    | succ i =>
      have := ih h2 (i := i) (by simpa using hp)
      rw [show (i + 1) * 2 + 1 = i * 2 + 1 + 1 + 1 from by omega]
      exact ⟨kv, _, rfl, h1, this⟩
theorem pairCells_take {w : World} {G : Nat → Prop} {cs : List Value} {ps : List Pr} (h : PairCells w G cs ps) (i : Nat) : PairCells w G (cs.take (i * 2)) (ps.take i) := by
  induction ps generalizing cs i with
  | nil => have e : cs = [] := h; subst e; simp [PairCells]
  | cons q ps ih =>
    obtain ⟨kv, rest, rfl, h1, h2⟩ := h
    cases i with
    | zero => simp [PairCells]
    | succ i =>
      rw [show (i + 1) * 2 = i * 2 + 1 + 1 from by omega]
      exact ⟨kv, _, rfl, h1, ih h2 i⟩
theorem pairCells_drop {w : World} {G : Nat → Prop} {cs : List Value} {ps : List Pr} (h : PairCells w G cs ps) (i : Nat) : PairCells w G (cs.drop (i * 2)) (ps.drop i) := by
  induction ps generalizing cs i with
  | nil => have e : cs = [] := h; subst e; simp [PairCells]
  | cons q ps ih =>
    obtain ⟨kv, rest, rfl, h1, h2⟩ := h
    cases i with
    | zero => exact ⟨kv, rest, rfl, h1, h2⟩
    | succ i =>
      rw [show (i + 1) * 2 = i * 2 + 1 + 1 from by omega]
      exact ih h2 i

theorem New.un {w w1 : World} (h : New w.drew w1) : New w w1 := ⟨h.os, h.tape, h.output, h.size, h.block⟩
theorem grown_f {w w' : World} {row : Option Nat} {a : Addr} {v : Value} (hg : w.grownBy w' row) (h : w.cell? a = some v) (hf : w.frozen? a = false) (hne : some a.block ≠ row) : w'.frozen? a = false :=
  (World.frozen?_of_block (w := w) (hg.block _ (World.block_lt_of_cell? w a h) hne)).trans hf
theorem own_typ {w : World} {base m : Nat} {e t : TypeId} {size n : Nat} {v : Value} {xs : List Value} {cs : Array Value} {fr : Nat × Nat} (h : Own w base e size v n xs) (hm : w.heap[m]? = some (.cells cs t fr)) (ht : t ≠ e) : some m ≠ blk v := by
  obtain ⟨h1, A, c, rfl, h2, h3, h4, h5⟩ := h
  intro hb
  cases A with
  | none => simp [blk] at hb
  | some a =>
    cases c with
    | zero => simp [blk] at hb
    | succ c =>
      obtain ⟨g, cur, e1, k1, k2, k3⟩ := h5 (by omega)
      cases e1
      simp only [blk, Option.some.injEq] at hb
      subst hb
      rw [hm] at k2
      injection k2 with k2
      injection k2 with _ k2 _
      exact ht k2

theorem OwnBytes.read5 {w : World} {base : Nat} {v : Value} {bs : Key} (h : OwnBytes w base v bs) : BytesAt w (fun b => base ≤ b ∧ Typ w b 5) v bs := by
  obtain ⟨A, c, rfl, hc, hm⟩ := Own.shape h
  refine ⟨A, c, rfl, hc, hm, fun h0 => ?_⟩
  obtain ⟨g, c', hv, hg⟩ := Own.cases h h0
  injection hv with e1 e2 e3
  subst e1; subst e3
  obtain ⟨h1, A', c', hv, h2, h3, h4, h5⟩ := id h
  injection hv with e1 e2 e3
  subst e1; subst e3
  obtain ⟨g', cur, e, k1, k2, k3⟩ := h5 (by omega)
  cases e
  exact ⟨g, 0, rfl, ⟨hg, cur, (0, 0), k2⟩, fun i hi => by simpa using Own.cell h (cells8_at hi)⟩

theorem Typ.lt {w : World} {b : Nat} {t : TypeId} (h : Typ w b t) : b < w.heap.size := by
  obtain ⟨cs, fr, h⟩ := h
  exact (Array.getElem?_eq_some_iff.1 h).1

theorem put_new_end {F : Nat → Prop} {w w1 w2 w3 : World} {m : Nat} {v0 v3 kv : Value} {ps : List Pr} {cs : List Value} {k : Key} {v : Int} {base : Nat} {ob : Obj}
    (hN : New w w1) (h1 : w1.heap[m]? = some (.cells #[v0] 79 (0, 0))) (h2 : F m) (b3 : Own w1 0 40 2 v0 ps.length cs) (b4 : ∀ b, blk v0 = some b → F b)
    (b5 : PairCells w1 (fun b => F b ∧ Typ w1 b 5) cs ps) (hw2 : New w1.drew w2) (ho : OwnBytes w2 base kv k) (hb : w1.heap.size ≤ base)
    (o1 : Own w3 0 40 2 v3 (ps.length + 1) (cs.take (rank ps k * 2) ++ [kv, .int .u64 v] ++ cs.drop (rank ps k * 2)))
    (o2 : (w2.alloc ob).grownBy w3 (blk v0)) (o3 : blk v3 = blk v0 ∨ ∃ b, blk v3 = some b ∧ (w2.alloc ob).heap.size ≤ b) (hh : has ps k = false) :
    MapAt (w3.setCell ⟨m, 0, none⟩ v3) (Gr F w) m (put ps k v) ∧ Chg F w (w3.setCell ⟨m, 0, none⟩ v3) := by
  have hne := own_typ b3 h1 (by decide)
  have hm1 : m < w1.heap.size := (Array.getElem?_eq_some_iff.1 h1).1
  have hw2' := hw2.un
  have hs2 : w1.heap.size ≤ w2.heap.size := hw2'.size
  have hs2a : (w2.alloc ob).heap.size = w2.heap.size + 1 := by simp
  have hs3 : w2.heap.size + 1 ≤ w3.heap.size := hs2a ▸ o2.size
  have h12 : ∀ b, b < w2.heap.size → some b ≠ blk v0 → b ≠ m → (w3.setCell ⟨m, 0, none⟩ v3).heap[b]? = w2.heap[b]? := fun b hb h hm => by
    rw [Below.heap_setCell w3 ⟨m, 0, none⟩ v3 b hm, o2.block b (by omega) h, Below.heap_alloc w2 ob b hb]
  have h13 : ∀ b, b < w1.heap.size → some b ≠ blk v0 → b ≠ m → (w3.setCell ⟨m, 0, none⟩ v3).heap[b]? = w1.heap[b]? := fun b hb h hm =>
    (h12 b (by omega) h hm).trans (hw2'.block b hb)
  have hm3 : w3.heap[m]? = some (.cells #[v0] 79 (0, 0)) := by
    rw [o2.block m (by omega) hne, Below.heap_alloc w2 ob m (by omega), hw2'.block m hm1]; exact h1
  have hbl : ∀ b, blk v0 = some b → b < w1.heap.size := fun b h => (b3.base b h).2
  have ht : ∀ b, Typ w1 b 5 → some b ≠ blk v0 ∧ b ≠ m := fun b ⟨c, fr, h⟩ => ⟨own_typ b3 h (by decide), fun e => by
    rw [e, h1] at h; injection h with h; injection h with _ h; exact absurd h (by decide)⟩
  have hsz : (w3.setCell ⟨m, 0, none⟩ v3).heap.size = w3.heap.size := by simp
  refine ⟨⟨v3, cs.take (rank ps k * 2) ++ [kv, .int .u64 v] ++ cs.drop (rank ps k * 2), heap_setCell_same hm3 v3, .inl h2, ?_, ?_, ?_⟩, ?_⟩
  · have e : (put ps k v).length = ps.length + 1 := by
      rw [put_of_not hh]; simp; have := rank_le ps k; omega
    rw [e]
    refine o1.keep (Nat.le_refl _) fun b hb' he => Below.heap_setCell w3 _ v3 b ?_
    rcases o3 with e | ⟨b', e, h⟩
    · rw [e] at he; exact fun h => hne (by rw [he, h])
    · rw [e] at he; injection he with he; simp only; omega
  · intro b hb'
    rcases o3 with e | ⟨b', e, h⟩
    · exact .inl (b4 b (by rw [← e]; exact hb'))
    · rw [e] at hb'; injection hb' with hb'; exact .inr (by have := hN.size; omega)
  · rw [put_of_not hh, show ps.take (rank ps k) ++ ⟨k, v⟩ :: ps.drop (rank ps k) = ps.take (rank ps k) ++ [⟨k, v⟩] ++ ps.drop (rank ps k) from by simp]
    have hk : ∀ {cs' : List Value} {qs : List Pr}, PairCells w1 (fun b => F b ∧ Typ w1 b 5) cs' qs → PairCells (w3.setCell ⟨m, 0, none⟩ v3) (fun b => Gr F w b ∧ Typ (w3.setCell ⟨m, 0, none⟩ v3) b 5) cs' qs := fun h =>
      (h.keep fun b hb hg => h13 b hb (ht b hg.2).1 (ht b hg.2).2).mono fun b _ hg => ⟨.inl hg.1, by
        obtain ⟨c, fr, hc⟩ := hg.2
        exact ⟨c, fr, by rw [h13 b hg.2.lt (ht b hg.2).1 (ht b hg.2).2]; exact hc⟩⟩
    refine PairCells.append (PairCells.append (hk (pairCells_take b5 (rank ps k))) (PairCells.one_ (p := ⟨k, v⟩) ?_)) (hk (pairCells_drop b5 (rank ps k)))
    have hx : ∀ b, base ≤ b → some b ≠ blk v0 ∧ b ≠ m := fun b h => ⟨fun e => by have := hbl b e.symm; omega, by omega⟩
    exact (ho.read5.keep fun b hb hg => h12 b hb (hx b hg.1).1 (hx b hg.1).2).mono fun b _ hg => ⟨.inr (by have := hN.size; omega), by
        obtain ⟨c, fr, hc⟩ := hg.2
        exact ⟨c, fr, by rw [h12 b hg.2.lt (hx b hg.1).1 (hx b hg.1).2]; exact hc⟩⟩
  · have e1 : Chg F w (w2.alloc ob) := .of_new ((hN.tr hw2').al ob)
    refine (e1.trans (Chg.grown o2) fun b hb e => b4 b e.symm).trans (Chg.setCell w3 _ v3) fun b hb e => by simp only at e; rw [e]; exact h2

set_option maxHeartbeats 1000000 in
theorem mput_new (F H : Nat → Prop) (m : Nat) (u : Value) (ps : List Pr) (k : Key) (v : Int) (w : World) (hm : MapAt w F m ps) (hb : BytesAt w H u k) (hs : Sorted ps) (hlen : ps.length ≤ 1048576) (hk : k.length ≤ 65535) (hh : has ps k = false) :
    Calls Try.prog 32 #[.pointer (some ⟨m, 0, none⟩), u, .int .u64 v] w fun e w' => e = .returned (.tuple #[.int .u64 0, .bool false, .int .i64 0]) ∧ MapAt w' (Gr F w) m (put ps k v) ∧ Chg F w w' := by
  have Hm := Lib.hid hm
  have Hb := Lib.hid hb
  have Hh := Lib.hid hh
  have Hk : Hid (decide ((k.length : Int) ≤ 65535) = true) := Lib.hid (by simp; omega)
  obtain ⟨A, c, rfl, k1, k2, -⟩ := id hb
  have hr := rank_le ps k
  clear hh hm hb
  go_enter Try.func32, Try.ntmps32
  go_wp2_with (first
    | (go_at_call 29; refine (may_calls _ _ _ _).mono ?_; rintro e w1 ⟨rfl, rfl⟩; rw [Hk.out])
    | (go_at_call 50; refine (mfind_calls F H m _ ps k _ (by exact Hm.out) (by exact Hb.out) hs hlen).mono ?_; rintro e w1 ⟨rfl, hw⟩; rw [Hh.out]))
  obtain ⟨v0, cs, b1, b2, b3, b4, b5⟩ := Hm.out.new hw
  obtain ⟨A0, c0, rfl, -, -⟩ := b3.shape
  have hp := (Hm.out.new hw).read
  have q1 : w1.cell? ⟨m, 0, none⟩ = some (.slice A0 ps.length c0) := cell_of_heap b1 rfl
  have q1f : w1.frozen? ⟨m, 0, none⟩ = false := frozen_of_heap b1
  have hbk := Hb.out.new hw
  have hl : k.length ≤ 140737488355328 := by omega
  have B3 := Lib.hid b3
  have B4 := Lib.hid b4
  have B5 := Lib.hid b5
  have hbl : ∀ b, blk (.slice A0 ps.length c0) = some b → b < w1.heap.size := fun b hb => (b3.base b hb).2
  have Hbl := Lib.hid hbl
  have Hne := Lib.hid (own_typ b3 b1 (by decide))
  clear b3 b4 b5 hp hbl
  go_region_with (first
    | (go_at_call 52; refine (clone_calls H _ k _ (by exact hbk) hl).mono ?_; rintro e w2 ⟨kv, rfl, hw2, ho2⟩; obtain ⟨A2, c2, rfl, -, -⟩ := Own.shape ho2; have q2 := hw2.c q1; have q2f := hw2.f q1 q1f; have q2n := World.new_ne _ _ q2; have q2a := cell_past q2)
    | (go_at_call 51; refine (insert_any 0 _ _ _ _ _ _ cs _ (by exact B3.out.new (hw2.un.al _)) hr hlen (Nat.zero_le _) (fun h => Nat.not_lt.2 hw2.size (Hbl.out _ h)) (heap_new _ _) rfl rfl B5.out.one).mono ?_; rintro e w3 ⟨v3, rfl, o1, o2, o3⟩; obtain ⟨A3, c3, rfl, -, -⟩ := o1.shape; have q3 := o2.cell (cell_past q2 _) Hne.out; have q3f := grown_f o2 (cell_past q2 _) (frozen_past (World.block_lt_of_cell? _ _ q2) q2f _) Hne.out))
  all_goals
    go_wp2
    refine bodyPost_ret (v := .tuple #[.int .u64 0, .bool false, .int .i64 0]) (by simp [results, Try.results32, go_sem]) rfl ?_
    exact ⟨rfl, put_new_end hw b1 b2 B3.out B4.out B5.out hw2 ho2 (by simp) o1 o2 o3 Hh.out⟩

end Go.Proofs.Ytbnipbhkdodfpaa
