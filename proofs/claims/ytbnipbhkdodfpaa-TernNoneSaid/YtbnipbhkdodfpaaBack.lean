/- slices.Backward over a list of pairs: what its iterator hands out. -/
import Derived.Test.YtbnipbhkdodfpaaNew
import Derived.RangeFuncNested
import Derived.RangeFuncBound
import Derived.RangeFuncCalls
import Derived.RangeFuncLeaves
import Derived.RangeFuncBox
import Derived.Shelf.Abstract
import Derived.OwnWalkIn
import Derived.TacticsInMore
import Derived.LoopNIn
import Derived.LoopIn
namespace Go.Proofs.Ytbnipbhkdodfpaa
open Go.RowKit Go.Shelf

attribute [local go_sem] Oper.semAt_some

/-- What a round is handed: a place, a pair's cells; the pair is readable in w. -/
structure It (w : World) where
  i : Nat
  kv : Value
  p : Pr
  hb : BytesAt w (fun _ => True) kv p.key
  hl : p.key.length ≤ 140737488355328

def LAt {w0 : World} (W : World) (b off : Nat) (L : List (It w0)) : Prop :=
  ∀ j x, L[j]? = some x → x.i = j ∧ W.cell? ⟨b, off + j * 2, none⟩ = some x.kv ∧ W.cell? ⟨b, off + j * 2 + 1, none⟩ = some (.int .u64 x.p.val)

theorem rev_at {α : Type} {L : List α} {j k : Nat} {x : α} (h : j + k + 1 = L.length) (hx : L[j]? = some x) : L.reverse.take (k + 1) = L.reverse.take k ++ [x] := by
  rw [List.take_add_one, List.getElem?_reverse (by omega), show L.length - 1 - k = j from by omega, hx]; rfl

set_option maxRecDepth 100000 in
set_option maxHeartbeats 2000000 in
theorem back1_in {w0 : World} (n l Bs n₀ b off cap : Nat) (L : List (It w0)) (hn : 1 ≤ n) (hreach : L.length ≤ 1048576) (hb : b < n₀) (J Jx : List (It w0) → World → Prop)
    (hY : ∀ pre x W, J pre W → pre.length < L.length → YieldAt Fence.wide (n - 1) Try.prog l #[.int .i64 (x.i : Int), .agg #[x.kv, .int .u64 x.p.val]] W fun e W' =>
      (e = .returned (.bool true) ∧ J (pre ++ [x]) W' ∧ Below n₀ W W') ∨ (e = .returned (.bool false) ∧ Jx (pre ++ [x]) W'))
    (W : World) (hBs : W.cell? ⟨Bs, 0, none⟩ = some (.slice (some ⟨b, off, none⟩) L.length cap)) (hBl : Bs < n₀) (hc : LAt W b off L) (h0 : J [] W) :
    CallsIn Fence.wide n Try.prog 76 #[.func (.yield l) #[] #[], .pointer (some ⟨Bs, 0, none⟩)] W fun e W' => (∃ v, e = .returned v) ∧
      ((∃ ys, ys = L.reverse ∧ J ys W') ∨ (∃ pre, (∃ k, k ≤ L.length ∧ pre = L.reverse.take k) ∧ Jx pre W')) := by
  refine callsIn_of_wp Try.func76 rfl trivial ?_ rfl
  simp only [Try.ntmps76, List.size_toArray, List.length_cons, List.length_nil, Nat.reduceAdd, Nat.reduceSub, Array.replicate_succ, Array.replicate_zero, List.push_toArray, List.append_toArray, List.nil_append, List.cons_append]
  have Hc := Lib.hid hc
  clear hc
  gi_wp2
  gi_loopw [3] (fun i wr => ∃ k : Nat, k ≤ L.length ∧ i = .int .i64 ((L.length : Int) - 1 - k) ∧ J (L.reverse.take k) wr ∧ Below n₀ W wr)
    (fun i _ => (intOf i + 1).toNat)
  case atStart => exact ⟨0, Nat.zero_le _, by simp, by simpa using h0, Below.refl _ _⟩
  case round =>
    obtain ⟨k, hk, rfl, hJs, hnx⟩ := hrel
    have hBs' := (hnx.cell (p := ⟨Bs, 0, none⟩) hBl).trans hBs
    by_cases hlt : k < L.length
    · obtain ⟨j, hj⟩ : ∃ j, j + k + 1 = L.length := ⟨L.length - 1 - k, by omega⟩
      obtain ⟨x, hx⟩ : ∃ x, L[j]? = some x := ⟨_, List.getElem?_eq_getElem (by omega)⟩
      obtain ⟨hxi, c0, c1⟩ := Hc.out j x hx
      have c0' := (hnx.cell (p := ⟨b, off + j * 2, none⟩) hb).trans c0
      have c1' := (hnx.cell (p := ⟨b, off + j * 2 + 1, none⟩) hb).trans c1
      have hyy := hY _ x wr hJs (by simp; omega)
      rw [hxi] at hyy
      obtain ⟨fn, tmps, assign, body, hy, hR⟩ := hyy
      rw [show (L.length : Int) - 1 - k = j from by omega]
      have i1 : (j : Int) < L.length := by omega
      clear c0 c1
      gi_wp2
      refine hR.mono ?_
      rintro e W3 (⟨rfl, hJ3, hk3⟩ | ⟨rfl, hJx3⟩)
      · gi_wp2
        go_roundw
        case rel => exact ⟨k + 1, by omega, by congr 1; omega, by rw [rev_at hj hx]; exact hJ3, hnx.trans hk3⟩
        case measure => simp only [intOf]; omega
      · gi_wp2
        refine bodyPost_ret (results_none rfl _ _ _) rfl ?_
        exact ⟨⟨_, rfl⟩, .inr ⟨_, ⟨k + 1, by omega, (rev_at hj hx).symm⟩, hJx3⟩⟩
    · obtain rfl : k = L.length := by omega
      gi_wp2
      go_end0
      exact ⟨⟨_, rfl⟩, .inl ⟨L.reverse.take L.length, List.take_of_length_le (by simp), hJs⟩⟩

set_option maxRecDepth 100000 in
set_option maxHeartbeats 1000000 in
theorem back1_nil {α : Type} (n l Bs cap : Nat) (A : Option Addr) (J : List α → World → Prop) (W : World) (hBs : W.cell? ⟨Bs, 0, none⟩ = some (.slice A 0 cap)) (h0 : J [] W) :
    CallsIn Fence.wide n Try.prog 76 #[.func (.yield l) #[] #[], .pointer (some ⟨Bs, 0, none⟩)] W fun e W' => (∃ v, e = .returned v) ∧ J [] W' := by
  refine callsIn_of_wp Try.func76 rfl trivial ?_ rfl
  simp only [Try.ntmps76, List.size_toArray, List.length_cons, List.length_nil, Nat.reduceAdd, Nat.reduceSub, Array.replicate_succ, Array.replicate_zero, List.push_toArray, List.append_toArray, List.nil_append, List.cons_append]
  gi_wp2
  gi_loopw [3] (fun i wr => i = .int .i64 (-1) ∧ J [] wr) (fun _ _ => 0)
  case atStart => exact ⟨rfl, h0⟩
  case round =>
    obtain ⟨rfl, hJs⟩ := hrel
    gi_wp2
    go_end0
    exact ⟨⟨_, rfl⟩, hJs⟩

set_option maxHeartbeats 1000000 in
theorem back_in (n : Nat) (a : Option Addr) (len cap : Nat) (w : World) :
    CallsIn Fence.wide n Try.prog 60 #[.slice a len cap] w fun e w' => e = .returned (.func (.func 76) #[] #[.pointer (some ⟨w.heap.size, 0, none⟩)]) ∧ w' = w.alloc (.cells #[.slice a len cap] 22) := by
  refine callsIn_of_wp Try.func60 rfl trivial ?_ rfl
  simp only [Try.ntmps60, List.size_toArray, List.length_cons, List.length_nil, Nat.reduceAdd, Nat.reduceSub, Array.replicate_succ, Array.replicate_zero, List.push_toArray, List.append_toArray, List.nil_append, List.cons_append]
  gi_wp2
  go_ret
  exact ⟨rfl, rfl⟩

theorem back_stops {w0 : World} (n Bs n₀ cap : Nat) (A : Option Addr) (L : List (It w0)) (hn : 1 ≤ n) (hreach : L.length ≤ 1048576) (w : World) (hBs : Bs < n₀) (hn₀ : n₀ ≤ w.heap.size)
    (hc : w.cell? ⟨Bs, 0, none⟩ = some (.slice A L.length cap)) (hI : 0 < L.length → ∃ b off, A = some ⟨b, off, none⟩ ∧ b < n₀ ∧ LAt w b off L) :
    SeqStopsK Fence.wide n Try.prog 76 #[.pointer (some ⟨Bs, 0, none⟩)] (fun x : It w0 => #[Value.int .i64 (x.i : Int), Value.agg #[x.kv, .int .u64 x.p.val]]) (Below n₀) (fun ys => ys = L.reverse)
      (fun pre => ∃ k, k ≤ L.length ∧ pre = L.reverse.take k) L.length w := fun l J Jx W hW _ _ hY h0 => by
  have hc' := (hW.cell (p := ⟨Bs, 0, none⟩) (Nat.lt_of_lt_of_le hBs hn₀)).trans hc
  rcases Nat.eq_zero_or_pos L.length with hz | hz
  · rw [hz] at hc'
    obtain rfl := List.eq_nil_of_length_eq_zero hz
    exact (back1_nil n l Bs cap A J W hc' h0).mono fun e W' ⟨he, hj⟩ => ⟨he, .inl ⟨_, rfl, hj⟩⟩
  · obtain ⟨b, off, rfl, hb, hL⟩ := hI hz
    refine back1_in n l Bs n₀ b off cap L hn hreach hb J Jx hY W hc' hBs ?_ h0
    intro j x hx
    obtain ⟨e, c0, c1⟩ := hL j x hx
    exact ⟨e, (hW.cell (p := ⟨b, off + j * 2, none⟩) (Nat.lt_of_lt_of_le hb hn₀)).trans c0, (hW.cell (p := ⟨b, off + j * 2 + 1, none⟩) (Nat.lt_of_lt_of_le hb hn₀)).trans c1⟩

theorem list_choose {α β : Type} (R : Nat → β → α → Prop) : ∀ (ps : List β) (o : Nat), (∀ j p, ps[j]? = some p → ∃ x, R (o + j) p x) → ∃ L : List α, L.length = ps.length ∧ ∀ j x, L[j]? = some x → ∃ p, ps[j]? = some p ∧ R (o + j) p x
  | [], _, _ => ⟨[], rfl, by simp⟩
  | p :: ps, o, h => by
    obtain ⟨x, hx⟩ := h 0 p rfl
    obtain ⟨L, h1, h2⟩ := list_choose R ps (o + 1) fun j q hq => by
      obtain ⟨y, hy⟩ := h (j + 1) q (by simpa using hq)
      exact ⟨y, by rw [show o + 1 + j = o + (j + 1) from by omega]; exact hy⟩
    refine ⟨x :: L, by simp [h1], fun j y hy => ?_⟩
    cases j with
    | zero => simp at hy; subst hy; exact ⟨p, rfl, hx⟩
    | succ j =>
      obtain ⟨q, k1, k2⟩ := h2 j y (by simpa using hy)
      exact ⟨q, by simpa using k1, by rw [show o + (j + 1) = o + 1 + j from by omega]; exact k2⟩

/-- The rounds' data of a list of pairs. -/
theorem its {w : World} {G : Nat → Prop} {A : Option Addr} {c : Nat} {ps : List Pr} (h : PairsAt w G (.slice A ps.length c) ps) (hf : Fit ps) :
    ∃ L : List (It w), L.length = ps.length ∧ L.map (·.p) = ps ∧ (0 < L.length → ∃ b off, A = some ⟨b, off, none⟩ ∧ b < w.heap.size ∧ LAt w b off L) := by
  rcases Nat.eq_zero_or_pos ps.length with hz | hz
  · obtain rfl := List.eq_nil_of_length_eq_zero hz
    exact ⟨[], rfl, rfl, by simp⟩
  · obtain ⟨b, off, kv, hA, -, hc, -⟩ := h.at_ hz
    subst hA
    obtain ⟨L, h1, h2⟩ := list_choose (fun j p (x : It w) => x.p = p ∧ x.i = j ∧ w.cell? ⟨b, off + j * 2, none⟩ = some x.kv ∧ w.cell? ⟨b, off + j * 2 + 1, none⟩ = some (.int .u64 x.p.val)) ps 0 fun j p hp => by
      obtain ⟨b', off', kv, e, -, q1, q2, q3⟩ := h.at2 hp
      cases e
      refine ⟨⟨j, kv, p, q2.mono fun _ _ _ => trivial, hf p (List.mem_of_getElem? hp)⟩, rfl, by simp, ?_, ?_⟩
      · simpa using q1
      · simpa using q3
    refine ⟨L, h1, ?_, fun _ => ⟨b, off, rfl, World.block_lt_of_cell? w _ hc, fun j x hx => ?_⟩⟩
    · apply List.ext_getElem (by simp [h1])
      intro i l1 l2
      obtain ⟨p, k1, k2, -⟩ := h2 i _ (List.getElem?_eq_getElem (by simpa using l1))
      rw [List.getElem_map, k2]
      exact (List.getElem?_eq_some_iff.1 k1).2.symm
    · obtain ⟨p, k1, k2, k3, k4, k5⟩ := h2 j x hx
      simp only [Nat.zero_add] at k3 k4 k5
      exact ⟨k3, k4, k5⟩

end Go.Proofs.Ytbnipbhkdodfpaa
