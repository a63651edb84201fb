/- The tree's Build, and law0's Long. -/
import Derived.Test.YtbnipbhkdodfpaaAlone
namespace Go.Proofs.Ytbnipbhkdodfpaa
open Go.RowKit

set_option maxHeartbeats 1000000 in
theorem tmay_long (G : Nat → Prop) (v : Value) (ps : List Pr) (w : World) (hp : PairsAt w G v ps) (hlen : ps.length ≤ 1048576) (p : Pr) (hpm : p ∈ ps) (hpl : 65535 < p.key.length) :
    Calls Try.prog 27 #[v] w fun e w' => e = .returned (.int .i64 3) ∧ New w w' := by
  obtain ⟨A, c, rfl, h1, h2, h3⟩ := id hp
  have Hp := Lib.hid hp
  clear h3 hp
  go_enter Try.func27, Try.ntmps27
  go_wp2
  go_loopw [7] (fun i wr => ∃ j : Nat, j ≤ ps.length ∧ i = .int .i64 (j : Int) ∧ New w wr ∧ p ∈ ps.drop j) (fun i _ => ps.length - (intOf i).toNat)
  case atStart => exact ⟨0, Nat.zero_le _, rfl, New.refl w, by simpa using hpm⟩
  case round =>
    obtain ⟨j, hj, rfl, hn, hm⟩ := hrel
    have hA : j < ps.length := by
      rcases Nat.lt_or_ge j ps.length with h | h
      · exact h
      · rw [List.drop_eq_nil_of_le h] at hm; simp at hm
    obtain ⟨q, hqj⟩ : ∃ q, ps[j]? = some q := ⟨_, List.getElem?_eq_getElem hA⟩
    obtain ⟨g, off, kv, rfl, _, q1, q2, q3⟩ := (Hp.out.new hn).at2 hqj
    obtain ⟨A2, c2, rfl, -, -⟩ := id q2
    have hsp : ps.drop j = q :: ps.drop (j + 1) := by
      obtain ⟨l, rfl⟩ := List.getElem?_eq_some_iff.1 hqj
      exact List.drop_eq_getElem_cons l
    rw [hsp] at hm
    by_cases hql : q.key.length ≤ 65535
    · have Hk : Hid (decide ((q.key.length : Int) ≤ 65535) = true) := Lib.hid (by simp; omega)
      go_wp2_with (go_at_call 29; refine (may_calls _ _ _ _).mono ?_; rintro e w1 ⟨rfl, rfl⟩; rw [Hk.out])
      refine ⟨⟨j + 1, by omega, by congr 1, hn.al _, ?_⟩, ?_⟩
      · rcases List.mem_cons.1 hm with rfl | h
        · omega
        · exact h
      · simp only [intOf]; omega
    · have Hk : Hid (decide ((q.key.length : Int) ≤ 65535) = false) := Lib.hid (by simp; omega)
      go_wp2_with (go_at_call 29; refine (may_calls _ _ _ _).mono ?_; rintro e w1 ⟨rfl, rfl⟩; rw [Hk.out])
      refine bodyPost_ret (v := .int .i64 3) (by simp [results, Try.results27, go_sem]) rfl ⟨rfl, hn.al _⟩

set_option maxHeartbeats 1000000 in
theorem tmay_calls (G : Nat → Prop) (v : Value) (ps : List Pr) (w : World) (hp : PairsAt w G v ps) (hlen : ps.length ≤ 1048576) (hk : ∀ p ∈ ps, p.key.length ≤ 65535) :
    Calls Try.prog 27 #[v] w fun e w' => e = .returned (.int .i64 (if rises ps then 0 else 9)) ∧ New w w' := by
  obtain ⟨A, c, rfl, h1, h2, h3⟩ := id hp
  have Hp := Lib.hid hp
  clear h3 hp
  cases hr : rises ps with
  | true =>
    have Hr := Lib.hid hr
    clear hr
    go_enter Try.func27, Try.ntmps27
    go_wp2
    go_loopw [7] (fun i wr => ∃ j : Nat, j ≤ ps.length ∧ i = .int .i64 (j : Int) ∧ New w wr) (fun i _ => ps.length - (intOf i).toNat)
    case atStart => exact ⟨0, Nat.zero_le _, rfl, New.refl w⟩
    case round =>
      obtain ⟨j, hj, rfl, hn⟩ := hrel
      by_cases hA : j < ps.length
      · obtain ⟨q, hqj⟩ : ∃ q, ps[j]? = some q := ⟨_, List.getElem?_eq_getElem hA⟩
        obtain ⟨g, off, kv, rfl, _, q1, q2, q3⟩ := (Hp.out.new hn).at2 hqj
        obtain ⟨A2, c2, rfl, -, -⟩ := id q2
        have hql := hk q (List.mem_of_getElem? hqj)
        have Hk : Hid (decide ((q.key.length : Int) ≤ 65535) = true) := Lib.hid (by simp; omega)
        go_wp2_with (go_at_call 29; refine (may_calls _ _ _ _).mono ?_; rintro e w1 ⟨rfl, rfl⟩; rw [Hk.out])
        exact ⟨⟨j + 1, by omega, by congr 1, hn.al _⟩, by simp only [intOf]; omega⟩
      · go_wp2_with (go_at_call 49; refine (mrises_calls G _ ps _ (by exact Hp.out.new hn) hlen).mono ?_; rintro e w1 ⟨rfl, hw1⟩; rw [Hr.out])
        refine bodyPost_ret (v := .int .i64 0) (by simp [results, Try.results27, go_sem]) rfl ⟨rfl, hn.tr hw1⟩
  | false =>
    have Hr := Lib.hid hr
    clear hr
    go_enter Try.func27, Try.ntmps27
    go_wp2
    go_loopw [7] (fun i wr => ∃ j : Nat, j ≤ ps.length ∧ i = .int .i64 (j : Int) ∧ New w wr) (fun i _ => ps.length - (intOf i).toNat)
    case atStart => exact ⟨0, Nat.zero_le _, rfl, New.refl w⟩
    case round =>
      obtain ⟨j, hj, rfl, hn⟩ := hrel
      by_cases hA : j < ps.length
      · obtain ⟨q, hqj⟩ : ∃ q, ps[j]? = some q := ⟨_, List.getElem?_eq_getElem hA⟩
        obtain ⟨g, off, kv, rfl, _, q1, q2, q3⟩ := (Hp.out.new hn).at2 hqj
        obtain ⟨A2, c2, rfl, -, -⟩ := id q2
        have hql := hk q (List.mem_of_getElem? hqj)
        have Hk : Hid (decide ((q.key.length : Int) ≤ 65535) = true) := Lib.hid (by simp; omega)
        go_wp2_with (go_at_call 29; refine (may_calls _ _ _ _).mono ?_; rintro e w1 ⟨rfl, rfl⟩; rw [Hk.out])
        exact ⟨⟨j + 1, by omega, by congr 1, hn.al _⟩, by simp only [intOf]; omega⟩
      · go_wp2_with (go_at_call 49; refine (mrises_calls G _ ps _ (by exact Hp.out.new hn) hlen).mono ?_; rintro e w1 ⟨rfl, hw1⟩; rw [Hr.out])
        refine bodyPost_ret (v := .int .i64 9) (by simp [results, Try.results27, go_sem]) rfl ⟨rfl, hn.tr hw1⟩

set_option maxHeartbeats 1000000 in
theorem tbuild_nil (v : Value) (w : World) : Calls Try.prog 9 #[.pointer none, v] w fun e w' => e = .returned (.int .i64 1) ∧ w' = w := by
  go_enter Try.func9, Try.ntmps9
  go_wp2
  go_ret
  exact ⟨rfl, rfl⟩

set_option maxHeartbeats 1000000 in
theorem tbuild_long (G : Nat → Prop) (t : Nat) (v : Value) (ps : List Pr) (w : World) (hp : PairsAt w G v ps) (hlen : ps.length ≤ 1048576) (p : Pr) (hpm : p ∈ ps) (hpl : 65535 < p.key.length) :
    Calls Try.prog 9 #[.pointer (some ⟨t, 0, none⟩), v] w fun e w' => e = .returned (.int .i64 3) ∧ New w w' := by
  go_enter Try.func9, Try.ntmps9
  go_wp2_with (go_at_call 27; refine (tmay_long G _ ps _ hp hlen p hpm hpl).mono ?_; rintro e w1 ⟨rfl, hw⟩)
  go_ret
  exact ⟨rfl, hw⟩

set_option maxHeartbeats 1000000 in
theorem bybyte_none (A : Option Addr) (c : Nat) (n : Int) (w : World) : Calls Try.prog 45 #[.slice A 0 c, .int .i64 n] w fun e w' => e = .returned (.slice none 0 0) ∧ w' = w := by
  go_enter Try.func45, Try.ntmps45
  go_wp2
  go_loopw [5, 10] (fun o i wr => o = .slice none 0 0 ∧ i = .int .i64 0 ∧ wr = w) (fun _ _ _ => 0)
  case atStart => exact ⟨rfl, rfl, rfl⟩
  case round =>
    obtain ⟨rfl, rfl, rfl⟩ := hrel
    go_wp2
    go_ret
    exact ⟨rfl, rfl⟩
set_option maxHeartbeats 1000000 in
theorem node_none (t : Nat) (n : Int) (w : World) : Calls Try.prog 44 #[.pointer (some ⟨t, 0, none⟩), .slice none 0 0, .int .i64 n] w fun e w' => e = .returned (.tuple #[]) ∧ w' = w := by
  go_enter Try.func44, Try.ntmps44
  go_wp2
  refine bodyPost_ret (v := .tuple #[]) (by simp [results, Try.results44, go_sem]) rfl ⟨rfl, rfl⟩
set_option maxHeartbeats 1000000 in
theorem tshape_nil (w : World) : Calls Try.prog 22 #[.pointer none] w fun e w' => e = .returned (.slice none 0 0) ∧ New w w' := by
  go_enter Try.func22, Try.ntmps22
  go_wp2_with (first
    | (go_at_call 36; refine (tindex_nil _).mono ?_; rintro e w1 ⟨rfl, rfl⟩)
    | (go_at_call 43; refine (mall_nil _).mono ?_; rintro e w1 ⟨rfl, rfl⟩)
    | (go_at_call 45; refine (bybyte_none _ _ _ _).mono ?_; rintro e w1 ⟨rfl, rfl⟩)
    | (go_at_call 44; refine (node_none _ _ _).mono ?_; rintro e w1 ⟨rfl, rfl⟩))
  go_ret
  exact ⟨rfl, (New.refl _).al _⟩

/-- A key of a length, of its last byte. -/
def longKey (n : Nat) (b : UInt8) : Key := (List.replicate n 120).set (n - 1) b
theorem longKey_length (n : Nat) (b : UInt8) : (longKey n b).length = n := by simp [longKey]
set_option maxRecDepth 100000 in
set_option maxHeartbeats 2000000 in
theorem long_calls (n : Nat) (b : UInt8) (w : World) (h0 : 0 < n) (h1 : n ≤ 70000) :
    Calls Try.prog 17 #[.int .i64 n, .int .u8 (b.toNat : Int)] w fun e w' => ∃ v, e = .returned v ∧ New w w' ∧ OwnBytes w' w.heap.size v (longKey n b) := by
  go_enter Try.func17, Try.ntmps17
  go_wp2
  go_loopw [5, 6] (fun o i wr => ∃ j : Nat, j ≤ n ∧ i = .int .i64 (j : Int) ∧ New w wr ∧ OwnBytes wr w.heap.size o (List.replicate j 120)) (fun _ i _ => n - (intOf i).toNat)
  case atStart => exact ⟨0, Nat.zero_le _, rfl, New.refl w, OwnBytes.nil _ _⟩
  case round =>
    obtain ⟨j, hj, rfl, hn, ho⟩ := hrel
    obtain ⟨A, c, rfl, hc1, hc2⟩ := Own.shape ho
    rw [List.length_replicate] at hc1 ⊢
    have Ho := Lib.hid ho
    clear ho
    have g1 : ((n : Int) ≤ 70000) := by omega
    by_cases hA : j < n
    · go_wp2_with (at_builtin; refine wp_app (base := w.heap.size) rfl _ _ rfl eB (.slice A j c) (.slice (some ⟨wr.heap.size, 0, none⟩) 1 1) rfl rfl j 1 (cells8 (List.replicate j 120)) [.int .u8 120] (by have := Own.alloc Ho.out (Obj.cells #[.int .u8 120] 5); simpa using this) (Src.box _ _ _ _ rfl (by simp [Value.oneCell'])) (by omega) (by have := hn.size; simp; omega) ?_; intro v' w3 hown hg hat; obtain ⟨A3, c3, rfl, -, -⟩ := hown.shape)
      have hs := hn.size
      have hbk : ∀ b, blk (.slice A j c) = some b → w.heap.size ≤ b := fun b h => by
        have := Own.base Ho.out b (by simpa using h); exact this.1
      refine ⟨⟨j + 1, by omega, by congr 1, ?_, ?_⟩, ?_⟩
      · have h3 : Below w.heap.size (wr.alloc (.cells #[.int .u8 120] 5)) w3 := (Chg.grown hg).below (by simp; omega) fun b hb e => by have := hbk b e.symm; omega
        exact (hn.al _).trans h3
      · unfold OwnBytes
        rw [List.length_replicate, List.replicate_succ', cells8_append]
        exact hown
      · simp only [intOf]; omega
    · obtain rfl : j = n := by omega
      obtain ⟨q, rfl⟩ : ∃ q, j = q + 1 := ⟨j - 1, by omega⟩
      obtain ⟨g, c', hv, hg⟩ := Own.cases Ho.out (by simp)
      injection hv with ea eb ec
      subst ea; subst ec
      have ho := Ho.out
      unfold OwnBytes at ho
      rw [List.length_replicate] at ho
      have cq : wr.cell? ⟨g, q, none⟩ = some (.int .u8 120) := ho.cell (j := q) (by rw [cells8_at (by simp)]; simp)
      have fq : wr.frozen? ⟨g, q, none⟩ = false := ho.fro (by omega)
      have hset := own_set (j := q) ho (by simp [cells8_length]) (.int .u8 (b.toNat : Int))
      clear ho
      have i1 : ((q + 1 : Nat) : Int) - 1 = q := by omega
      go_wp2
      refine bodyPost_ret (v := .slice (some ⟨g, 0, none⟩) (q + 1) c) (by simp [results, Try.results17, go_sem]) rfl ⟨_, rfl, hn.setCell hg _, ?_⟩
      unfold OwnBytes
      rw [longKey_length]
      have : cells8 (longKey (q + 1) b) = (cells8 (List.replicate (q + 1) 120)).set q (.int .u8 (b.toNat : Int)) := by
        simp [longKey, cells8, List.map_set]
      rw [this]
      exact hset

end Go.Proofs.Ytbnipbhkdodfpaa
