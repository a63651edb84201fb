/- Floor, and lists of pairs. -/
import Derived.Test.YtbnipbhkdodfpaaSel
import Derived.Test.YtbnipbhkdodfpaaDrop
namespace Go.Proofs.Ytbnipbhkdodfpaa
open Go.RowKit

set_option maxHeartbeats 1000000 in
theorem mfloor_calls (F H : Nat → Prop) (m : Nat) (u : Value) (ps : List Pr) (k : Key) (w : World) (hm : MapAt w F m ps) (hb : BytesAt w H u k) (hs : Sorted ps) (hlen : ps.length ≤ 1048576) (hf : Fit ps) :
    Calls Try.prog 37 #[.pointer (some ⟨m, 0, none⟩), u] w fun e w' => ∃ v, e = .returned (.tuple #[v, .bool (nth ps (floorI ps k)).isSome]) ∧ New w w' ∧ PairV w' w.heap.size v ((nth ps (floorI ps k)).getD default) := by
  have hN := (New.refl w).al (.cells #[.slice none 0 0, .int .u64 0] 40)
  have e0 := World.cell?_alloc_new w #[.slice none 0 0, .int .u64 0] 40 0
  have e1 := World.cell?_alloc_new w #[.slice none 0 0, .int .u64 0] 40 1
  have f0 := World.frozen?_alloc_new w #[.slice none 0 0, .int .u64 0] 40 0
  have f1 := World.frozen?_alloc_new w #[.slice none 0 0, .int .u64 0] 40 1
  have hz : (w.alloc (.cells #[.slice none 0 0, .int .u64 0] 40)).heap.size = w.heap.size + 1 := by simp
  have hM := Lib.hid (hm.new hN)
  have hB := Lib.hid (hb.new hN)
  have hr := rank_le ps k
  clear hm hb
  cases hh : has ps k with
  | true =>
    have Hh := Lib.hid hh
    rw [show floorI ps k = (rank ps k : Int) from by simp [floorI, hh]]
    clear hh
    go_enter Try.func37, Try.ntmps37
    go_wp2_with (first
      | (go_at_call 50; refine (mfind_calls F H m _ ps k _ (by exact hM.out) (by exact hB.out) hs hlen).mono ?_; rintro e w1 ⟨rfl, hw⟩; rw [Hh.out])
      | (go_at_call 38; refine (mselect_calls F m ps _ _ (by exact hM.out.new hw) hf).mono ?_; rintro e w2 ⟨v, rfl, hw2, hv⟩; go_loud (obtain ⟨A2, c2, rfl, ho⟩ := hv.shape; have hw3 := hw.tr hw2; have d0 := hw3.c (e0.trans rfl); have d1 := hw3.c (e1.trans rfl); have k0 := hw3.f (e0.trans rfl) f0; have k1 := hw3.f (e1.trans rfl) f1)))
    refine bodyPost_ret (v := .tuple #[.agg #[.slice A2 ((nth ps ((rank ps k : Int))).getD default).key.length c2, .int .u64 ((nth ps ((rank ps k : Int))).getD default).val], .bool (nth ps ((rank ps k : Int))).isSome]) (by simp [results, Try.results37, go_sem, d0, d1]) rfl ⟨_, rfl, ?_, _, rfl, ?_⟩
    · exact ((hN.tr hw3).setCell (by simp) _).setCell (by simp) _
    · have := hw.size
      exact ((Own.set_ (Own.set_ ho (by simp; omega) _) (by simp; omega) _).lower (by omega))
  | false =>
    have Hh := Lib.hid hh
    rw [show floorI ps k = (rank ps k : Int) - 1 from by simp [floorI, hh]]
    clear hh
    go_enter Try.func37, Try.ntmps37
    go_wp2_with (first
      | (go_at_call 50; refine (mfind_calls F H m _ ps k _ (by exact hM.out) (by exact hB.out) hs hlen).mono ?_; rintro e w1 ⟨rfl, hw⟩; rw [Hh.out])
      | (go_at_call 38; refine (mselect_calls F m ps _ _ (by exact hM.out.new hw) hf).mono ?_; rintro e w2 ⟨v, rfl, hw2, hv⟩; go_loud (obtain ⟨A2, c2, rfl, ho⟩ := hv.shape; have hw3 := hw.tr hw2; have d0 := hw3.c (e0.trans rfl); have d1 := hw3.c (e1.trans rfl); have k0 := hw3.f (e0.trans rfl) f0; have k1 := hw3.f (e1.trans rfl) f1)))
    refine bodyPost_ret (v := .tuple #[.agg #[.slice A2 ((nth ps ((rank ps k : Int) - 1)).getD default).key.length c2, .int .u64 ((nth ps ((rank ps k : Int) - 1)).getD default).val], .bool (nth ps ((rank ps k : Int) - 1)).isSome]) (by simp [results, Try.results37, go_sem, d0, d1]) rfl ⟨_, rfl, ?_, _, rfl, ?_⟩
    · exact ((hN.tr hw3).setCell (by simp) _).setCell (by simp) _
    · have := hw.size
      exact ((Own.set_ (Own.set_ ho (by simp; omega) _) (by simp; omega) _).lower (by omega))

set_option maxHeartbeats 1000000 in
theorem mfloor_nil (u : Value) (w : World) :
    Calls Try.prog 37 #[.pointer none, u] w fun e w' => e = .returned (.tuple #[.agg #[.slice none 0 0, .int .u64 0], .bool false]) ∧ New w w' := by
  have hN := (New.refl w).al (.cells #[.slice none 0 0, .int .u64 0] 40)
  have e0 := World.cell?_alloc_new w #[.slice none 0 0, .int .u64 0] 40 0
  have e1 := World.cell?_alloc_new w #[.slice none 0 0, .int .u64 0] 40 1
  have f0 := World.frozen?_alloc_new w #[.slice none 0 0, .int .u64 0] 40 0
  have f1 := World.frozen?_alloc_new w #[.slice none 0 0, .int .u64 0] 40 1
  have hz : (w.alloc (.cells #[.slice none 0 0, .int .u64 0] 40)).heap.size = w.heap.size + 1 := by simp
  go_enter Try.func37, Try.ntmps37
  go_wp2_with (first
    | (go_at_call 50; refine (mfind_nil _ _).mono ?_; rintro e w1 ⟨rfl, rfl⟩)
    | (go_at_call 38; refine (mselect_nil _ _).mono ?_; rintro e w2 ⟨rfl, hw3⟩; go_loud (have d0 := hw3.c (e0.trans rfl); have d1 := hw3.c (e1.trans rfl); have k0 := hw3.f (e0.trans rfl) f0; have k1 := hw3.f (e1.trans rfl) f1)))
  refine bodyPost_ret (v := .tuple #[.agg #[.slice none 0 0, .int .u64 0], .bool false]) (by simp [results, Try.results37, go_sem, d0, d1]) rfl ⟨rfl, ?_⟩
  exact ((hN.tr hw3).setCell (by simp) _).setCell (by simp) _

set_option maxHeartbeats 1000000 in
theorem mfrom_nil (u : Value) (n : Int) (w : World) :
    Calls Try.prog 42 #[.pointer none, u, .int .i64 n] w fun e w' => e = .returned (.slice none 0 0) ∧ w' = w := by
  go_enter Try.func42, Try.ntmps42
  go_wp2_with (first
    | (go_at_call 50; refine (mfind_nil _ _).mono ?_; rintro e w1 ⟨rfl, rfl⟩)
    | (go_at_call 40; refine (mlen_nil _).mono ?_; rintro e w2 ⟨rfl, rfl⟩))
  go_loopw [7, 9] (fun i o wr => i = .int .i64 0 ∧ o = .slice none 0 0 ∧ wr = w1) (fun _ _ _ => 0)
  case atStart => exact ⟨rfl, rfl, rfl⟩
  case round =>
    obtain ⟨rfl, rfl, rfl⟩ := hrel
    go_wp2_with (go_at_call 40; refine (mlen_nil _).mono ?_; rintro e w2 ⟨rfl, rfl⟩)
    go_ret
    exact ⟨rfl, rfl⟩

set_option maxHeartbeats 1000000 in
theorem mall_nil (w : World) :
    Calls Try.prog 43 #[.pointer none] w fun e w' => e = .returned (.slice none 0 0) ∧ w' = w := by
  go_enter Try.func43, Try.ntmps43
  go_wp2_with (first
    | (go_at_call 42; refine (mfrom_nil _ _ _).mono ?_; rintro e w1 ⟨rfl, rfl⟩)
    | (go_at_call 40; refine (mlen_nil _).mono ?_; rintro e w2 ⟨rfl, rfl⟩))
  go_ret
  exact ⟨rfl, rfl⟩

theorem take_drop_succ {α : Type} {ps : List α} {r j : Nat} {p : α} (h : ps[r + j]? = some p) : (ps.drop r).take (j + 1) = (ps.drop r).take j ++ [p] := by
  rw [List.take_add_one, List.getElem?_drop, h]; rfl

/-- A list of pairs that the call owns, whose keys lie in boxes of bytes from 'base' on. -/
def OwnPs (w : World) (base : Nat) (v : Value) (ps : List Pr) : Prop :=
  ∃ cs, Own w base 40 2 v ps.length cs ∧ PairCells w (fun b => base ≤ b ∧ Typ w b 5) cs ps
theorem OwnPs.nil (w : World) (base : Nat) : OwnPs w base (.slice none 0 0) [] := ⟨[], Own.nil _ _ _ _, rfl⟩
theorem Typ.keep {w w' : World} {b : Nat} {t : TypeId} (h : Typ w b t) (hk : w'.heap[b]? = w.heap[b]?) : Typ w' b t := by
  obtain ⟨cs, fr, h⟩ := h; exact ⟨cs, fr, hk.trans h⟩
theorem OwnPs.keep {w w' : World} {base base' : Nat} {v : Value} {ps : List Pr} (h : OwnPs w base v ps) (hb : base' ≤ base) (hk : ∀ b, b < w.heap.size → base ≤ b → w'.heap[b]? = w.heap[b]?) : OwnPs w' base' v ps := by
  obtain ⟨cs, h1, h2⟩ := h
  exact ⟨cs, h1.keep hb (fun b hl he => hk b hl (h1.base b he).1), (h2.keep fun b hl hg => hk b hl hg.1).mono fun b hb' h => ⟨Nat.le_trans hb h.1, h.2.keep (hk b h.2.lt h.1)⟩⟩
theorem OwnPs.new {w w' : World} {base : Nat} {v : Value} {ps : List Pr} (h : OwnPs w base v ps) (hn : New w w') : OwnPs w' base v ps := h.keep (Nat.le_refl _) fun b hb _ => hn.block b hb
theorem OwnPs.lower {w : World} {base base' : Nat} {v : Value} {ps : List Pr} (h : OwnPs w base v ps) (hb : base' ≤ base) : OwnPs w base' v ps := h.keep hb fun _ _ _ => rfl
theorem OwnPs.own {w : World} {base : Nat} {v : Value} {ps : List Pr} (h : OwnPs w base v ps) : OwnPairs w base v ps := by
  obtain ⟨cs, h1, h2⟩ := h; exact ⟨cs, h1, h2.mono fun _ _ h => h.1⟩
theorem OwnPs.read {w : World} {base : Nat} {v : Value} {ps : List Pr} (h : OwnPs w base v ps) : PairsAt w (fun b => base ≤ b) v ps := h.own.read

/-- One pair more on a list that the call owns. -/
theorem own_snoc {w w2 w3 : World} {base : Nat} {v' kv : Value} {cs : List Value} {ps : List Pr} {p : Pr} {v : Value} {n B : Nat} {ob : Obj} (h1 : Own w base 40 2 v n cs) (h2 : PairCells w (fun b => base ≤ b ∧ Typ w b 5) cs ps)
    (hn : New w w2) (hk : OwnBytes w2 B kv p.key) (hB : w.heap.size ≤ B) (hb : base ≤ w.heap.size) (he : n = ps.length)
    (ho : Own w3 base 40 2 v' (n + 1) (cs ++ [kv, .int .u64 p.val])) (hg : (w2.alloc ob).grownBy w3 (blk v)) :
    OwnPs w3 base v' (ps ++ [p]) ∧ Below base w w3 := by
  subst he
  have hs : (w2.alloc ob).heap.size = w2.heap.size + 1 := by simp
  have hsn := hn.size
  have ht : ∀ b, Typ w b 5 → some b ≠ blk v := fun b ⟨c, fr, h⟩ => own_typ h1 h (by decide)
  have h2k : ∀ b, b < w2.heap.size → some b ≠ blk v → w3.heap[b]? = w2.heap[b]? := fun b hb h => by
    rw [hg.block b (by omega) h, Below.heap_alloc w2 ob b hb]
  have hbk : ∀ b, blk v = some b → base ≤ b ∧ b < w.heap.size := fun b h => h1.base b h
  refine ⟨⟨_, by simpa using ho, PairCells.append ?_ (PairCells.one_ ?_)⟩, ?_⟩
  · exact (h2.keep fun b hl h => (h2k b (by omega) (ht b h.2)).trans (hn.block b hl)).mono fun b _ h => ⟨h.1, h.2.keep ((h2k b (by have := h.2.lt; omega) (ht b h.2)).trans (hn.block b h.2.lt))⟩
  · have hx : ∀ b, B ≤ b → some b ≠ blk v := fun b h e => by have := (hbk b e.symm).2; omega
    exact (hk.read5.keep fun b hl h => h2k b hl (hx b h.1)).mono fun b _ h => ⟨by omega, h.2.keep (h2k b h.2.lt (hx b h.1))⟩
  · have h3 : Below base (w2.alloc ob) w3 := (Chg.grown hg).below (by omega) fun b hl e => by have := (hbk b e.symm).1; omega
    exact ((hn.mono hb).alloc (by omega) ob).trans h3

set_option maxHeartbeats 1000000 in
theorem mfrom_calls (F H : Nat → Prop) (m : Nat) (u : Value) (ps : List Pr) (k : Key) (n : Int) (w : World) (hm : MapAt w F m ps) (hb : BytesAt w H u k) (hs : Sorted ps) (hlen : ps.length ≤ 1048576) (hf : Fit ps) :
    Calls Try.prog 42 #[.pointer (some ⟨m, 0, none⟩), u, .int .i64 n] w fun e w' => ∃ v, e = .returned v ∧ New w w' ∧ OwnPs w' w.heap.size v ((ps.drop (rank ps k)).take n.toNat) := by
  have hM := Lib.hid hm
  have hB := Lib.hid hb
  have hr := rank_le ps k
  clear hm hb
  go_enter Try.func42, Try.ntmps42
  go_wp2_with (first
    | (go_at_call 50; refine (mfind_calls F H m _ ps k _ (by exact hM.out) (by exact hB.out) hs hlen).mono ?_; rintro e w1 ⟨rfl, hw⟩))
  go_loopw [7, 9] (fun i o wr => ∃ j : Nat, j ≤ ps.length - rank ps k ∧ i = .int .i64 ((rank ps k + j : Nat) : Int) ∧ New w wr ∧ OwnPs wr w.heap.size o ((ps.drop (rank ps k)).take j) ∧ (j = 0 ∨ (j : Int) ≤ n)) (fun i _ _ => ps.length - (intOf i).toNat)
  case atStart => exact ⟨0, by omega, rfl, hw, OwnPs.nil _ _, .inl rfl⟩
  case round =>
    obtain ⟨j, hj, rfl, hn, ho, hjn⟩ := hrel
    obtain ⟨cs, ho1, ho2⟩ := ho
    obtain ⟨A', c', rfl, hc1, hc2⟩ := ho1.shape
    have hjl : (List.take j (List.drop (rank ps k) ps)).length = j := by simp; omega
    rw [hjl] at ho1 hc1 ⊢
    have Ho1 := Lib.hid ho1
    have Ho2 := Lib.hid ho2
    clear ho1 ho2
    by_cases hA : rank ps k + j < ps.length
    · have g1 : decide (((rank ps k + j : Nat) : Int) < ps.length) = true := by simp; omega
      by_cases hB2 : (j : Int) < n
      · obtain ⟨p, hp⟩ : ∃ p, ps[rank ps k + j]? = some p := ⟨_, List.getElem?_eq_getElem hA⟩
        obtain ⟨v, hc, hpp⟩ := (hM.out.new hn).read
        obtain ⟨A, c, rfl, h1, h2, h3⟩ := id hpp
        obtain ⟨g, off, kv, rfl, _, q1, q2, q3⟩ := hpp.at2 hp
        have hfp := hf p (List.mem_of_getElem? hp)
        clear h3 hpp
        go_wp2_with (first
          | (go_at_call 40; refine (mlen_calls F m ps _ (by exact hM.out.new hn)).mono ?_; rintro e w2 ⟨rfl, rfl⟩)
          | (go_at_call 59; refine (copied_calls F kv p _ (by exact q2) hfp).mono ?_; rintro e w2 ⟨kv', rfl, hw2, hok⟩; go_loud (obtain ⟨A2, c2, rfl, -, -⟩ := Own.shape hok))
          | (at_builtin; refine wp_app (base := w.heap.size) rfl _ _ rfl eP (.slice A' j c') (.slice (some ⟨w2.heap.size, 0, none⟩) 1 1) rfl rfl j 1 cs [.slice A2 p.key.length c2, .int .u64 p.val] ((Ho1.out.new hw2).alloc _) (Src.box _ _ _ _ rfl (by simp [Value.oneCell'])) (by omega) (by have := hn.size; have := hw2.size; simp; omega) ?_; intro v' w3 hown hg hat; obtain ⟨A3, c3, rfl, -, -⟩ := hown.shape))
        obtain ⟨o1, o2⟩ := own_snoc Ho1.out Ho2.out hw2 hok (Nat.le_refl _) hn.size hjl.symm hown hg
        refine ⟨⟨j + 1, by omega, ?_, hn.trans o2, ?_, .inr (by omega)⟩, ?_⟩
        · congr 1
        · rw [take_drop_succ hp]; exact o1
        · simp only [intOf]; omega
      · go_wp2_with (go_at_call 40; refine (mlen_calls F m ps _ (by exact hM.out.new hn)).mono ?_; rintro e w2 ⟨rfl, rfl⟩)
        refine bodyPost_ret (v := .slice A' j c') (by simp [results, Try.results42, go_sem]) rfl ⟨_, rfl, hn, ?_⟩
        have hjn' : n.toNat = j := by omega
        rw [hjn']
        exact ⟨cs, by rw [hjl]; exact Ho1.out, Ho2.out⟩
    · go_wp2_with (go_at_call 40; refine (mlen_calls F m ps _ (by exact hM.out.new hn)).mono ?_; rintro e w2 ⟨rfl, rfl⟩)
      refine bodyPost_ret (v := .slice A' j c') (by simp [results, Try.results42, go_sem]) rfl ⟨_, rfl, hn, ?_⟩
      rw [show (ps.drop (rank ps k)).take n.toNat = (ps.drop (rank ps k)).take j from by
        rw [List.take_of_length_le (by simp; omega), List.take_of_length_le (by simp; omega)]]
      exact ⟨cs, by rw [hjl]; exact Ho1.out, Ho2.out⟩

theorem rank_nil (ps : List Pr) : rank ps [] = 0 := by
  cases ps with
  | nil => rfl
  | cons p ps => simp only [rank]; cases h : p.key <;> simp [klt]

set_option maxHeartbeats 1000000 in
theorem mall_calls (F : Nat → Prop) (m : Nat) (ps : List Pr) (w : World) (hm : MapAt w F m ps) (hs : Sorted ps) (hlen : ps.length ≤ 1048576) (hf : Fit ps) :
    Calls Try.prog 43 #[.pointer (some ⟨m, 0, none⟩)] w fun e w' => ∃ v, e = .returned v ∧ New w w' ∧ OwnPs w' w.heap.size v ps := by
  go_enter Try.func43, Try.ntmps43
  go_wp2_with (first
    | (go_at_call 42; refine (mfrom_calls F (fun _ => False) m _ ps [] _ _ (by exact hm) (BytesAt.nil _ _) hs hlen hf).mono ?_; rintro e w1 ⟨v, rfl, hw, ho⟩)
    | (go_at_call 40; refine (mlen_calls F m ps _ (by exact hm)).mono ?_; rintro e w2 ⟨rfl, rfl⟩))
  go_ret
  refine ⟨_, rfl, hw, ?_⟩
  rw [rank_nil] at ho
  simpa using ho

end Go.Proofs.Ytbnipbhkdodfpaa
