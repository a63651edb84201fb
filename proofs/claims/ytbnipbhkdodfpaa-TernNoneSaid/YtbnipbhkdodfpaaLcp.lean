/- Plain facts on common beginnings of keys, and on how many cells a ternary tree of some pairs has. No program in sight. -/
import Derived.Test.YtbnipbhkdodfpaaKey
namespace Go.Proofs.Ytbnipbhkdodfpaa

/-- how many bytes two keys both begin with -/
def lcp : Key → Key → Nat
  | a :: x, b :: y => if a = b then lcp x y + 1 else 0
  | _, _ => 0

theorem lcp_comm (a b : Key) : lcp a b = lcp b a := by
  induction a generalizing b with
  | nil => cases b <;> rfl
  | cons x xs ih => cases b with
    | nil => rfl
    | cons y ys =>
      simp only [lcp]
      by_cases h : x = y
      · subst h; simp [ih]
      · simp [h, Ne.symm h]

theorem lcp_le_left (a b : Key) : lcp a b ≤ a.length := by
  induction a generalizing b with
  | nil => cases b <;> simp [lcp]
  | cons x xs ih => cases b with
    | nil => simp [lcp]
    | cons y ys => simp only [lcp]; split <;> simp; exact ih ys

theorem lcp_le_right (a b : Key) : lcp a b ≤ b.length := by rw [lcp_comm]; exact lcp_le_left b a

theorem lcp_nil (a : Key) : lcp a [] = 0 := by cases a <;> rfl
theorem nil_lcp (a : Key) : lcp [] a = 0 := by cases a <;> rfl

theorem lcp_self (a : Key) : lcp a a = a.length := by
  induction a with
  | nil => rfl
  | cons x xs ih => simp [lcp, ih]

/-- of three keys that rise: what the outer ones share is the less of what each shares with the one between -/
theorem lcp_min {a b c : Key} (h : klt a b = true) (k : klt b c = true) : lcp a c = min (lcp a b) (lcp b c) := by
  induction a generalizing b c with
  | nil => simp [nil_lcp]
  | cons x xs ih =>
    cases b with
    | nil => simp [klt] at h
    | cons y ys =>
      cases c with
      | nil => simp [klt] at k
      | cons z zs =>
        simp only [klt, Bool.or_eq_true, decide_eq_true_eq, Bool.and_eq_true, beq_iff_eq] at h k
        simp only [lcp]
        rcases h with h | ⟨rfl, h⟩
        · have h1 : x ≠ y := fun e => by subst e; exact UInt8.lt_irrefl _ h
          rcases k with k | ⟨rfl, k⟩
          · have h2 : x ≠ z := fun e => by subst e; exact UInt8.lt_irrefl _ (UInt8.lt_trans h k)
            simp [h1, h2]
          · simp [h1]
        · rcases k with k | ⟨rfl, k⟩
          · have h2 : x ≠ z := fun e => by subst e; exact UInt8.lt_irrefl _ k
            simp [h2]
          · simp [ih h k]

/-- how much a key shares with another one, if there is one -/
def lcpO : Option Pr → Key → Nat
  | none, _ => 0
  | some p, k => lcp p.key k

/-- how many cells of a ternary tree a key adds behind another one -/
def tw (q : Option Pr) (k : Key) : Nat := if k = [] then 1 else k.length - lcpO q k

/-- how many cells some pairs add behind another one -/
def tc : Option Pr → List Pr → Nat
  | _, [] => 0
  | q, p :: ps => tw q p.key + tc (some p) ps

/-- how many cells a ternary tree of some pairs has -/
def tcells (ps : List Pr) : Nat := tc none ps

/-- the pair right ahead of a key -/
def before (ps : List Pr) (k : Key) : Option Pr := if rank ps k = 0 then none else ps[rank ps k - 1]?
/-- the pair right behind a key -/
def behind (ps : List Pr) (k : Key) : Option Pr := if has ps k then ps[rank ps k + 1]? else ps[rank ps k]?

/-- how many cells a key takes beside those that it shares -/
def alone (ps : List Pr) (k : Key) : Nat :=
  if k = [] then 1 else k.length - max (lcpO (before ps k) k) (lcpO (behind ps k) k)

/-- the last of some pairs behind another one -/
def lastO (q : Option Pr) (ps : List Pr) : Option Pr := match ps.getLast? with | some p => some p | none => q

theorem lastO_cons (q : Option Pr) (p : Pr) (ps : List Pr) : lastO q (p :: ps) = lastO (some p) ps := by
  cases ps with
  | nil => rfl
  | cons r rs => simp [lastO, List.getLast?_cons_cons, List.getLast?_cons]

theorem tc_append (q : Option Pr) (a b : List Pr) : tc q (a ++ b) = tc q a + tc (lastO q a) b := by
  induction a generalizing q with
  | nil => simp [tc, lastO]
  | cons p ps ih => simp only [List.cons_append, tc, ih, lastO_cons]; omega

theorem lcpO_le (q : Option Pr) (k : Key) : lcpO q k ≤ k.length := by
  cases q with
  | none => simp [lcpO]
  | some p => exact lcp_le_right _ _

/-- what a key put between two adds -/
theorem tc_insert (q : Option Pr) (k : Key) (v : Int) (b : List Pr) (hq : ∀ p, q = some p → klt p.key k = true) (hb : ∀ p, b.head? = some p → klt k p.key = true) :
    tc q (⟨k, v⟩ :: b) = tc q b + (if k = [] then 1 else k.length - max (lcpO q k) (lcpO b.head? k)) := by
  cases b with
  | nil => simp only [tc, tw, List.head?_nil, lcpO]; split <;> simp
  | cons r rs =>
    have hr := hb r rfl
    have hrn : r.key ≠ [] := fun e => by rw [e, klt_nil] at hr; cases hr
    simp only [tc, tw, List.head?_cons, lcpO, hrn, if_false]
    by_cases hk : k = []
    · subst hk
      have hq0 : q = none := by
        cases q with
        | none => rfl
        | some p => have := hq p rfl; rw [klt_nil] at this; cases this
      subst hq0
      simp [lcpO, nil_lcp]; omega
    · simp only [hk, if_false]
      have h1 := lcp_le_left k r.key
      have h2 := lcp_le_right k r.key
      rw [lcp_comm r.key k]
      cases q with
      | none => simp only [lcpO]; omega
      | some p =>
        have hm := lcp_min (hq p rfl) hr
        simp only [lcpO]
        have h3 := lcp_le_right p.key k
        have h4 := lcp_le_right p.key r.key
        omega

theorem tc_key (q : Option Pr) (k : Key) (v u : Int) (b : List Pr) : tc q (⟨k, v⟩ :: b) = tc q (⟨k, u⟩ :: b) := by
  cases b with
  | nil => rfl
  | cons r rs => simp [tc, tw, lcpO]

theorem has_split {ps : List Pr} {k : Key} (h : has ps k = true) : ∃ v, ps = ps.take (rank ps k) ++ ⟨k, v⟩ :: ps.drop (rank ps k + 1) ∧ ps[rank ps k]? = some ⟨k, v⟩ := by
  simp only [has] at h
  split at h
  · rename_i p hp
    have hk : p.key = k := by simpa using h
    obtain ⟨hlt, he⟩ := List.getElem?_eq_some_iff.1 hp
    refine ⟨p.val, ?_, by rw [hp]; subst hk; rfl⟩
    have := List.take_append_drop (rank ps k) ps
    rw [List.drop_eq_getElem_cons hlt, he] at this
    subst hk
    exact this.symm
  · cases h

theorem take_rank_lt (ps : List Pr) (k : Key) : ∀ p ∈ ps.take (rank ps k), klt p.key k = true := by
  intro p hp
  obtain ⟨i, hi, he⟩ := List.getElem_of_mem hp
  have hi' : i < rank ps k := by simp at hi; omega
  obtain ⟨q, hq, hk⟩ := rank_lt hi'
  have : ps[i]? = some p := by
    have hl : i < ps.length := by simp at hi; omega
    rw [List.getElem?_eq_getElem hl]; rw [List.getElem_take] at he; rw [he]
  rw [this] at hq; cases hq; exact hk

theorem lastO_take (ps : List Pr) (k : Key) : lastO none (ps.take (rank ps k)) = before ps k := by
  have hr := rank_le ps k
  simp only [lastO, before, List.getLast?_eq_getElem?, List.length_take, Nat.min_eq_left hr]
  by_cases h : rank ps k = 0
  · simp [h]
  · rw [if_neg h, List.getElem?_take_of_lt (by omega)]
    have : rank ps k - 1 < ps.length := by omega
    rw [List.getElem?_eq_getElem this]

theorem lastO_mem {q : Option Pr} {ps : List Pr} {p : Pr} (h : lastO q ps = some p) : q = some p ∨ p ∈ ps := by
  simp only [lastO] at h
  split at h
  · rename_i r hr; cases h; exact .inr (List.mem_of_getLast? hr)
  · exact .inl h

theorem tcells_put_new {ps : List Pr} (hs : Sorted ps) {k : Key} {v : Int} (h : has ps k = false) : tcells (put ps k v) = tcells ps + alone ps k := by
  rw [put_of_not h]
  conv => rhs; rw [← List.take_append_drop (rank ps k) ps]
  unfold tcells
  rw [tc_append, tc_append]
  have hd : (ps.drop (rank ps k)).head? = behind ps k := by simp [behind, h]
  rw [lastO_take, tc_insert]
  · simp only [List.take_append_drop, alone, hd]; omega
  · intro p hp
    rw [← lastO_take] at hp
    rcases lastO_mem hp with hp | hp
    · cases hp
    · exact take_rank_lt ps k p hp
  · intro p hp
    rw [hd] at hp
    simp only [behind, h, Bool.false_eq_true, if_false] at hp
    have h1 := rank_at hp
    cases h2 : klt k p.key with
    | true => rfl
    | false =>
      have := klt_tri h1 h2
      have hh : has ps k = true := by unfold has; rw [hp]; simp [this]
      rw [h] at hh; cases hh

theorem tcells_put_old {ps : List Pr} {k : Key} {v : Int} (h : has ps k = true) : tcells (put ps k v) = tcells ps := by
  obtain ⟨u, he, hg⟩ := has_split h
  rw [put_of_has h]
  have hlt : rank ps k < ps.length := (List.getElem?_eq_some_iff.1 hg).1
  have e2 : ps.set (rank ps k) ⟨k, v⟩ = ps.take (rank ps k) ++ ⟨k, v⟩ :: ps.drop (rank ps k + 1) := List.set_eq_take_append_cons_drop .. |>.trans (by simp [hlt])
  rw [e2]
  conv => rhs; rw [he]
  unfold tcells
  rw [tc_append, tc_append, tc_key _ _ v u]

theorem tcells_del {ps : List Pr} (hs : Sorted ps) {k : Key} (h : has ps k = true) : tcells ps = tcells (del ps k) + alone ps k := by
  obtain ⟨u, he, hg⟩ := has_split h
  rw [del_of_has h]
  conv => lhs; rw [he]
  unfold tcells
  rw [tc_append, tc_append]
  have hd : (ps.drop (rank ps k + 1)).head? = behind ps k := by simp [behind, h]
  rw [lastO_take, tc_insert]
  · simp only [alone, hd]; omega
  · intro p hp
    rw [← lastO_take] at hp
    rcases lastO_mem hp with hp | hp
    · cases hp
    · exact take_rank_lt ps k p hp
  · intro p hp
    rw [hd] at hp
    simp only [behind, h, if_true] at hp
    have hlt := (List.getElem?_eq_some_iff.1 hg)
    have hl2 := (List.getElem?_eq_some_iff.1 hp)
    have := List.pairwise_iff_getElem.1 hs (rank ps k) (rank ps k + 1) hlt.1 hl2.1 (by omega)
    rw [hlt.2, hl2.2] at this
    exact this

theorem tw_le (q : Option Pr) (k : Key) : tw q k ≤ k.length + 1 := by unfold tw; split <;> omega
theorem tc_le (q : Option Pr) (ps : List Pr) (m : Nat) (h : ∀ p ∈ ps, p.key.length ≤ m) : tc q ps ≤ ps.length * (m + 1) := by
  induction ps generalizing q with
  | nil => simp [tc]
  | cons p ps ih =>
    have h1 := ih (some p) (fun r hr => h r (List.mem_cons_of_mem _ hr))
    have h2 := tw_le q p.key
    have h3 := h p (List.mem_cons_self ..)
    simp only [tc, List.length_cons, Nat.succ_mul]; omega

theorem lcp_drop_yes {a b : Key} {i : Nat} (ha : i < a.length) (hb : i < b.length) (h : a[i] = b[i]) : lcp (a.drop i) (b.drop i) = lcp (a.drop (i + 1)) (b.drop (i + 1)) + 1 := by
  rw [List.drop_eq_getElem_cons ha, List.drop_eq_getElem_cons hb, lcp, if_pos h]
theorem lcp_drop_no {a b : Key} {i : Nat} (ha : i < a.length) (hb : i < b.length) (h : a[i] ≠ b[i]) : lcp (a.drop i) (b.drop i) = 0 := by
  rw [List.drop_eq_getElem_cons ha, List.drop_eq_getElem_cons hb, lcp, if_neg h]
theorem lcp_drop_end {a b : Key} {i : Nat} (h : a.length ≤ i ∨ b.length ≤ i) : lcp (a.drop i) (b.drop i) = 0 := by
  rcases h with h | h
  · rw [List.drop_eq_nil_of_le h, nil_lcp]
  · rw [List.drop_eq_nil_of_le h, lcp_nil]
/-- does a key begin with another one? -/
def begins (k p : Key) : Bool := decide (p.length ≤ k.length) && (k.take p.length == p)
theorem begins_iff (k p : Key) : begins k p = true ↔ p <+: k := by
  simp only [begins, Bool.and_eq_true, decide_eq_true_eq, beq_iff_eq]
  constructor
  · rintro ⟨_, h⟩; rw [← h]; exact List.take_prefix _ _
  · rintro ⟨t, rfl⟩; simp

theorem u8_yes {x y : UInt8} (h : ((x.toNat : Int) == (y.toNat : Int)) = true) : x = y := by
  have : x.toNat = y.toNat := by have := beq_iff_eq.1 h; omega
  exact UInt8.toNat_inj.1 this
theorem u8_no {x y : UInt8} (h : ((x.toNat : Int) == (y.toNat : Int)) = false) : x ≠ y := by
  rintro rfl; simp at h

end Go.Proofs.Ytbnipbhkdodfpaa
