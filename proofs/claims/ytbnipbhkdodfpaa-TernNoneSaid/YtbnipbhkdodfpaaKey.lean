/- Plain facts on keys (lists of bytes), their order, and maps as lists of pairs in order. No program in sight. -/
import GoSem.Op.String
namespace Go.Proofs.Ytbnipbhkdodfpaa

abbrev Key := List UInt8

/-- a key stands ahead of another one -/
def klt : Key → Key → Bool
  | _, [] => false
  | [], _ :: _ => true
  | a :: x, b :: y => a < b || (a == b && klt x y)

theorem klt_bytesLess (a b : Key) : Op.bytesLess a b = klt a b := by
  induction a generalizing b with
  | nil => cases b <;> simp [Op.bytesLess, klt]
  | cons x xs ih => cases b with
    | nil => simp [Op.bytesLess, klt]
    | cons y ys => simp [Op.bytesLess, klt, ih]

theorem klt_nil (a : Key) : klt a [] = false := by cases a <;> rfl
theorem nil_klt (a : Key) : klt [] a = !a.isEmpty := by cases a <;> rfl

theorem klt_irrefl (a : Key) : klt a a = false := by
  induction a with
  | nil => rfl
  | cons x xs ih => simp [klt, ih]

theorem klt_trans {a b c : Key} (h : klt a b = true) (k : klt b c = true) : klt a c = true := by
  induction a generalizing b c with
  | nil =>
    cases c with
    | nil => simp [klt_nil] at k
    | cons => rfl
  | cons x xs ih =>
    cases b with
    | nil => simp [klt] at h
    | cons y ys =>
      cases c with
      | nil => simp [klt] at k
      | cons z zs =>
        simp only [klt, Bool.or_eq_true, decide_eq_true_eq, Bool.and_eq_true, beq_iff_eq] at h k ⊢
        rcases h with h | ⟨rfl, h⟩
        · rcases k with k | ⟨rfl, k⟩
          · exact .inl (UInt8.lt_trans h k)
          · exact .inl h
        · rcases k with k | ⟨rfl, k⟩
          · exact .inl k
          · exact .inr ⟨rfl, ih h k⟩

theorem klt_tri {a b : Key} (h : klt a b = false) (k : klt b a = false) : a = b := by
  induction a generalizing b with
  | nil => cases b with
    | nil => rfl
    | cons => simp [klt] at h
  | cons x xs ih => cases b with
    | nil => simp [klt] at k
    | cons y ys =>
      simp only [klt, Bool.or_eq_false_iff, decide_eq_false_iff_not, Bool.and_eq_false_iff, beq_eq_false_iff_ne] at h k
      have hxy : x = y := UInt8.le_antisymm (UInt8.not_lt.1 k.1) (UInt8.not_lt.1 h.1)
      subst hxy
      rw [ih (h.2.resolve_left (by simp)) (k.2.resolve_left (by simp))]

theorem klt_asymm {a b : Key} (h : klt a b = true) : klt b a = false := by
  cases hb : klt b a with
  | false => rfl
  | true => have := klt_trans h hb; rw [klt_irrefl] at this; cases this

theorem klt_ne {a b : Key} (h : klt a b = true) : a ≠ b := by
  rintro rfl; rw [klt_irrefl] at h; cases h

/-- a pair -/
structure Pr where
  key : Key
  val : Int
  deriving DecidableEq, Inhabited

/-- pairs whose keys rise -/
def Sorted (ps : List Pr) : Prop := ps.Pairwise fun p q => klt p.key q.key = true

/-- each key stands behind the one before it -/
def rises : List Pr → Bool
  | p :: q :: ps => klt p.key q.key && rises (q :: ps)
  | _ => true

theorem rises_sorted (ps : List Pr) : rises ps = true ↔ Sorted ps := by
  induction ps with
  | nil => simp [rises, Sorted]
  | cons p ps ih =>
    cases ps with
    | nil => simp [rises, Sorted]
    | cons q qs =>
      simp only [rises, Bool.and_eq_true, ih]
      constructor
      · rintro ⟨h, hs⟩
        refine List.Pairwise.cons ?_ hs
        intro r hr
        rcases List.mem_cons.1 hr with rfl | hr
        · exact h
        · exact klt_trans h (List.rel_of_pairwise_cons hs hr)
      · intro h
        exact ⟨List.rel_of_pairwise_cons h (List.mem_cons_self ..), h.tail⟩

/-- how many keys stand ahead of one -/
def rank : List Pr → Key → Nat
  | [], _ => 0
  | p :: ps, k => if klt p.key k then rank ps k + 1 else 0

/-- is a key there? -/
def has (ps : List Pr) (k : Key) : Bool := match ps[rank ps k]? with
  | some p => p.key == k
  | none => false

def put : List Pr → Key → Int → List Pr
  | [], k, v => [⟨k, v⟩]
  | p :: ps, k, v => if klt p.key k then p :: put ps k v else if p.key = k then ⟨k, v⟩ :: ps else ⟨k, v⟩ :: p :: ps

def del : List Pr → Key → List Pr
  | [], _ => []
  | p :: ps, k => if klt p.key k then p :: del ps k else if p.key = k then ps else p :: ps

/-- what a key has: 0 if it is not there -/
def get (ps : List Pr) (k : Key) : Int := match ps[rank ps k]? with
  | some p => if p.key = k then p.val else 0
  | none => 0

theorem rank_le (ps : List Pr) (k : Key) : rank ps k ≤ ps.length := by
  induction ps with
  | nil => simp [rank]
  | cons p ps ih => simp only [rank]; split <;> simp <;> omega

theorem rank_lt {ps : List Pr} {k : Key} {i : Nat} (h : i < rank ps k) : ∃ p, ps[i]? = some p ∧ klt p.key k = true := by
  induction ps generalizing i with
  | nil => simp [rank] at h
  | cons p ps ih =>
    simp only [rank] at h
    split at h
    · rename_i hp
      cases i with
      | zero => exact ⟨p, rfl, hp⟩
      | succ i => exact ih (by omega)
    · omega

theorem rank_at {ps : List Pr} {k : Key} {p : Pr} (h : ps[rank ps k]? = some p) : klt p.key k = false := by
  induction ps with
  | nil => simp at h
  | cons q ps ih =>
    simp only [rank] at h
    split at h
    · exact ih (by simpa using h)
    · rename_i hq
      simp at h; subst h; simpa using hq

/-- from the rank on no key stands ahead -/
theorem rank_ge {ps : List Pr} (hs : Sorted ps) {k : Key} {i : Nat} {p : Pr} (h : rank ps k ≤ i) (hp : ps[i]? = some p) : klt p.key k = false := by
  induction ps generalizing i with
  | nil => simp at hp
  | cons q ps ih =>
    simp only [rank] at h
    split at h
    · cases i with
      | zero => omega
      | succ i => exact ih (i := i) hs.tail (by omega) (by simpa using hp)
    · rename_i hq
      cases i with
      | zero => simp at hp; subst hp; simpa using hq
      | succ i =>
        have hm : p ∈ ps := List.mem_of_getElem? (by simpa using hp)
        have hqp := List.rel_of_pairwise_cons hs hm
        cases hpk : klt p.key k with
        | false => rfl
        | true => exact absurd (klt_trans hqp hpk) hq

theorem rank_split {ps : List Pr} (hs : Sorted ps) {k : Key} {i : Nat} {p : Pr} (hp : ps[i]? = some p) : klt p.key k = true ↔ i < rank ps k := by
  constructor
  · intro h
    rcases Nat.lt_or_ge i (rank ps k) with h1 | h1
    · exact h1
    · rw [rank_ge hs h1 hp] at h; cases h
  · intro h
    obtain ⟨q, hq, hk⟩ := rank_lt h
    rw [hp] at hq; cases hq; exact hk
theorem has_at {ps : List Pr} {k : Key} {p : Pr} (hp : ps[rank ps k]? = some p) : has ps k = (p.key == k) := by simp [has, hp]
theorem has_end {ps : List Pr} {k : Key} (h : ps.length ≤ rank ps k) : has ps k = false := by simp [has, List.getElem?_eq_none h]

theorem get_of_not {ps : List Pr} {k : Key} (h : has ps k = false) : get ps k = 0 := by
  unfold get
  cases hp : ps[rank ps k]? with
  | none => rfl
  | some p => rw [has_at hp] at h; simp at h; simp [h]

theorem has_iff_mem {ps : List Pr} (hs : Sorted ps) (k : Key) : has ps k = true ↔ ∃ p ∈ ps, p.key = k := by
  constructor
  · intro h
    simp only [has] at h
    split at h
    · rename_i p hp
      exact ⟨p, List.mem_of_getElem? hp, by simpa using h⟩
    · cases h
  · rintro ⟨p, hp, rfl⟩
    obtain ⟨i, hi, hpi⟩ := List.getElem_of_mem hp
    have hpi' : ps[i]? = some p := by rw [List.getElem?_eq_getElem hi, hpi]
    have h1 : rank ps p.key ≤ i := by
      rcases Nat.lt_or_ge i (rank ps p.key) with h | h
      · obtain ⟨q, hq, hk⟩ := rank_lt h
        rw [hpi'] at hq; cases hq; rw [klt_irrefl] at hk; cases hk
      · exact h
    have h2 : i ≤ rank ps p.key := by
      rcases Nat.lt_or_ge (rank ps p.key) i with h | h
      · have hlt : rank ps p.key < ps.length := by omega
        have e := List.getElem?_eq_getElem hlt
        have hn := rank_at e
        have := List.pairwise_iff_getElem.1 hs (rank ps p.key) i hlt hi h
        rw [hpi] at this
        rw [hn] at this; cases this
      · exact h
    have h3 : rank ps p.key = i := by omega
    simp only [has, h3, hpi']
    simp

theorem put_of_has {ps : List Pr} {k : Key} {v : Int} (h : has ps k = true) : put ps k v = ps.set (rank ps k) ⟨k, v⟩ := by
  induction ps with
  | nil => simp [has] at h
  | cons p ps ih =>
    simp only [put, rank]
    by_cases hp : klt p.key k = true
    · simp only [hp, if_true]
      simp only [has, rank, hp, if_true, List.getElem?_cons_succ] at h
      simp [ih h]
    · simp only [hp]
      simp only [has, rank, hp, Bool.false_eq_true, if_false, List.getElem?_cons_zero, beq_iff_eq] at h
      simp [h]

theorem put_of_not {ps : List Pr} {k : Key} {v : Int} (h : has ps k = false) : put ps k v = ps.take (rank ps k) ++ ⟨k, v⟩ :: ps.drop (rank ps k) := by
  induction ps with
  | nil => simp [put]
  | cons p ps ih =>
    simp only [put, rank]
    by_cases hp : klt p.key k = true
    · simp only [hp, if_true]
      simp only [has, rank, hp, if_true, List.getElem?_cons_succ] at h
      simp [ih h]
    · simp only [hp]
      simp only [has, rank, hp, Bool.false_eq_true, if_false, List.getElem?_cons_zero, beq_eq_false_iff_ne] at h
      simp [h]

theorem del_of_has {ps : List Pr} {k : Key} (h : has ps k = true) : del ps k = ps.take (rank ps k) ++ ps.drop (rank ps k + 1) := by
  induction ps with
  | nil => simp [has] at h
  | cons p ps ih =>
    simp only [del, rank]
    by_cases hp : klt p.key k = true
    · simp only [hp, if_true]
      simp only [has, rank, hp, if_true, List.getElem?_cons_succ] at h
      simp [ih h]
    · simp only [hp]
      simp only [has, rank, hp, Bool.false_eq_true, if_false, List.getElem?_cons_zero, beq_iff_eq] at h
      simp [h]

theorem del_of_not {ps : List Pr} {k : Key} (h : has ps k = false) : del ps k = ps := by
  induction ps with
  | nil => simp [del]
  | cons p ps ih =>
    simp only [del]
    by_cases hp : klt p.key k = true
    · simp only [hp, if_true]
      simp only [has, rank, hp, if_true, List.getElem?_cons_succ] at h
      simp [ih h]
    · simp only [hp]
      simp only [has, rank, hp, Bool.false_eq_true, if_false, List.getElem?_cons_zero, beq_eq_false_iff_ne] at h
      simp [h]

theorem mem_put {ps : List Pr} {k : Key} {v : Int} {q : Pr} (h : q ∈ put ps k v) : q = ⟨k, v⟩ ∨ q ∈ ps := by
  induction ps with
  | nil => simp [put] at h; exact .inl h
  | cons p ps ih =>
    simp only [put] at h
    split at h
    · rcases List.mem_cons.1 h with rfl | h
      · exact .inr (List.mem_cons_self ..)
      · rcases ih h with h | h
        · exact .inl h
        · exact .inr (List.mem_cons_of_mem _ h)
    · split at h
      · rcases List.mem_cons.1 h with rfl | h
        · exact .inl rfl
        · exact .inr (List.mem_cons_of_mem _ h)
      · rcases List.mem_cons.1 h with rfl | h
        · exact .inl rfl
        · exact .inr h

theorem mem_del {ps : List Pr} {k : Key} {q : Pr} (h : q ∈ del ps k) : q ∈ ps := by
  induction ps with
  | nil => simp [del] at h
  | cons p ps ih =>
    simp only [del] at h
    split at h
    · rcases List.mem_cons.1 h with rfl | h
      · exact List.mem_cons_self ..
      · exact List.mem_cons_of_mem _ (ih h)
    · split at h
      · exact List.mem_cons_of_mem _ h
      · exact h

theorem sorted_put {ps : List Pr} (hs : Sorted ps) (k : Key) (v : Int) : Sorted (put ps k v) := by
  induction ps with
  | nil => simp [put, Sorted]
  | cons p ps ih =>
    simp only [put]
    split
    · rename_i hp
      refine List.Pairwise.cons ?_ (ih hs.tail)
      intro q hq
      rcases mem_put hq with rfl | hq
      · exact hp
      · exact List.rel_of_pairwise_cons hs hq
    · rename_i hp
      split
      · rename_i he
        refine List.Pairwise.cons ?_ hs.tail
        intro q hq
        have := List.rel_of_pairwise_cons hs hq
        rw [he] at this; exact this
      · rename_i he
        have hkp : klt k p.key = true := by
          cases h : klt k p.key with
          | true => rfl
          | false => exact absurd (klt_tri (by simpa using hp) h) he
        refine List.Pairwise.cons ?_ hs
        intro q hq
        rcases List.mem_cons.1 hq with rfl | hq
        · exact hkp
        · exact klt_trans hkp (List.rel_of_pairwise_cons hs hq)

theorem sorted_del {ps : List Pr} (hs : Sorted ps) (k : Key) : Sorted (del ps k) := by
  induction ps with
  | nil => simp [del, Sorted]
  | cons p ps ih =>
    simp only [del]
    split
    · exact List.Pairwise.cons (fun q hq => List.rel_of_pairwise_cons hs (mem_del hq)) (ih hs.tail)
    · split
      · exact hs.tail
      · exact hs

end Go.Proofs.Ytbnipbhkdodfpaa
