/- copy, clear and their like over rows that a call owns: whatever program. -/
import Derived.Test.YtbnipbhkdodfpaaApp
import Derived.Laws.CopyRow
import Derived.Lib.AppendZerosOnto
import Derived.Lib.Overlaps
import Derived.Deep.RegionLaw
namespace Go.Proofs.Ytbnipbhkdodfpaa
open Go.RowKit

def spl (L : List Value) (o : Nat) (vs : List Value) : List Value := L.take o ++ vs ++ L.drop (o + vs.length)
theorem spl_length {L : List Value} {o : Nat} {vs : List Value} (h : o + vs.length ≤ L.length) : (spl L o vs).length = L.length := by simp [spl]; omega

theorem run_cp {P : Program} {t e ty : TypeId} {z : Value} {size bytes : Nat} (E : ElemT P t e z size bytes) {w : World} {g off dLen dCap b o sLen sCap n : Nat} {cur : Array Value} {e' : TypeId} {news : List Value}
    (hg : w.heap[g]? = some (.cells cur e' (0, 0))) (hn : Nat.min sLen dLen = n) (hl : news.length = n * size) (hc : ∀ j u, news[j]? = some u → w.cell? ⟨b, o + j, none⟩ = some u) (h1 : ∀ u ∈ news, u.oneCell' = true) (hfit : off + news.length ≤ cur.size) :
    (Builtin.copy_ #[t, t] ty #[.slice (some ⟨g, off, none⟩) dLen dCap, .slice (some ⟨b, o, none⟩) sLen sCap]).run P w = .ok (goInt n) (w.setRow g (spl cur.toList off news).toArray) := by
  obtain ⟨i, hi, hz, hsz, hby⟩ := E.info
  have hf := run_firstCells_some (P := P) w size n ⟨b, o, none⟩ sLen sCap news hl (fun j u hu => by rw [addr_add]; exact hc j u hu)
  have hst := run_storeCells_at P g off e' news 0 cur w hg (by simpa using hfit) h1
  simp only [Nat.add_zero] at hst
  simp [Builtin.copy_, run_underlying E.und, sizeOf, typeInfo, hi, hsz, Builtin.lenOf, hn, hf, hst, spl]

theorem run_clr {P : Program} {t e ty : TypeId} {z : Value} {size bytes : Nat} (E : ElemT P t e z size bytes) {w : World} {g off n c : Nat} {cur : Array Value} {e' : TypeId}
    (hg : w.heap[g]? = some (.cells cur e' (0, 0))) (h1 : ∀ u ∈ (Builtin.zeroCells z.cells n).toList, u.oneCell' = true) (hn : 0 < n) (hfit : off + n * size ≤ cur.size) :
    (Builtin.clear_ #[t] ty #[.slice (some ⟨g, off, none⟩) n c]).run P w = .ok (.tuple #[]) (w.setRow g (spl cur.toList off (Builtin.zeroCells z.cells n).toList).toArray) := by
  obtain ⟨i, hi, hz, hsz, hby⟩ := E.info
  obtain ⟨n, rfl⟩ : ∃ m, n = m + 1 := ⟨n - 1, by omega⟩
  have hlen : (Builtin.zeroCells z.cells (n + 1)).toList.length = (n + 1) * size := by rw [Array.length_toList, size_zeroCells, E.zsize]
  have hst := run_storeCells_at P g off e' (Builtin.zeroCells z.cells (n + 1)).toList 0 cur w hg (by rw [hlen]; simpa using hfit) h1
  simp only [Nat.add_zero] at hst
  simp [Builtin.clear_, run_underlying E.und, zeroValue, typeInfo, hi, hz, hst, spl]

theorem run_apx {P : Program} {t e ty : TypeId} {z : Value} {size bytes : Nat} (E : ElemT P t e z size bytes) {w : World} {g off n c b o m mc : Nat} {cur : Array Value} {e' : TypeId} {news : List Value}
    (hg : w.heap[g]? = some (.cells cur e' (0, 0))) (hl : news.length = m * size) (hc : ∀ j u, news[j]? = some u → w.cell? ⟨b, o + j, none⟩ = some u) (h1 : ∀ u ∈ news, u.oneCell' = true) (hroom : n + m ≤ c) (hfit : off + n * size + news.length ≤ cur.size) :
    (Builtin.append_ #[t, t] ty #[.slice (some ⟨g, off, none⟩) n c, .slice (some ⟨b, o, none⟩) m mc]).run P w = .ok (.slice (some ⟨g, off, none⟩) (n + m) c) (w.setRow g (spl cur.toList (off + n * size) news).toArray) := by
  obtain ⟨i, hi, hz, hsz, hby⟩ := E.info
  have hf := run_firstCells_some (P := P) w size m ⟨b, o, none⟩ m mc news hl (fun j u hu => by rw [addr_add]; exact hc j u hu)
  have hst := run_storeCells_at P g (off + n * size) e' news 0 cur w hg (by simpa using hfit) h1
  simp only [Nat.add_zero] at hst
  simp [Builtin.append_, run_underlying E.und, sizeOf, typeInfo, hi, hsz, Builtin.lenOf, hroom, hf, addr_add, hst, spl]

section
variable {P : Program} {ops : Array Oper} {o : Oper} {a : Act} {w : World} {Q : Exit → Act → World → Prop}
theorem wpl_app {rest : List Oper} (hg : o.guard = none) (s x : Operand) (t t' : TypeId) (hop : o.op = .call { callee := .builtin .append, args := #[s, x], argTypes := #[t, t'] })
    (v u : Value) (hs : a.eval s = v) (hx : a.eval x = u) {v' : Value} {w' : World} (hr : ∀ ty, (Builtin.append_ #[t, t'] ty #[v, u]).run P w = .ok v' w') (hK : wpList P ops Q rest (a.put o.dst v') w') : wpList P ops Q (o :: rest) a w :=
  wpList_plain hg fun K hK' => by
    unfold Oper.wp execOp
    simp only [hop, resolve, invoke, builtin, Sem.run_bind, Sem.run_pure, Result.andThen_ok, List.map_toArray, List.map_cons, List.map_nil, hs, hx, hr]
    exact hK' _ _ hK
theorem wpl_cp {rest : List Oper} (hg : o.guard = none) (s x : Operand) (t t' : TypeId) (hop : o.op = .call { callee := .builtin .copy, args := #[s, x], argTypes := #[t, t'] })
    (v u : Value) (hs : a.eval s = v) (hx : a.eval x = u) {v' : Value} {w' : World} (hr : ∀ ty, (Builtin.copy_ #[t, t'] ty #[v, u]).run P w = .ok v' w') (hK : wpList P ops Q rest (a.put o.dst v') w') : wpList P ops Q (o :: rest) a w :=
  wpList_plain hg fun K hK' => by
    unfold Oper.wp execOp
    simp only [hop, resolve, invoke, builtin, Sem.run_bind, Sem.run_pure, Result.andThen_ok, List.map_toArray, List.map_cons, List.map_nil, hs, hx, hr]
    exact hK' _ _ hK
theorem wpl_clr {rest : List Oper} (hg : o.guard = none) (s : Operand) (t : TypeId) (hop : o.op = .call { callee := .builtin .clear, args := #[s], argTypes := #[t] })
    (v : Value) (hs : a.eval s = v) {v' : Value} {w' : World} (hr : ∀ ty, (Builtin.clear_ #[t] ty #[v]).run P w = .ok v' w') (hK : wpList P ops Q rest (a.put o.dst v') w') : wpList P ops Q (o :: rest) a w :=
  wpList_plain hg fun K hK' => by
    unfold Oper.wp execOp
    simp only [hop, resolve, invoke, builtin, Sem.run_bind, Sem.run_pure, Result.andThen_ok, List.map_toArray, List.map_cons, List.map_nil, hs, hr]
    exact hK' _ _ hK
theorem step_cp {K : Act → World → Prop} {E : Prop} (hg : o.guard = none) (s x : Operand) (t t' : TypeId) (hop : o.op = .call { callee := .builtin .copy, args := #[s, x], argTypes := #[t, t'] })
    (v u : Value) (hs : a.eval s = v) (hx : a.eval x = u) {v' : Value} {w' : World} (hr : ∀ ty, (Builtin.copy_ #[t, t'] ty #[v, u]).run P w = .ok v' w') (hK : K (a.put o.dst v') w') :
    if Region.wanted o (yielded ops a.tmps) = true then Oper.wp P o a w K Q else E := by
  have hw : Region.wanted o (yielded ops a.tmps) = true := by simp [Region.wanted, hg]
  rw [if_pos hw]
  unfold Oper.wp
  simp [execOp, hop, resolve, invoke, builtin, hs, hx, hr, Result.andThen]
  exact hK
theorem step_ap {K : Act → World → Prop} {E : Prop} (hg : o.guard = none) (s x : Operand) (t t' : TypeId) (hop : o.op = .call { callee := .builtin .append, args := #[s, x], argTypes := #[t, t'] })
    (v u : Value) (hs : a.eval s = v) (hx : a.eval x = u) {v' : Value} {w' : World} (hr : ∀ ty, (Builtin.append_ #[t, t'] ty #[v, u]).run P w = .ok v' w') (hK : K (a.put o.dst v') w') :
    if Region.wanted o (yielded ops a.tmps) = true then Oper.wp P o a w K Q else E := by
  have hw : Region.wanted o (yielded ops a.tmps) = true := by simp [Region.wanted, hg]
  rw [if_pos hw]
  unfold Oper.wp
  simp [execOp, hop, resolve, invoke, builtin, hs, hx, hr, Result.andThen]
  exact hK
end

theorem spl_mid (a b c d : List Value) (h : c.length = b.length) : spl (a ++ b ++ d) a.length c = a ++ c ++ d := by
  unfold spl
  rw [List.append_assoc a b d, List.take_left, h]
  have : (a ++ (b ++ d)).drop (a.length + b.length) = d := by rw [← List.append_assoc, ← List.length_append]; exact List.drop_left
  rw [this]
/-- two splices that open a row and fill it -/
theorem spl_ins (L cs xs : List Value) (k N : Nat) (hk : k ≤ N) (ht : L.take N = cs) (hL : N + xs.length ≤ L.length) :
    spl (spl L (k + xs.length) (cs.drop k)) k xs = (cs.take k ++ xs ++ cs.drop k) ++ L.drop (N + xs.length) := by
  have hcs : cs.length = N := by rw [← ht, List.length_take]; omega
  have e1 : spl L (k + xs.length) (cs.drop k) = L.take (k + xs.length) ++ cs.drop k ++ L.drop (N + xs.length) := by
    unfold spl; rw [List.length_drop, hcs, show k + xs.length + (N - k) = N + xs.length from by omega]
  have e2 : L.take (k + xs.length) = cs.take k ++ (L.drop k).take xs.length := by
    rw [← ht, List.take_take, Nat.min_eq_left hk, List.take_add]
  have hl : (cs.take k).length = k := by rw [List.length_take]; omega
  have hm : ((L.drop k).take xs.length).length = xs.length := by rw [List.length_take, List.length_drop]; omega
  rw [e1, e2]
  conv => lhs; rw [show k = (cs.take k).length from hl.symm]
  rw [show cs.take (cs.take k).length ++ List.take xs.length (List.drop (cs.take k).length L) ++ cs.drop (cs.take k).length ++ L.drop (N + xs.length) = cs.take k ++ List.take xs.length (List.drop k L) ++ (cs.drop k ++ L.drop (N + xs.length)) from by rw [hl]; simp]
  rw [spl_mid _ _ _ _ hm.symm]
  simp

theorem spl_end (a R D : List Value) (o : Nat) (h : a.length = o) : spl (a ++ R) o D = a ++ D ++ R.drop D.length := by
  unfold spl
  rw [List.take_left' h]
  congr 1
  rw [List.drop_append, h, List.drop_eq_nil_of_le (by omega), List.nil_append]
  congr 1
  omega

theorem setRow_chg {w : World} {g : Nat} (cs : Array Value) : w.grownBy (w.setRow g cs) (some g) :=
  ⟨rfl, rfl, rfl, by simp [World.setRow], fun k _ hk => setRow_other w g k cs fun h => hk (by rw [h])⟩

end Go.Proofs.Ytbnipbhkdodfpaa
