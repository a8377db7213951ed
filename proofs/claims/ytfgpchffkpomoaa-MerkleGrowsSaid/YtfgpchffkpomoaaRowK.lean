/- Elements of several cells that are copied, cleared, put into and taken out of a row of one's own: laws of no program. -/
import Derived.Test.YtfgpchffkpomoaaAppO
import Derived.Laws.CopyRow
import Derived.Laws.OwnMore
import Derived.Lib.AppendZerosOnto
import Derived.Lib.Overlaps
namespace Go.Proofs.Ytfgpchffkpomoaa
set_option linter.unusedSimpArgs false
set_option linter.unusedVariables false
open Go.RowKit
section
variable {P : Program}
theorem run_copyK (w : World) (dT sT ty elem : TypeId) (size g o dLen dCap : Nat) (a : Addr) (sLen sCap m : Nat) (cur : Array Value) (t : TypeId) (cs : List Value)
    (hu : P.underlying dT = some (.slice elem)) (hs : (P.info? elem).map (·.size) = some size)
    (hg : w.heap[g]? = some (.cells cur t (0, 0))) (hm : m = Nat.min sLen dLen) (hn : cs.length = m * size)
    (hsrc : ∀ j v, cs[j]? = some v → w.cell? (a.add j) = some v) (hfit : o + cs.length ≤ cur.size) (h1 : ∀ v ∈ cs, v.oneCell' = true) :
    (Builtin.copy_ #[dT, sT] ty #[.slice (some ⟨g, o, none⟩) dLen dCap, .slice (some a) sLen sCap]).run P w =
      .ok (goInt m) (w.setRow g (cur.toList.take o ++ cs ++ cur.toList.drop (o + cs.length)).toArray) := by
  have hl := run_loadCells_list (P := P) w a cs hsrc
  have hst := run_storeCells_at P g o t cs 0 cur w hg (by simpa using hfit) h1
  cases hq : P.info? elem with
  | none => simp [hq] at hs
  | some i =>
    have hi : i.size = size := by simpa [hq] using hs
    rw [hn] at hl
    simp [Builtin.copy_, run_underlying hu, Builtin.lenOf, Builtin.firstCells, sizeOf, typeInfo, hq, hi, ← hm, hl, hst]
theorem run_clearK (w : World) (t e ty : TypeId) (z : Value) (ht : P.underlying t = some (.slice e)) (hv : ∀ w, (zeroValue e).run P w = .ok z w) (g o n c : Nat) (cur : Array Value) (tt : TypeId) (hg : w.heap[g]? = some (.cells cur tt (0, 0)))
    (hn : 0 < n) (zs : List Value) (hz : (Builtin.zeroCells z.cells n).toList = zs) (hfit : o + zs.length ≤ cur.size) (h1 : ∀ v ∈ zs, v.oneCell' = true) :
    (Builtin.clear_ #[t] ty #[.slice (some ⟨g, o, none⟩) n c]).run P w = .ok (.tuple #[]) (w.setRow g (cur.toList.take o ++ zs ++ cur.toList.drop (o + zs.length)).toArray) := by
  have hst := run_storeCells_at P g o tt zs 0 cur w hg (by simpa using hfit) h1
  simp only [Nat.add_zero] at hst
  obtain ⟨m, rfl⟩ : ∃ m, n = m + 1 := ⟨n - 1, by omega⟩
  simp [Builtin.clear_, run_underlying ht, hv, hz, hst]
variable {ops : Array Oper} {rest : List Oper} {o : Oper} {a : Act} {Q : Exit → Act → World → Prop} {w : World}
/-- copy, its run known. -/
theorem wp_copyK {K : Act → World → Prop} (d s : Operand) (t t' : TypeId) (ho : o.op = .call { callee := .builtin .copy, args := #[d, s], argTypes := #[t, t'] }) (v u : Value) (hd : a.eval d = v) (hs : a.eval s = u) {v' : Value} {w' : World}
    (hr : (Builtin.copy_ #[t, t'] o.type #[v, u]).run P w = .ok v' w') (h : K (a.put o.dst v') w') : o.wp P a w K Q := by
  unfold Oper.wp execOp
  simp only [ho, resolve, invoke, builtin, Sem.run_bind, Sem.run_pure, Result.andThen_ok, List.map_toArray, List.map_cons, List.map_nil, hd, hs, hr]
  exact h
theorem wpList_copyK (hgd : o.guard = none) (d s : Operand) (t t' : TypeId) (ho : o.op = .call { callee := .builtin .copy, args := #[d, s], argTypes := #[t, t'] }) (v u : Value) (hd : a.eval d = v) (hs : a.eval s = u) {v' : Value} {w' : World}
    (hr : (Builtin.copy_ #[t, t'] o.type #[v, u]).run P w = .ok v' w') (h : wpList P ops Q rest (a.put o.dst v') w') : wpList P ops Q (o :: rest) a w :=
  wpList_plain hgd fun _ hK => wp_copyK d s t t' ho v u hd hs hr (hK _ _ h)
theorem step_copyK {K : Act → World → Prop} {E : Prop} (hgd : o.guard = none) (d s : Operand) (t t' : TypeId) (ho : o.op = .call { callee := .builtin .copy, args := #[d, s], argTypes := #[t, t'] }) (v u : Value) (hd : a.eval d = v) (hs : a.eval s = u) {v' : Value} {w' : World}
    (hr : (Builtin.copy_ #[t, t'] o.type #[v, u]).run P w = .ok v' w') (h : K (a.put o.dst v') w') : if Region.wanted o (yielded ops a.tmps) = true then Oper.wp P o a w K Q else E := by
  have hw : Region.wanted o (yielded ops a.tmps) = true := by simp [Region.wanted, hgd]
  rw [if_pos hw]
  exact wp_copyK d s t t' ho v u hd hs hr h
/-- append, its run known. -/
theorem wp_appK {K : Act → World → Prop} (d s : Operand) (t t' : TypeId) (ho : o.op = .call { callee := .builtin .append, args := #[d, s], argTypes := #[t, t'] }) (v u : Value) (hd : a.eval d = v) (hs : a.eval s = u) {v' : Value} {w' : World}
    (hr : (Builtin.append_ #[t, t'] o.type #[v, u]).run P w = .ok v' w') (h : K (a.put o.dst v') w') : o.wp P a w K Q := by
  unfold Oper.wp execOp
  simp only [ho, resolve, invoke, builtin, Sem.run_bind, Sem.run_pure, Result.andThen_ok, List.map_toArray, List.map_cons, List.map_nil, hd, hs, hr]
  exact h
theorem wpList_appK (hgd : o.guard = none) (d s : Operand) (t t' : TypeId) (ho : o.op = .call { callee := .builtin .append, args := #[d, s], argTypes := #[t, t'] }) (v u : Value) (hd : a.eval d = v) (hs : a.eval s = u) {v' : Value} {w' : World}
    (hr : (Builtin.append_ #[t, t'] o.type #[v, u]).run P w = .ok v' w') (h : wpList P ops Q rest (a.put o.dst v') w') : wpList P ops Q (o :: rest) a w :=
  wpList_plain hgd fun _ hK => wp_appK d s t t' ho v u hd hs hr (hK _ _ h)
theorem step_appK {K : Act → World → Prop} {E : Prop} (hgd : o.guard = none) (d s : Operand) (t t' : TypeId) (ho : o.op = .call { callee := .builtin .append, args := #[d, s], argTypes := #[t, t'] }) (v u : Value) (hd : a.eval d = v) (hs : a.eval s = u) {v' : Value} {w' : World}
    (hr : (Builtin.append_ #[t, t'] o.type #[v, u]).run P w = .ok v' w') (h : K (a.put o.dst v') w') : if Region.wanted o (yielded ops a.tmps) = true then Oper.wp P o a w K Q else E := by
  have hw : Region.wanted o (yielded ops a.tmps) = true := by simp [Region.wanted, hgd]
  rw [if_pos hw]
  exact wp_appK d s t t' ho v u hd hs hr h
theorem wpList_clearK (hgd : o.guard = none) (d : Operand) (t : TypeId) (ho : o.op = .call { callee := .builtin .clear, args := #[d], argTypes := #[t] }) (v : Value) (hd : a.eval d = v) {v' : Value} {w' : World}
    (hr : (Builtin.clear_ #[t] o.type #[v]).run P w = .ok v' w') (h : wpList P ops Q rest (a.put o.dst v') w') : wpList P ops Q (o :: rest) a w := by
  refine wpList_plain hgd fun K hK => ?_
  unfold Oper.wp execOp
  simp only [ho, resolve, invoke, builtin, Sem.run_bind, Sem.run_pure, Result.andThen_ok, List.map_toArray, List.map_cons, List.map_nil, hd, hr]
  exact hK _ _ h
end
theorem list_shift {α : Type} (a b rest news : List α) (K : Nat) (hK : news.length = K) (hr : K ≤ rest.length) :
    ((((a ++ b ++ rest).take (a.length + K) ++ b ++ (a ++ b ++ rest).drop (a.length + K + b.length)).take a.length) ++ news ++ ((a ++ b ++ rest).take (a.length + K) ++ b ++ (a ++ b ++ rest).drop (a.length + K + b.length)).drop (a.length + news.length)) = (a ++ news ++ b) ++ rest.drop K := by
  have h1 : ((a ++ b ++ rest).take (a.length + K)).length = a.length + K := by simp; omega
  have h2 : ((a ++ b ++ rest).take (a.length + K)).take a.length = a := by
    rw [List.take_take, Nat.min_eq_left (by omega), List.append_assoc, List.take_left']
    rfl
  have h3 : (a ++ b ++ rest).drop (a.length + K + b.length) = rest.drop K := by
    rw [show a.length + K + b.length = (a ++ b).length + K by simp; omega, List.drop_append]
    simp
  rw [h3, hK, List.append_assoc ((a ++ b ++ rest).take (a.length + K)), List.take_append_of_le_length (by omega), h2, List.drop_append_of_le_length (by omega), List.drop_of_length_le (by omega)]
  simp
theorem list_fill {α : Type} (a b Z news : List α) (K : Nat) (hK : news.length = K) (hZ : K + b.length ≤ Z.length) :
    ((((a ++ Z).take a.length ++ news ++ (a ++ Z).drop (a.length + news.length)).take (a.length + K)) ++ b ++ ((a ++ Z).take a.length ++ news ++ (a ++ Z).drop (a.length + news.length)).drop (a.length + K + b.length)) = (a ++ news ++ b) ++ Z.drop (K + b.length) := by
  have h1 : (a ++ Z).take a.length = a := List.take_left' rfl
  have h2 : (a ++ Z).drop (a.length + news.length) = Z.drop K := by rw [hK, List.drop_append]; simp
  have h3 : (a ++ news).length = a.length + K := by simp [hK]
  rw [h1, h2, ← h3, List.take_left' rfl, List.drop_append]
  simp
theorem list_cut {α : Type} (a c b rest zs : List α) (K : Nat) (hc : c.length = K) (hz : zs.length = K) :
    (((a ++ c ++ b ++ rest).take a.length ++ b ++ (a ++ c ++ b ++ rest).drop (a.length + b.length)).take (a.length + b.length) ++ zs ++ ((a ++ c ++ b ++ rest).take a.length ++ b ++ (a ++ c ++ b ++ rest).drop (a.length + b.length)).drop (a.length + b.length + zs.length)) = (a ++ b) ++ (zs ++ rest) := by
  have h1 : (a ++ c ++ b ++ rest).take a.length = a := by rw [List.append_assoc, List.append_assoc, List.take_left' rfl]
  have h2 : (a ++ b).length = a.length + b.length := by simp
  have h3 : ((a ++ c ++ b ++ rest).drop (a.length + b.length)).drop zs.length = rest := by
    rw [List.drop_drop, show a.length + b.length + zs.length = (a ++ c ++ b).length by simp; omega, List.drop_left' rfl]
  rw [h1, ← h2, List.take_left' rfl, ← List.drop_drop, List.drop_left' rfl, h2, h3]
  simp
/-- One element was put into a row of one's own. -/
def InsPost (base size n : Nat) (T : TypeId) (A : Option Addr) (ys : List Value) (w0 : World) (e : Ending) (w' : World) : Prop :=
  ∃ A' c', e = .returned (.slice A' (n + 1) c') ∧ w'.ownsRow base T size (.slice A' (n + 1) c') (n + 1) ys ∧ Ch w0.heap.size (Row A) w0 w' ∧ (∀ k, Row A' k → Row A k ∨ w0.heap.size ≤ k)
/-- One was taken out. -/
def DelPost (base size n : Nat) (T : TypeId) (A : Option Addr) (c : Nat) (ys : List Value) (w0 : World) (e : Ending) (w' : World) : Prop :=
  e = .returned (.slice A n c) ∧ w'.ownsRow base T size (.slice A n c) n ys ∧ Ch w0.heap.size (Row A) w0 w'
end Go.Proofs.Ytfgpchffkpomoaa
