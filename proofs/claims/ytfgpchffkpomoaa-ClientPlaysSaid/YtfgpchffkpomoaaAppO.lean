/- append of a slice that may be nothing: as app_row, for a slice that Sl tells of. -/
import Derived.Test.YtfgpchffkpomoaaPk01
namespace Go.Proofs.Ytfgpchffkpomoaa
set_option linter.unusedSimpArgs false
set_option linter.unusedVariables false
open Go.RowKit
section
variable {P : Program} {w : World}
theorem run_append_none (t ty e : TypeId) (i : TypeInfo) (ht : P.underlying t = some (.slice e)) (hi : P.info? e = some i)
    (A : Option Addr) (n cp c : Nat) (hroom : n ≤ cp) (hA : A = none → cp = 0) :
    (Builtin.append_ #[t, t] ty #[.slice A n cp, .slice none 0 c]).run P w = .ok (.slice A n cp) w := by
  cases A with
  | none =>
    obtain rfl := hA rfl
    obtain rfl : n = 0 := by omega
    simp [Builtin.append_, run_underlying ht, sizeOf, typeInfo, hi, Builtin.lenOf, run_firstCells_none]
  | some a =>
    simp [Builtin.append_, run_underlying ht, sizeOf, typeInfo, hi, Builtin.lenOf, hroom, run_firstCells_none, storeCells]
theorem run_append_rowO (base : Nat) (t ty e : TypeId) (i : TypeInfo) (z : Value) (size bytes : Nat) (ht : P.underlying t = some (.slice e)) (hi : P.info? e = some i) (hz : i.zero = some z)
    (hsize : i.size = size) (hby : i.bytes = bytes) (hzs : z.cells.size = size) (hsz : 0 < size)
    (A : Option Addr) (cp n : Nat) (xs : List Value) (hown : w.ownsRow base e size (.slice A n cp) n xs)
    (A1 : Option Addr) (m c : Nat) (news : List Value) (hl : news.length = m * size) (hnews : ∀ j u, news[j]? = some u → ∃ a, A1 = some a ∧ w.cell? (a.add j) = some u) (h1 : ∀ u ∈ news, u.oneCell' = true)
    (hbytes : (n + m) * bytes ≤ 140737488355328) (h63 : n + m ≤ 140737488355328) (hbase : base ≤ w.heap.size) :
    ∃ A' cp' w', (Builtin.append_ #[t, t] ty #[.slice A n cp, .slice A1 m c]).run P w = .ok (.slice A' (n + m) cp') w' ∧ w'.ownsRow base e size (.slice A' (n + m) cp') (n + m) (xs ++ news) ∧
      Ch w.heap.size (Row A) w w' ∧ (A' = A ∨ A' = some ⟨w.heap.size, 0, none⟩) := by
  cases A1 with
  | some a => exact run_append_row base t ty e i z size bytes ht hi hz hsize hby hzs hsz A cp n xs hown a m c news hl (fun j u hj => by obtain ⟨a', e, h⟩ := hnews j u hj; obtain rfl := Option.some.inj e; exact h) h1 hbytes h63 hbase
  | none =>
    have hn0 : news = [] := by
      cases news with
      | nil => rfl
      | cons x l => obtain ⟨a, ha, _⟩ := hnews 0 x rfl; cases ha
    subst hn0
    obtain rfl : m = 0 := by
      rcases Nat.eq_zero_or_pos m with h | h
      · exact h
      · have := Nat.mul_pos h hsz
        simp at hl
        omega
    refine ⟨A, cp, w, ?_, by simpa using hown, Ch.refl _ _ _, .inl rfl⟩
    rw [Nat.add_zero]
    refine run_append_none t ty e i ht hi A n cp c ?_ ?_
    · rcases hown.2 with ⟨hv, rfl⟩ | ⟨g, cap, cur, hv, _, _, h, _⟩
      · omega
      · obtain ⟨rfl, rfl⟩ : A = some ⟨g, 0, none⟩ ∧ cp = cap := by simpa using hv
        omega
    · rintro rfl
      rcases hown.2 with ⟨hv, rfl⟩ | ⟨g, cap, cur, hv, _⟩
      · simpa using hv
      · simp at hv
variable {ops : Array Oper} {rest : List Oper} {o : Oper} {a : Act} {Q : Exit → Act → World → Prop}
theorem wp_app_rowO {K : Act → World → Prop} (s x : Operand) (t : TypeId) (ho : o.op = .call { callee := .builtin .append, args := #[s, x], argTypes := #[t, t] })
    (base : Nat) (e : TypeId) (z : Value) (size bytes : Nat) (hinfo : (P.info? e).map (fun i => (i.zero, i.size, i.bytes)) = some (some z, size, bytes)) (ht : P.underlying t = some (.slice e)) (hzs : z.cells.size = size) (hsz : 0 < size)
    (A : Option Addr) (cp n : Nat) (xs : List Value) (hs : a.eval s = .slice A n cp) (hown : w.ownsRow base e size (.slice A n cp) n xs)
    (ad : Option Addr) (m c : Nat) (news : List Value) (hx : a.eval x = .slice ad m c) (hl : news.length = m * size) (hnews : ∀ j u, news[j]? = some u → ∃ a, ad = some a ∧ w.cell? (a.add j) = some u) (h1 : ∀ u ∈ news, u.oneCell' = true)
    (hbytes : (n + m) * bytes ≤ 140737488355328) (h63 : n + m ≤ 140737488355328) (hbase : base ≤ w.heap.size)
    (h : ∀ A' cp' w', w'.ownsRow base e size (.slice A' (n + m) cp') (n + m) (xs ++ news) → Ch w.heap.size (Row A) w w' → (A' = A ∨ A' = some ⟨w.heap.size, 0, none⟩) → K (a.put o.dst (.slice A' (n + m) cp')) w') : o.wp P a w K Q := by
  obtain ⟨i, hi, hz, hsize, hby⟩ := info_parts hinfo
  obtain ⟨A', cp', w', hr, h2, h3, h4⟩ := run_append_rowO (P := P) (w := w) base t o.type e i z size bytes ht hi hz hsize hby hzs hsz A cp n xs hown ad m c news hl hnews h1 hbytes h63 hbase
  unfold Oper.wp execOp
  simp only [ho, resolve, invoke, builtin, Sem.run_bind, Sem.run_pure, Result.andThen_ok, List.map_toArray, List.map_cons, List.map_nil, hs, hx, hr]
  exact h A' cp' w' h2 h3 h4
/-- THE OPERATION, for the walk. -/
theorem app_rowO (hgd : o.guard = none) (s x : Operand) (t : TypeId) (ho : o.op = .call { callee := .builtin .append, args := #[s, x], argTypes := #[t, t] })
    (base : Nat) (e : TypeId) (z : Value) (size bytes : Nat) (hinfo : (P.info? e).map (fun i => (i.zero, i.size, i.bytes)) = some (some z, size, bytes)) (ht : P.underlying t = some (.slice e)) (hzs : z.cells.size = size) (hsz : 0 < size)
    (A : Option Addr) (cp n : Nat) (xs : List Value) (hs : a.eval s = .slice A n cp) (hown : w.ownsRow base e size (.slice A n cp) n xs)
    (ad : Option Addr) (m c : Nat) (news : List Value) (hx : a.eval x = .slice ad m c) (hl : news.length = m * size) (hnews : ∀ j u, news[j]? = some u → ∃ a, ad = some a ∧ w.cell? (a.add j) = some u) (h1 : ∀ u ∈ news, u.oneCell' = true)
    (hbytes : (n + m) * bytes ≤ 140737488355328) (h63 : n + m ≤ 140737488355328) (hbase : base ≤ w.heap.size)
    (h : ∀ A' cp' w', w'.ownsRow base e size (.slice A' (n + m) cp') (n + m) (xs ++ news) → Ch w.heap.size (Row A) w w' → (A' = A ∨ A' = some ⟨w.heap.size, 0, none⟩) → wpList P ops Q rest (a.put o.dst (.slice A' (n + m) cp')) w') : wpList P ops Q (o :: rest) a w :=
  wpList_plain hgd fun _ hK => wp_app_rowO s x t ho base e z size bytes hinfo ht hzs hsz A cp n xs hs hown ad m c news hx hl hnews h1 hbytes h63 hbase fun A' cp' w' h2 h3 h4 => hK _ _ (h A' cp' w' h2 h3 h4)
theorem step_app_rowO {K : Act → World → Prop} {E : Prop} (hgd : o.guard = none) (s x : Operand) (t : TypeId) (ho : o.op = .call { callee := .builtin .append, args := #[s, x], argTypes := #[t, t] })
    (base : Nat) (e : TypeId) (z : Value) (size bytes : Nat) (hinfo : (P.info? e).map (fun i => (i.zero, i.size, i.bytes)) = some (some z, size, bytes)) (ht : P.underlying t = some (.slice e)) (hzs : z.cells.size = size) (hsz : 0 < size)
    (A : Option Addr) (cp n : Nat) (xs : List Value) (hs : a.eval s = .slice A n cp) (hown : w.ownsRow base e size (.slice A n cp) n xs)
    (ad : Option Addr) (m c : Nat) (news : List Value) (hx : a.eval x = .slice ad m c) (hl : news.length = m * size) (hnews : ∀ j u, news[j]? = some u → ∃ a, ad = some a ∧ w.cell? (a.add j) = some u) (h1 : ∀ u ∈ news, u.oneCell' = true)
    (hbytes : (n + m) * bytes ≤ 140737488355328) (h63 : n + m ≤ 140737488355328) (hbase : base ≤ w.heap.size)
    (h : ∀ A' cp' w', w'.ownsRow base e size (.slice A' (n + m) cp') (n + m) (xs ++ news) → Ch w.heap.size (Row A) w w' → (A' = A ∨ A' = some ⟨w.heap.size, 0, none⟩) → K (a.put o.dst (.slice A' (n + m) cp')) w') :
    if Region.wanted o (yielded ops a.tmps) = true then Oper.wp P o a w K Q else E := by
  have hw : Region.wanted o (yielded ops a.tmps) = true := by simp [Region.wanted, hgd]
  rw [if_pos hw]
  exact wp_app_rowO s x t ho base e z size bytes hinfo ht hzs hsz A cp n xs hs hown ad m c news hx hl hnews h1 hbytes h63 hbase h
end
end Go.Proofs.Ytfgpchffkpomoaa
