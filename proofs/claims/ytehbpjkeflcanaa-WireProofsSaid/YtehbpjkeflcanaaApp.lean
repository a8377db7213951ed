/- append on a slice of the call's own: what is held, which blocks may change, and where the slice lies then. -/
import Derived.Test.YtehbpjkeflcanaaLib
import Derived.Laws.AppendOwn
import Derived.OwnWalk
import Derived.Lib.AppendStr
import Derived.Lib.ConvBytes
namespace Go.Proofs.Ytehbpjkeflcanaa
set_option linter.unusedSimpArgs false
set_option linter.unusedVariables false
open Go.RowKit

/-- The block in which a slice lies. -/
def Row (A : Option Addr) (k : Nat) : Prop := A.map Addr.block = some k

theorem own_shape {w : World} {base n : Nat} {e : TypeId} {size : Nat} {v : Value} {xs : List Value} (h : w.ownsRow base e size v n xs) : ∃ A c, v = .slice A n c := by
  rcases h.2 with ⟨rfl, rfl⟩ | ⟨g, cap, cur, rfl, _⟩
  · exact ⟨none, 0, rfl⟩
  · exact ⟨_, cap, rfl⟩
theorem ownBlock_slice (A : Option Addr) (n c : Nat) : Value.ownBlock (.slice A n c) = A.map Addr.block := by cases A <;> rfl
theorem own_row {w : World} {base n : Nat} {e : TypeId} {size : Nat} {A : Option Addr} {c : Nat} {xs : List Value} (h : w.ownsRow base e size (.slice A n c) n xs) {k : Nat} (hk : Row A k) : base ≤ k ∧ k < w.heap.size :=
  h.lt k (by rw [ownBlock_slice]; exact hk)
theorem grown_ch {w w' : World} {A : Option Addr} {n c : Nat} (hg : w.grownBy w' (Value.ownBlock (.slice A n c))) : Ch w.heap.size (Row A) w w' := by
  rw [ownBlock_slice] at hg
  exact ⟨hg.os, hg.tape, hg.output, hg.size, fun k hk hs => hg.block k hk (fun e => hs e.symm)⟩
/-- What is owned stays while another block changes. -/
theorem own_ch {w w' : World} {base n B : Nat} {S : Nat → Prop} {e : TypeId} {size : Nat} {A : Option Addr} {c : Nat} {xs : List Value} (h : w.ownsRow base e size (.slice A n c) n xs) (hc : Ch B S w w') (hB : ∀ k, Row A k → k < B ∧ ¬ S k) :
    w'.ownsRow base e size (.slice A n c) n xs := by
  refine ⟨h.1, ?_⟩
  rcases h.2 with hn | ⟨g, cap, cur, hv, hb, hg, rest⟩
  · exact .inl hn
  · obtain ⟨rfl, rfl⟩ : A = some ⟨g, 0, none⟩ ∧ c = cap := by simpa using hv
    have := hB g rfl
    exact .inr ⟨g, c, cur, rfl, hb, by rw [hc.block g this.1 this.2]; exact hg, rest⟩

theorem own_base {w : World} {base base' n : Nat} {e : TypeId} {size : Nat} {v : Value} {xs : List Value} (h : w.ownsRow base e size v n xs) (hb : base' ≤ base) : w.ownsRow base' e size v n xs := by
  refine ⟨h.1, ?_⟩
  rcases h.2 with hn | ⟨g, cap, cur, hv, hg, rest⟩
  · exact .inl hn
  · exact .inr ⟨g, cap, cur, hv, by omega, rest⟩
theorem below_app {B : Nat} {A : Option Addr} {w wr w1 : World} {o : Obj} (HB : Below B w wr) (hB : B ≤ wr.heap.size) (hb : Ch (wr.alloc o).heap.size (Row A) (wr.alloc o) w1) (hR : ∀ k, Row A k → B ≤ k) : Below B w w1 := by
  refine (HB.alloc hB o).trans ((hb.mono (B' := B) (S' := fun _ => False) (by simp; omega) ?_).below (fun _ _ h => h))
  intro k hk hr
  have := hR k hr
  omega
theorem below_app0 {B : Nat} {A : Option Addr} {w wr w1 : World} (HB : Below B w wr) (hB : B ≤ wr.heap.size) (hb : Ch wr.heap.size (Row A) wr w1) (hR : ∀ k, Row A k → B ≤ k) : Below B w w1 := by
  refine HB.trans ((hb.mono (B' := B) (S' := fun _ => False) hB ?_).below (fun _ _ h => h))
  intro k hk hr
  have := hR k hr
  omega
section
variable {P : Program} {w : World}
/-- append of cells: as the kit's law for an owned slice; and the new slice lies where the old one did, or in a new block. -/
theorem run_append_row (base : Nat) (t ty e : TypeId) (i : TypeInfo) (z : Value) (size bytes : Nat) (ht : P.underlying t = some (.slice e)) (hi : P.info? e = some i) (hz : i.zero = some z)
    (hsize : i.size = size) (hby : i.bytes = bytes) (hzs : z.cells.size = size) (hsz : 0 < size)
    (A : Option Addr) (cp n : Nat) (xs : List Value) (hown : w.ownsRow base e size (.slice A n cp) n xs)
    (a : Addr) (m c : Nat) (news : List Value) (hl : news.length = m * size) (hnews : ∀ j u, news[j]? = some u → w.cell? (a.add j) = some u) (h1 : ∀ u ∈ news, u.oneCell' = true)
    (hbytes : (n + m) * bytes ≤ 140737488355328) (h63 : n + m ≤ 140737488355328) (hbase : base ≤ w.heap.size) :
    ∃ A' cp' w', (Builtin.append_ #[t, t] ty #[.slice A n cp, .slice (some a) m c]).run P w = .ok (.slice A' (n + m) cp') w' ∧ w'.ownsRow base e size (.slice A' (n + m) cp') (n + m) (xs ++ news) ∧
      Ch w.heap.size (Row A) w w' ∧ (A' = A ∨ A' = some ⟨w.heap.size, 0, none⟩) := by
  obtain ⟨v', w', hr, ho, hg, hn⟩ := run_append_own (P := P) w base t ty e i z size bytes ht hi hz hsize hby hzs hsz _ n xs hown a m c news hl hnews h1 (by simp only [maxLen]; omega) hbytes hbase
  obtain ⟨A', cp', rfl⟩ := own_shape ho
  refine ⟨A', cp', w', hr, ho, grown_ch hg, ?_⟩
  subst hsize
  subst hby
  rcases hown.2 with ⟨hv, rfl⟩ | ⟨g, cap, cur, hv, _, hgg, _, _, hcs, htake⟩
  · obtain ⟨rfl, rfl⟩ : A = none ∧ cp = 0 := by simpa using hv
    rcases Nat.eq_zero_or_pos m with rfl | hm
    · left
      have := (hn.2 ⟨rfl, rfl⟩)
      injection this
    · right
      have := run_append_nil (P := P) w t ty e i z ht hi hz a m c news hl hnews hm (by omega) (by have hb := hbytes; simp only [Nat.zero_add] at hb; omega)
      rw [hr] at this
      injection this with e1 e2
      injection e1
  · obtain ⟨rfl, rfl⟩ : A = some ⟨g, 0, none⟩ ∧ cp = cap := by simpa using hv
    by_cases hroom : n + m ≤ cp
    · left
      have := run_append_room (P := P) w t ty e i ht hi g n cp cur hgg a m c news hl hnews h1 hroom (by rw [hl, hcs, ← Nat.add_mul]; exact Nat.mul_le_mul_right _ hroom)
      rw [hr] at this
      injection this with e1 e2
      injection e1
    · right
      have := run_append_grow (P := P) w t ty e i z ht hi hz ⟨g, 0, none⟩ n cp xs hown.1 (hown.cells (g := g) rfl) a m c news hl hnews (by omega) (by omega) (growslice_fits (by omega) hbytes)
      rw [hr] at this
      injection this with e1 e2
      injection e1
theorem run_append_row_string (base : Nat) (t u ty e : TypeId) (i : TypeInfo) (ht : P.underlying t = some (.slice e)) (hu : P.underlying u = some .string) (hi : P.info? e = some i) (hz : i.zero = some (.int .u8 0))
    (hsize : i.size = 1) (hby : i.bytes = 1)
    (A : Option Addr) (cp n : Nat) (xs : List Value) (hown : w.ownsRow base e 1 (.slice A n cp) n xs) (s : ByteArray)
    (hbytes : n + s.size ≤ 140737488355328) (hbase : base ≤ w.heap.size) :
    ∃ A' cp' w', (Builtin.append_ #[t, u] ty #[.slice A n cp, .string s]).run P w = .ok (.slice A' (n + s.size) cp') w' ∧ w'.ownsRow base e 1 (.slice A' (n + s.size) cp') (n + s.size) (xs ++ Lib.strCells s) ∧
      Ch w.heap.size (Row A) w w' ∧ (A' = A ∨ A' = some ⟨w.heap.size, 0, none⟩) := by
  obtain ⟨v', w', hr, ho, hg, hn⟩ := Lib.run_append_own_string (P := P) w base t u ty e i ht hu hi hz hsize hby _ n xs hown s (by simp only [maxLen]; omega) hbytes hbase
  obtain ⟨A', cp', rfl⟩ := own_shape ho
  refine ⟨A', cp', w', hr, ho, grown_ch hg, ?_⟩
  have hl : xs.length = n := by have := hown.1; omega
  rcases hown.2 with ⟨hv, rfl⟩ | ⟨g, cap, cur, hv, _, hgg, _, _, hcs, htake⟩
  · obtain ⟨rfl, rfl⟩ : A = none ∧ cp = 0 := by simpa using hv
    rcases Nat.eq_zero_or_pos s.size with hm | hm
    · left
      have := (hn.2 ⟨rfl, hm⟩)
      injection this
    · right
      have := run_append_nil_string (P := P) w t u ty e i (.int .u8 0) ht hu hi hz s hm (by omega) (by rw [hby]; omega)
      rw [hr] at this
      injection this with e1 e2
      injection e1
  · obtain ⟨rfl, rfl⟩ : A = some ⟨g, 0, none⟩ ∧ cp = cap := by simpa using hv
    by_cases hroom : n + s.size ≤ cp
    · left
      have := Lib.run_append_room_string (P := P) w t u ty e i ht hu hi hsize g n cp cur hgg s hroom (by omega)
      rw [hr] at this
      injection this with e1 e2
      injection e1
    · right
      have := Lib.run_append_grow_string (P := P) w t u ty e i (.int .u8 0) ht hu hi hz ⟨g, 0, none⟩ n cp xs (by rw [hsize]; simpa using hl) (hown.cells (g := g) rfl) s (by omega) (by omega) (by rw [hby]; exact growslice_fits (by omega) (by omega))
      rw [hr] at this
      injection this with e1 e2
      injection e1

variable {ops : Array Oper} {rest : List Oper} {o : Oper} {a : Act} {Q : Exit → Act → World → Prop}
theorem wp_app_row {K : Act → World → Prop} (s x : Operand) (t : TypeId) (ho : o.op = .call { callee := .builtin .append, args := #[s, x], argTypes := #[t, t] })
    (base : Nat) (e : TypeId) (z : Value) (size bytes : Nat) (hinfo : (P.info? e).map (fun i => (i.zero, i.size, i.bytes)) = some (some z, size, bytes)) (ht : P.underlying t = some (.slice e)) (hzs : z.cells.size = size) (hsz : 0 < size)
    (A : Option Addr) (cp n : Nat) (xs : List Value) (hs : a.eval s = .slice A n cp) (hown : w.ownsRow base e size (.slice A n cp) n xs)
    (ad : Addr) (m c : Nat) (news : List Value) (hx : a.eval x = .slice (some ad) m c) (hl : news.length = m * size) (hnews : ∀ j u, news[j]? = some u → w.cell? (ad.add j) = some u) (h1 : ∀ u ∈ news, u.oneCell' = true)
    (hbytes : (n + m) * bytes ≤ 140737488355328) (h63 : n + m ≤ 140737488355328) (hbase : base ≤ w.heap.size)
    (h : ∀ A' cp' w', w'.ownsRow base e size (.slice A' (n + m) cp') (n + m) (xs ++ news) → Ch w.heap.size (Row A) w w' → (A' = A ∨ A' = some ⟨w.heap.size, 0, none⟩) → K (a.put o.dst (.slice A' (n + m) cp')) w') : o.wp P a w K Q := by
  obtain ⟨i, hi, hz, hsize, hby⟩ := info_parts hinfo
  obtain ⟨A', cp', w', hr, h2, h3, h4⟩ := run_append_row (P := P) (w := w) base t o.type e i z size bytes ht hi hz hsize hby hzs hsz A cp n xs hown ad m c news hl hnews h1 hbytes h63 hbase
  unfold Oper.wp execOp
  simp only [ho, resolve, invoke, builtin, Sem.run_bind, Sem.run_pure, Result.andThen_ok, List.map_toArray, List.map_cons, List.map_nil, hs, hx, hr]
  exact h A' cp' w' h2 h3 h4
/-- THE OPERATION, for the walk. -/
theorem app_row (hgd : o.guard = none) (s x : Operand) (t : TypeId) (ho : o.op = .call { callee := .builtin .append, args := #[s, x], argTypes := #[t, t] })
    (base : Nat) (e : TypeId) (z : Value) (size bytes : Nat) (hinfo : (P.info? e).map (fun i => (i.zero, i.size, i.bytes)) = some (some z, size, bytes)) (ht : P.underlying t = some (.slice e)) (hzs : z.cells.size = size) (hsz : 0 < size)
    (A : Option Addr) (cp n : Nat) (xs : List Value) (hs : a.eval s = .slice A n cp) (hown : w.ownsRow base e size (.slice A n cp) n xs)
    (ad : Addr) (m c : Nat) (news : List Value) (hx : a.eval x = .slice (some ad) m c) (hl : news.length = m * size) (hnews : ∀ j u, news[j]? = some u → w.cell? (ad.add j) = some u) (h1 : ∀ u ∈ news, u.oneCell' = true)
    (hbytes : (n + m) * bytes ≤ 140737488355328) (h63 : n + m ≤ 140737488355328) (hbase : base ≤ w.heap.size)
    (h : ∀ A' cp' w', w'.ownsRow base e size (.slice A' (n + m) cp') (n + m) (xs ++ news) → Ch w.heap.size (Row A) w w' → (A' = A ∨ A' = some ⟨w.heap.size, 0, none⟩) → wpList P ops Q rest (a.put o.dst (.slice A' (n + m) cp')) w') : wpList P ops Q (o :: rest) a w :=
  wpList_plain hgd fun _ hK => wp_app_row s x t ho base e z size bytes hinfo ht hzs hsz A cp n xs hs hown ad m c news hx hl hnews h1 hbytes h63 hbase fun A' cp' w' h2 h3 h4 => hK _ _ (h A' cp' w' h2 h3 h4)
/-- .. in a region that draws its order. -/
theorem step_app_row {K : Act → World → Prop} {E : Prop} (hgd : o.guard = none) (s x : Operand) (t : TypeId) (ho : o.op = .call { callee := .builtin .append, args := #[s, x], argTypes := #[t, t] })
    (base : Nat) (e : TypeId) (z : Value) (size bytes : Nat) (hinfo : (P.info? e).map (fun i => (i.zero, i.size, i.bytes)) = some (some z, size, bytes)) (ht : P.underlying t = some (.slice e)) (hzs : z.cells.size = size) (hsz : 0 < size)
    (A : Option Addr) (cp n : Nat) (xs : List Value) (hs : a.eval s = .slice A n cp) (hown : w.ownsRow base e size (.slice A n cp) n xs)
    (ad : Addr) (m c : Nat) (news : List Value) (hx : a.eval x = .slice (some ad) m c) (hl : news.length = m * size) (hnews : ∀ j u, news[j]? = some u → w.cell? (ad.add j) = some u) (h1 : ∀ u ∈ news, u.oneCell' = true)
    (hbytes : (n + m) * bytes ≤ 140737488355328) (h63 : n + m ≤ 140737488355328) (hbase : base ≤ w.heap.size)
    (h : ∀ A' cp' w', w'.ownsRow base e size (.slice A' (n + m) cp') (n + m) (xs ++ news) → Ch w.heap.size (Row A) w w' → (A' = A ∨ A' = some ⟨w.heap.size, 0, none⟩) → K (a.put o.dst (.slice A' (n + m) cp')) w') :
    if Region.wanted o (yielded ops a.tmps) = true then Oper.wp P o a w K Q else E := by
  have hw : Region.wanted o (yielded ops a.tmps) = true := by simp [Region.wanted, hgd]
  rw [if_pos hw]
  exact wp_app_row s x t ho base e z size bytes hinfo ht hzs hsz A cp n xs hs hown ad m c news hx hl hnews h1 hbytes h63 hbase h
/-- The cells of a new block, to be appended. -/
theorem news_box {w : World} {k : Nat} {cs : Array Value} {T : TypeId} (hb : Box w k cs T) : ∀ j u, cs.toList[j]? = some u → w.cell? ((⟨k, 0, none⟩ : Addr).add j) = some u := fun j u hu => by
  have hadd : (⟨k, 0, none⟩ : Addr).add j = ⟨k, j, none⟩ := by unfold Addr.add; split <;> simp_all
  rw [hadd, hb.cell j]
  simpa using hu
theorem app_row_string (hgd : o.guard = none) (s x : Operand) (t u : TypeId) (ho : o.op = .call { callee := .builtin .append, args := #[s, x], argTypes := #[t, u] })
    (base : Nat) (e : TypeId) (hinfo : (P.info? e).map (fun i => (i.zero, i.size, i.bytes)) = some (some (.int .u8 0), 1, 1)) (ht : P.underlying t = some (.slice e)) (hu : P.underlying u = some .string)
    (A : Option Addr) (cp n : Nat) (xs : List Value) (hs : a.eval s = .slice A n cp) (hown : w.ownsRow base e 1 (.slice A n cp) n xs)
    (str : ByteArray) (hx : a.eval x = .string str) (hbytes : n + str.size ≤ 140737488355328) (hbase : base ≤ w.heap.size)
    (h : ∀ A' cp' w', w'.ownsRow base e 1 (.slice A' (n + str.size) cp') (n + str.size) (xs ++ Lib.strCells str) → Ch w.heap.size (Row A) w w' → (A' = A ∨ A' = some ⟨w.heap.size, 0, none⟩) → wpList P ops Q rest (a.put o.dst (.slice A' (n + str.size) cp')) w') : wpList P ops Q (o :: rest) a w := by
  obtain ⟨i, hi, hz, hsize, hby⟩ := info_parts hinfo
  refine wpList_plain hgd fun K hK => ?_
  obtain ⟨A', cp', w', hr, h2, h3, h4⟩ := run_append_row_string (P := P) (w := w) base t u o.type e i ht hu hi hz hsize hby A cp n xs hown str hbytes hbase
  unfold Oper.wp execOp
  simp only [ho, resolve, invoke, builtin, Sem.run_bind, Sem.run_pure, Result.andThen_ok, List.map_toArray, List.map_cons, List.map_nil, hs, hx, hr]
  exact hK _ _ (h A' cp' w' h2 h3 h4)
end
end Go.Proofs.Ytehbpjkeflcanaa
