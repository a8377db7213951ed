/- A tree of records in memory: the walks through Put and Drop. -/
import Derived.Test.YtfgpchffkpomoaaTreeW
import Derived.Test.YtfgpchffkpomoaaInsRec
import Derived.Test.YtfgpchffkpomoaaInsStr
import Derived.Deep.RegionHeld3
namespace Go.Proofs.Ytfgpchffkpomoaa
set_option linter.unusedSimpArgs false
set_option linter.unusedVariables false
open Go.RowKit

theorem flatK_take {α : Type} (f : α → List Value) (K : Nat) (hf : ∀ x, (f x).length = K) : ∀ (l : List α) (i : Nat), (l.flatMap f).take (i * K) = (l.take i).flatMap f
  | [], i => by simp
  | x :: l, 0 => by simp
  | x :: l, i + 1 => by
    rw [List.flatMap_cons, List.take_succ_cons, List.flatMap_cons, ← flatK_take f K hf l i, List.take_append, hf, List.take_of_length_le (by rw [hf, Nat.succ_mul]; omega), show (i + 1) * K - K = i * K by rw [Nat.succ_mul]; omega]
theorem flatK_drop {α : Type} (f : α → List Value) (K : Nat) (hf : ∀ x, (f x).length = K) : ∀ (l : List α) (i : Nat), (l.flatMap f).drop (i * K) = (l.drop i).flatMap f
  | [], i => by simp
  | x :: l, 0 => by simp
  | x :: l, i + 1 => by
    rw [List.flatMap_cons, List.drop_succ_cons, ← flatK_drop f K hf l i, List.drop_append, hf, List.drop_of_length_le (by rw [hf, Nat.succ_mul]; omega), show (i + 1) * K - K = i * K by rw [Nat.succ_mul]; omega, List.nil_append]
theorem rc_set : ∀ (l : List Rc) (i : Nat) (y : Rc), i < l.length → ((l.flatMap Rc.cells).set (i * 2) (.string y.key)).set (i * 2 + 1) (.string y.val) = (l.set i y).flatMap Rc.cells
  | [], i, y, hi => by simp at hi
  | x :: l, 0, y, _ => by simp [List.flatMap_cons, Rc.cells]
  | x :: l, i + 1, y, hi => by
    have ih := rc_set l i y (by simpa using hi)
    simp only [List.flatMap_cons, List.set_cons_succ]
    rw [← ih]
    have e : ∀ j (u : Value) (L : List Value), (x.cells ++ L).set ((i + 1) * 2 + j) u = x.cells ++ L.set (i * 2 + j) u := fun j u L => by
      rw [List.set_append, if_neg (by rw [Rc.cells_len]; omega), Rc.cells_len, show (i + 1) * 2 + j - 2 = i * 2 + j by omega]
    have e0 := fun u L => e 0 u L
    simp only [Nat.add_zero] at e0
    rw [e0, e]
theorem tx_set (l : List ByteArray) (i : Nat) (s : ByteArray) : (l.flatMap textCells).set i (.string s) = (l.set i s).flatMap textCells := by
  rw [txt_cells, txt_cells, List.map_set]
theorem rc_ones (l : List Rc) : ∀ u ∈ l.flatMap Rc.cells, u.oneCell' = true := fun u hu => by
  obtain ⟨x, _, hx⟩ := List.mem_flatMap.1 hu
  simp only [Rc.cells, List.mem_cons, List.not_mem_nil, or_false] at hx
  rcases hx with rfl | rfl <;> rfl
theorem tx_ones (l : List ByteArray) : ∀ u ∈ l.flatMap textCells, u.oneCell' = true := fun u hu => by
  obtain ⟨x, _, hx⟩ := List.mem_flatMap.1 hu
  simp only [textCells, List.mem_singleton] at hx
  subst hx
  rfl
theorem own_tyK {w : World} {base n : Nat} {e ty : TypeId} {size : Nat} {A : Option Addr} {c k : Nat} {xs : List Value} {cs : Array Value} (h : w.ownsRow base e size (.slice A n c) n xs) (hk : Row A k) (hx : Box w k cs ty) : ty = e := by
  rcases h.2 with ⟨hn, _⟩ | ⟨g, cap, cur, hv, hg, hh, rest⟩
  · obtain ⟨rfl, _⟩ : A = none ∧ _ := by simpa using hn
    cases hk
  · obtain ⟨rfl, rfl⟩ : A = some ⟨g, 0, none⟩ ∧ c = cap := by simpa using hv
    have e2 : g = k := by simpa [Row] using hk
    subst e2
    unfold Box at hx
    rw [hh] at hx
    injection hx with hx
    injection hx with _ h2 _
    exact h2.symm
theorem rows_apart {w : World} {base n k1 : Nat} {A D : Option Addr} {c d : Nat} {xs ys : List Value} {n2 : Nat} (h1 : w.ownsRow base 131 2 (.slice A n c) n xs) (h2 : w.ownsRow base 9 1 (.slice D n2 d) n2 ys) (ha : Row A k1) (hd : Row D k1) : False := by
  rcases h2.2 with ⟨hv, _⟩ | ⟨g, cap, cur, hv, _, hg, _⟩
  · have e := (show D = none ∧ n2 = 0 ∧ d = 0 by simpa using hv).1
    rw [e] at hd
    cases hd
  · obtain ⟨rfl, rfl⟩ : D = some ⟨g, 0, none⟩ ∧ d = cap := by simpa using hv
    obtain rfl : g = k1 := by simpa [Row] using hd
    exact absurd (own_tyK h1 ha hg) (by decide)
theorem rw_some {w : World} {base n : Nat} {e : TypeId} {size : Nat} {A : Option Addr} {c : Nat} {xs : List Value} (h : w.ownsRow base e size (.slice A n c) n xs) (hn : 0 < n) : ∃ g, A = some ⟨g, 0, none⟩ := by
  rcases h.2 with ⟨_, h0⟩ | ⟨g, cap, cur, hv, _⟩
  · omega
  · exact ⟨g, (show A = some ⟨g, 0, none⟩ ∧ c = cap by simpa using hv).1⟩
section
variable {w : World} {base g c : Nat} {e : TypeId}
theorem rc_at0 {l : List Rc} {k : Nat} (h : w.ownsRow base e 2 (.slice (some ⟨g, 0, none⟩) l.length c) l.length (l.flatMap Rc.cells)) (hk : k < l.length) : w.cell? ⟨g, k * 2, none⟩ = some (.string l[k].key) := by
  rw [h.cellAt (k * 2) (by omega)]
  have := flat_get Rc.cells 2 Rc.cells_len l k 0 hk (by decide)
  rw [Nat.add_zero] at this
  rw [this]
  rfl
theorem rc_at1 {l : List Rc} {k : Nat} (h : w.ownsRow base e 2 (.slice (some ⟨g, 0, none⟩) l.length c) l.length (l.flatMap Rc.cells)) (hk : k < l.length) : w.cell? ⟨g, k * 2 + 1, none⟩ = some (.string l[k].val) := by
  rw [h.cellAt (k * 2 + 1) (by omega), flat_get Rc.cells 2 Rc.cells_len l k 1 hk (by decide)]
  rfl
theorem tx_at {l : List ByteArray} {n k : Nat} (h : w.ownsRow base e 1 (.slice (some ⟨g, 0, none⟩) n c) n (l.flatMap textCells)) (hk : k < n) : ∃ s, w.cell? ⟨g, k, none⟩ = some (.string s) := by
  rw [h.cellAt k (by omega), txt_cells, List.getElem?_map]
  have := h.1
  rw [txt_cells, List.length_map] at this
  rw [List.getElem?_eq_getElem (by omega)]
  exact ⟨_, rfl⟩
theorem Box.two' {k : Nat} {cs : Array Value} {T : TypeId} (h : Box w k cs T) (hg : ¬ g = k) {i j : Nat} {u v : Value} : Box ((w.setCell ⟨g, i, none⟩ u).setCell ⟨g, j, none⟩ v) k cs T := (h.other (a := ⟨g, i, none⟩) hg u).other (a := ⟨g, j, none⟩) hg v
theorem Box.two {k : Nat} {x y z : Value} {T : TypeId} (h : Box w k #[x, y, z] T) (hg : ¬ g = k) {i j : Nat} {u v : Value} : ((w.setCell ⟨g, i, none⟩ u).setCell ⟨g, j, none⟩ v).cell? ⟨k, 0, none⟩ = some x ∧ ((w.setCell ⟨g, i, none⟩ u).setCell ⟨g, j, none⟩ v).cell? ⟨k, 1, none⟩ = some y ∧ ((w.setCell ⟨g, i, none⟩ u).setCell ⟨g, j, none⟩ v).cell? ⟨k, 2, none⟩ = some z :=
  ⟨(h.two' hg).cell 0, (h.two' hg).cell 1, (h.two' hg).cell 2⟩
theorem Box.two2 {k : Nat} {x y : Value} {T : TypeId} (h : Box w k #[x, y] T) (hg : ¬ g = k) {i j : Nat} {u v : Value} : ((w.setCell ⟨g, i, none⟩ u).setCell ⟨g, j, none⟩ v).cell? ⟨k, 0, none⟩ = some x ∧ ((w.setCell ⟨g, i, none⟩ u).setCell ⟨g, j, none⟩ v).cell? ⟨k, 1, none⟩ = some y :=
  ⟨(h.two' hg).cell 0, (h.two' hg).cell 1⟩
theorem Box.one {k : Nat} {x y z : Value} {T : TypeId} (h : Box w k #[x, y, z] T) (hg : ¬ g = k) {i : Nat} {u : Value} : (w.setCell ⟨g, i, none⟩ u).cell? ⟨k, 0, none⟩ = some x ∧ (w.setCell ⟨g, i, none⟩ u).cell? ⟨k, 1, none⟩ = some y ∧ (w.setCell ⟨g, i, none⟩ u).cell? ⟨k, 2, none⟩ = some z :=
  ⟨(h.other (a := ⟨g, i, none⟩) hg u).cell 0, (h.other (a := ⟨g, i, none⟩) hg u).cell 1, (h.other (a := ⟨g, i, none⟩) hg u).cell 2⟩
theorem Box.one2 {k : Nat} {x y : Value} {T : TypeId} (h : Box w k #[x, y] T) (hg : ¬ g = k) {i : Nat} {u : Value} : (w.setCell ⟨g, i, none⟩ u).cell? ⟨k, 0, none⟩ = some x ∧ (w.setCell ⟨g, i, none⟩ u).cell? ⟨k, 1, none⟩ = some y :=
  ⟨(h.other (a := ⟨g, i, none⟩) hg u).cell 0, (h.other (a := ⟨g, i, none⟩) hg u).cell 1⟩
end
/-- What a call of a tree's may have changed. -/
def Tch (q m : Nat) (A D : Option Addr) (k : Nat) : Prop := k = m ∨ k = q ∨ Row A k ∨ Row D k
def okP (key val : ByteArray) : Bool := fitK key && decide (val.size ≤ 4096)
def PutPost (w0 : World) (q b t m n : Nat) (T : List ByteArray) (S : List Wd) (l : List Rc) (A D : Option Addr) (r : Int) (e : Ending) (w' : World) : Prop :=
  ∃ T' A' c' D' d', e = .returned (.int .i64 r) ∧ Ext T T' ∧ T'.length ≤ T.length + 1 ∧ TrS w' q b t m n T' S l A' c' D' d' ∧ Ch w0.heap.size (Tch q m A D) w0 w' ∧ (∀ k, Row A' k → Row A k ∨ w0.heap.size ≤ k) ∧ (∀ k, Row D' k → Row D k ∨ w0.heap.size ≤ k)
theorem box_set2 {w : World} {q gA gD i j k : Nat} {cs : Array Value} {T : TypeId} (h : Box w q cs T) (u v x : Value) (h1 : gA ≠ q) (h2 : gD ≠ q) : Box (((w.setCell ⟨gA, i, none⟩ u).setCell ⟨gA, j, none⟩ v).setCell ⟨gD, k, none⟩ x) q cs T :=
  ((h.other (a := ⟨gA, i, none⟩) h1 u).other (a := ⟨gA, j, none⟩) h1 v).other (a := ⟨gD, k, none⟩) h2 x

/-- A record is another one: what there is then. -/
theorem TrS.set {w w3 : World} {q b t m n gA gD : Nat} {T T' : List ByteArray} {S : List Wd} {l : List Rc} {c d p : Nat} {x : Rc} {dg : ByteArray} (h : TrS w q b t m n T S l (some ⟨gA, 0, none⟩) c (some ⟨gD, 0, none⟩) d) (hp : p < l.length) (hc : Ch w.heap.size (· = m) w w3) (he : Ext T T') (hk : Bk w3 b t m n T' S) (hx : leafT x ∈ T') (hd : dg = hh T' (leafT x)) :
    TrS (((w3.setCell ⟨gA, p * 2, none⟩ (.string x.key)).setCell ⟨gA, p * 2 + 1, none⟩ (.string x.val)).setCell ⟨gD, p, none⟩ (.string dg)) q b t m n T' S (l.set p x) (some ⟨gA, 0, none⟩) c (some ⟨gD, 0, none⟩) d := by
  have h3 := h.grow hc he hk
  have ha := own_row h3.recs (k := gA) rfl
  have hdg := own_row h3.digs (k := gD) rfl
  have hl := h3.lt
  have hne : gA ≠ gD := fun e => rows_apart h3.recs h3.digs (k1 := gA) rfl (by rw [e]; rfl)
  have hnb : gA ≠ b ∧ gA ≠ t ∧ gA ≠ m ∧ gA ≠ n := by omega
  have hnd : gD ≠ b ∧ gD ≠ t ∧ gD ≠ m ∧ gD ≠ n := by omega
  refine ⟨((hk.setCell (p := ⟨gA, p * 2, none⟩) hnb _).setCell (p := ⟨gA, p * 2 + 1, none⟩) hnb _).setCell (p := ⟨gD, p, none⟩) hnd _, ?_, ?_, ?_, ?_, hl⟩
  · rw [List.length_set]
    exact box_set2 h3.box _ _ _ (by omega) (by omega)
  · have o1 := ((h3.recs.stored (p * 2) (.string x.key)).1.stored (p * 2 + 1) (.string x.val)).1
    rw [rc_set l p x hp] at o1
    rw [List.length_set]
    exact own_ch o1 ((Ch.refl _ (· = gD) _).setCell (p := ⟨gD, p, none⟩) (.inr rfl) (.string dg)) (fun k hk => ⟨(own_row o1 hk).2, by obtain rfl : gA = k := (by simpa [Row] using hk); exact hne⟩)
  · have o1 := own_ch h3.digs (((Ch.refl w3.heap.size (· = gA) w3).setCell (p := ⟨gA, p * 2, none⟩) (.inr rfl) (.string x.key)).setCell (p := ⟨gA, p * 2 + 1, none⟩) (.inr rfl) (.string x.val)) (fun k hk => ⟨(own_row h3.digs hk).2, by obtain rfl : gD = k := (by simpa [Row] using hk); exact fun e => hne e.symm⟩)
    have o2 := (o1.stored p (.string dg)).1
    rw [tx_set, hd, ← leaves_set] at o2
    rw [List.length_set, hd]
    exact o2
  · intro y hy
    rcases List.mem_or_eq_of_mem_set hy with hy | rfl
    · exact h3.leaves y hy
    · exact hx
section
variable {w w3 w4 : World} {q b t m n : Nat} {T : List ByteArray} {S : List Wd} {l : List Rc} {A : Option Addr} {c : Nat} {D : Option Addr} {d : Nat} {o1 : Obj}
/-- Behind a step that changes the records' row alone. -/
theorem TrS.box3 (h : TrS w q b t m n T S l A c D d) (c3 : Ch (w.alloc o1).heap.size (Row A) (w.alloc o1) w3) : TreeBox w3 q b A l.length c D l.length d :=
  Box.ch (Box.alloc h.box o1) c3 (by have := h.ql; simp; omega) (fun e => by have := (own_row h.recs e).1; omega)
theorem TrS.bk3 (h : TrS w q b t m n T S l A c D d) (c3 : Ch (w.alloc o1).heap.size (Row A) (w.alloc o1) w3) : Bk w3 b t m n T S := by
  have hl := h.lt
  exact (h.bk.alloc o1).ch c3 (Nat.le_refl _) ⟨fun e => by have := (own_row h.recs e).1; omega, fun e => by have := (own_row h.recs e).1; omega, fun e => by have := (own_row h.recs e).1; omega, fun e => by have := (own_row h.recs e).1; omega⟩
theorem TrS.digs3 (h : TrS w q b t m n T S l A c D d) (c3 : Ch (w.alloc o1).heap.size (Row A) (w.alloc o1) w3) : w3.ownsRow (q + 1) 9 1 (.slice D l.length d) l.length ((leavesH (hh T) l).flatMap textCells) :=
  own_ch (h.digs.alloc o1) c3 (fun k hk => ⟨(own_row (h.digs.alloc o1) hk).2, fun e => rows_apart h.recs h.digs e hk⟩)
theorem TrS.digs4 (h : TrS w q b t m n T S l A c D d) (c3 : Ch (w.alloc o1).heap.size (Row A) (w.alloc o1) w3) (c4 : Ch w3.heap.size (· = m) w3 w4) : w4.ownsRow (q + 1) 9 1 (.slice D l.length d) l.length ((leavesH (hh T) l).flatMap textCells) :=
  own_ch (h.digs3 c3) c4 (fun k hk => ⟨(own_row (h.digs3 c3) hk).2, by have := (own_row h.digs hk).1; have := h.lt; omega⟩)
end
/-- A record and its digest more. -/
theorem TrS.ins {w w3 w4 w6 : World} {q b t m n : Nat} {T T' : List ByteArray} {S : List Wd} {l : List Rc} {A : Option Addr} {c : Nat} {D : Option Addr} {d p : Nat} {x : Rc} {dg : ByteArray} {A' D' : Option Addr} {c' d' : Nat} {o1 o2 : Obj} (h : TrS w q b t m n T S l A c D d) (hp : p ≤ l.length)
    (o3 : w3.ownsRow (q + 1) 131 2 (.slice A' (l.length + 1) c') (l.length + 1) ((l.flatMap Rc.cells).take (p * 2) ++ x.cells ++ (l.flatMap Rc.cells).drop (p * 2))) (c3 : Ch (w.alloc o1).heap.size (Row A) (w.alloc o1) w3) (r3 : ∀ k, Row A' k → Row A k ∨ (w.alloc o1).heap.size ≤ k)
    (c4 : Ch w3.heap.size (· = m) w3 w4) (he : Ext T T') (hk : Bk w4 b t m n T' S) (hx : leafT x ∈ T') (hd : dg = hh T' (leafT x))
    (o6 : w6.ownsRow (q + 1) 9 1 (.slice D' (l.length + 1) d') (l.length + 1) (((leavesH (hh T) l).flatMap textCells).take (p * 1) ++ [.string dg] ++ ((leavesH (hh T) l).flatMap textCells).drop (p * 1))) (c6 : Ch (w4.alloc o2).heap.size (Row D) (w4.alloc o2) w6) (r6 : ∀ k, Row D' k → Row D k ∨ (w4.alloc o2).heap.size ≤ k) :
    TrS ((w6.setCell ⟨q, 1, none⟩ (.slice A' (l.length + 1) c')).setCell ⟨q, 2, none⟩ (.slice D' (l.length + 1) d')) q b t m n T' S (l.take p ++ x :: l.drop p) A' c' D' d' ∧
    Ch w.heap.size (Tch q m A D) w ((w6.setCell ⟨q, 1, none⟩ (.slice A' (l.length + 1) c')).setCell ⟨q, 2, none⟩ (.slice D' (l.length + 1) d')) ∧ (∀ k, Row A' k → Row A k ∨ w.heap.size ≤ k) ∧ (∀ k, Row D' k → Row D k ∨ w.heap.size ≤ k) := by
  have hl := h.lt
  have hql := h.ql
  have hlen : (l.take p ++ x :: l.drop p).length = l.length + 1 := by simp; omega
  have hz1 : (w.alloc o1).heap.size = w.heap.size + 1 := by simp
  have hz4 : (w4.alloc o2).heap.size = w4.heap.size + 1 := by simp
  have hz3 : w.heap.size + 1 ≤ w3.heap.size := by have := c3.size; omega
  have hz34 := c4.size
  have hz6 : w4.heap.size + 1 ≤ w6.heap.size := by have := c6.size; omega
  have hAr : ∀ k, Row A k → q + 1 ≤ k ∧ k < w.heap.size := fun k hk => own_row h.recs hk
  have hDr : ∀ k, Row D k → q + 1 ≤ k ∧ k < w.heap.size := fun k hk => own_row h.digs hk
  have hapart : ∀ k, Row A k → Row D k → False := fun k ha hd => rows_apart h.recs h.digs ha hd
  -- all of it, from the start
  have cA : Ch w.heap.size (Tch q m A D) w w3 := ((Ch.refl w.heap.size (Tch q m A D) w).alloc (Nat.le_refl _) o1).step c3 (by omega) (fun i hi e => .inr (.inr (.inl e)))
  have cB : Ch w.heap.size (Tch q m A D) w w4 := cA.step c4 (by omega) (fun i hi e => .inl e)
  have cC : Ch w.heap.size (Tch q m A D) w w6 := (cB.alloc (by omega) o2).step c6 (by omega) (fun i hi e => .inr (.inr (.inr e)))
  -- the new rows' blocks
  have nA : ∀ k, Row A' k → Row A k ∨ w.heap.size ≤ k := fun k hk => by
    rcases r3 k hk with e | e
    · exact .inl e
    · exact .inr (by omega)
  have nD : ∀ k, Row D' k → Row D k ∨ w.heap.size ≤ k := fun k hk => by
    rcases r6 k hk with e | e
    · exact .inl e
    · exact .inr (by omega)
  refine ⟨⟨?_, ?_, ?_, ?_, ?_, hl⟩, (cC.setCell (p := ⟨q, 1, none⟩) (.inr (.inr (.inl rfl))) _).setCell (p := ⟨q, 2, none⟩) (.inr (.inr (.inl rfl))) _, nA, nD⟩
  · have k6 := (hk.alloc o2).ch c6 (Nat.le_refl _) ⟨fun e => by have := hDr _ e; omega, fun e => by have := hDr _ e; omega, fun e => by have := hDr _ e; omega, fun e => by have := hDr _ e; omega⟩
    exact (k6.setCell (p := ⟨q, 1, none⟩) (by simp only; omega) _).setCell (p := ⟨q, 2, none⟩) (by simp only; omega) _
  · have b3 := Box.ch ((Box.alloc h.box o1)) c3 (by omega) (fun e => by have := hAr _ e; omega)
    have b4 := b3.ch c4 (by omega) (by omega)
    have b6 := (b4.alloc o2).ch c6 (by omega) (fun e => by have := hDr _ e; omega)
    rw [hlen]
    exact (b6.set 1 (.slice A' (l.length + 1) c')).set 2 (.slice D' (l.length + 1) d')
  · have e1 : (l.flatMap Rc.cells).take (p * 2) ++ x.cells ++ (l.flatMap Rc.cells).drop (p * 2) = (l.take p ++ x :: l.drop p).flatMap Rc.cells := by
      rw [flatK_take Rc.cells 2 Rc.cells_len, flatK_drop Rc.cells 2 Rc.cells_len, List.flatMap_append, List.flatMap_cons, List.append_assoc]
    rw [e1, ← hlen] at o3
    have g4 := own_ch o3 c4 (fun k hk => ⟨(own_row o3 hk).2, by have := (own_row o3 hk).1; omega⟩)
    have g6 := own_ch (g4.alloc o2) c6 (fun k hk => by
      refine ⟨(own_row (g4.alloc o2) hk).2, fun e => ?_⟩
      rcases r3 k hk with ha | ha
      · exact hapart k ha e
      · have := hDr k e
        omega)
    have g7 := (g6 : w6.ownsRow _ _ _ _ _ _)
    rw [hlen] at g7 ⊢
    exact ownsRow_setCell_below (ownsRow_setCell_below g7 (a := ⟨q, 1, none⟩) (Nat.lt_succ_self q) _) (a := ⟨q, 2, none⟩) (Nat.lt_succ_self q) _
  · obtain ⟨h1, h2⟩ := h.leaves.ext he
    have e1 : ((leavesH (hh T) l).flatMap textCells).take (p * 1) ++ [.string dg] ++ ((leavesH (hh T) l).flatMap textCells).drop (p * 1) = (leavesH (hh T') (l.take p ++ x :: l.drop p)).flatMap textCells := by
      rw [flatK_take textCells 1 textCells_len, flatK_drop textCells 1 textCells_len, leaves_ins, h2, List.flatMap_append, List.flatMap_cons, hd, List.append_assoc]
      rfl
    rw [e1] at o6
    rw [hlen]
    exact ownsRow_setCell_below (ownsRow_setCell_below o6 (a := ⟨q, 1, none⟩) (Nat.lt_succ_self q) _) (a := ⟨q, 2, none⟩) (Nat.lt_succ_self q) _
  · intro y hy
    rcases List.mem_append.1 hy with hy | hy
    · exact he.mem (h.leaves y (List.mem_of_mem_take hy))
    · rcases List.mem_cons.1 hy with rfl | hy
      · exact hx
      · exact he.mem (h.leaves y (List.mem_of_mem_drop hy))
end Go.Proofs.Ytfgpchffkpomoaa
