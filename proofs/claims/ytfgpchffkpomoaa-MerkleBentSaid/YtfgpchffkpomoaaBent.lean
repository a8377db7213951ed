/- A proof with a change is a proof in memory, whatever the change: the walk through chapter 4's bent. -/
import Derived.Test.YtfgpchffkpomoaaMSound
import Derived.Test.YtfgpchffkpomoaaProof4
import Derived.Test.YtfgpchffkpomoaaAppO
import Derived.Laws.OwnMore
namespace Go.Proofs.Ytfgpchffkpomoaa
set_option linter.unusedSimpArgs false
set_option linter.unusedVariables false
open Go.RowKit

set_option maxRecDepth 100000 in
theorem around4_det (k : Int) (b : Nat) (hb : 0 < b) (hb2 : b ≤ 1000000) (h0 : -9223372036854775808 ≤ k) (h1 : k ≤ 9223372036854775807) : ∃ r : Nat, r < b ∧ Hid (∀ w, Calls Try.prog 109 #[.int .i64 k, .int .i64 b] w fun e w' => e = .returned (.int .i64 r) ∧ w' = w) := by
  have hlo := Int.lt_tmod_of_pos k (show (0 : Int) < b by omega)
  have hhi := Int.tmod_lt_of_pos k (show (0 : Int) < b by omega)
  have hz : ((b : Int) == 0) = false := by rw [beq_eq_false_iff_ne]; omega
  have hnz : (b : Int) ≠ 0 := by omega
  have hnb : ¬ b = 0 := by omega
  have hm1 : ¬ (b : Int) = -1 := by omega
  obtain ⟨r, hr⟩ : ∃ r, r = Int.tmod k b := ⟨_, rfl⟩
  rw [← hr] at hlo hhi
  have HR := Lib.hid hr
  have hw : IntKind.i64.wrap (Int.tmod k b) = Int.tmod k b := by rw [← hr]; exact wrap_small2 _ (by omega) (by omega)
  refine ⟨r.natAbs, by omega, fun w => ?_⟩
  by_cases hn : r < 0
  · have hd : decide (Int.tmod k b < 0) = true := by rw [← hr]; exact decide_eq_true hn
    have hw3 : IntKind.i64.wrap (-(Int.tmod k b)) = -(Int.tmod k b) := by rw [← hr]; exact wrap_small2 _ (by omega) (by omega)
    have hw2 : IntKind.i64.wrap (0 - Int.tmod k b) = -(Int.tmod k b) := by rw [← hr]; rw [show (0 : Int) - r = -r by omega]; exact wrap_small2 _ (by omega) (by omega)
    clear hr
    go_enter Try.func109, Try.ntmps109
    go_wp2_with fail
    go_ret
    exact ⟨by congr 2; rw [← HR.out]; simp; omega, rfl⟩
  · have hd : decide (Int.tmod k b < 0) = false := by rw [← hr]; exact decide_eq_false hn
    clear hr
    go_enter Try.func109, Try.ntmps109
    go_wp2_with fail
    go_ret
    exact ⟨by congr 2; rw [← HR.out]; simp; omega, rfl⟩
theorem around4_calls (k : Int) (b : Nat) (w : World) (hb : 0 < b) (hb2 : b ≤ 1000000) (h0 : -9223372036854775808 ≤ k) (h1 : k ≤ 9223372036854775807) : Calls Try.prog 109 #[.int .i64 k, .int .i64 b] w fun e w' => ∃ r : Nat, e = .returned (.int .i64 r) ∧ r < b ∧ w' = w := by
  obtain ⟨r, h, hc⟩ := around4_det k b hb hb2 h0 h1
  exact (hc.out w).mono fun e w' ⟨he, hw⟩ => ⟨r, he, h, hw⟩
/-- One cell of a row of paths is changed: the row is that of changed paths. -/
theorem set_flat {f : Pm → List Value} (hf : ∀ x, (f x).length = 4) : ∀ (ps : List Pm) (i j : Nat) (u : Value) (y : Pm) (hi : i < ps.length), j < 4 → f y = (f ps[i]).set j u → (ps.flatMap f).set (i * 4 + j) u = (ps.set i y).flatMap f
  | [], i, j, u, y, hi, _, _ => by simp at hi
  | x :: ps, 0, j, u, y, hi, hj, hy => by
    simp only [List.flatMap_cons, Nat.zero_mul, Nat.zero_add, List.set_cons_zero, List.getElem_cons_zero] at hy ⊢
    rw [List.set_append, if_pos (by rw [hf]; exact hj), hy]
  | x :: ps, i + 1, j, u, y, hi, hj, hy => by
    simp only [List.flatMap_cons, List.set_cons_succ, List.getElem_cons_succ] at hy ⊢
    rw [List.set_append, if_neg (by rw [hf]; omega), hf, show (i + 1) * 4 + j - 4 = i * 4 + j by omega, set_flat hf ps i j u y (by simpa using hi) hj hy]
/-- A slice that is not empty lies in no block of M. -/
def OffM (A : Option Addr) (n : Nat) (M : Nat → Prop) : Prop := 0 < n → ∀ k, Row A k → ¬ M k
/-- A proof in memory, none of whose lists lies in a block of M; lists of at most K. -/
structure PfM (M : Nat → Prop) (K : Nat) (w : World) (A : Option Addr) (c : Nat) (ps : List Pm) : Prop where
  pm : PmS w A c ps
  off : OffM A ps.length M
  each : ∀ x ∈ ps, OffM x.A x.sides.length M ∧ x.sides.length ≤ x.c ∧ x.sides.length ≤ K
  len : ps.length ≤ K
/-- The copied paths l in a row of their own, in block g; sides lie elsewhere. -/
structure LSt (M : Nat → Prop) (K : Nat) (w0 : World) (g cp : Nat) (ps : List Pm) (wr : World) : Prop where
  b : Below w0.heap.size w0 wr
  own : wr.ownsRow (w0.heap.size + 3) 179 4 (.slice (some ⟨g, 0, none⟩) ps.length cp) ps.length (ps.flatMap Pm.cells)
  each : ∀ x ∈ ps, TxS wr x.A x.c x.sides ∧ x.sides.length ≤ x.c ∧ x.sides.length ≤ K ∧ OffM x.A x.sides.length M ∧ (0 < x.sides.length → ∀ q, Row x.A q → q ≠ g ∧ (q < w0.heap.size ∨ w0.heap.size + 3 ≤ q))
theorem LSt.ge {M : Nat → Prop} {K : Nat} {w0 : World} {g cp : Nat} {ps : List Pm} {wr : World} (h : LSt M K w0 g cp ps wr) : w0.heap.size + 3 ≤ g ∧ g < wr.heap.size := own_row h.own rfl
theorem LSt.set {M : Nat → Prop} {K : Nat} {w0 : World} {g cp : Nat} {ps : List Pm} {wr : World} (h : LSt M K w0 g cp ps wr) {R i : Nat} (hR : w0.heap.size ≤ R) (hR2 : R < w0.heap.size + 3) (v : Value) : LSt M K w0 g cp ps (wr.setCell ⟨R, i, none⟩ v) := by
  have hg := h.ge
  refine ⟨h.b.setCell (p := ⟨R, i, none⟩) hR v, ownsRow_setCell_below h.own (a := ⟨R, i, none⟩) hR2 v, fun x hx => ?_⟩
  obtain ⟨t1, t2, t3, t4, t5⟩ := h.each x hx
  exact ⟨Sl.stay (B := wr.heap.size) (S := (· = R)) t1 ((Ch.refl wr.heap.size (· = R) wr).setCell (p := ⟨R, i, none⟩) (.inr rfl) v) (fun h0 q hq => ⟨Sl.row_lt t1 (by rw [t1.len]; omega) q hq, by have := (t5 h0 q hq).2; omega⟩), t2, t3, t4, t5⟩
theorem LSt.pf {M : Nat → Prop} {K : Nat} {w0 : World} {g cp : Nat} {ps : List Pm} {wr : World} (h : LSt M K w0 g cp ps wr) (hm : ∀ q, M q → q < w0.heap.size) (hl : ps.length ≤ K) : PfM M K wr (some ⟨g, 0, none⟩) cp ps :=
  ⟨⟨Sl.of_own h.own, fun x hx => (h.each x hx).1⟩, fun _ k hk hM => by have := (own_row h.own hk).1; have := hm k hM; omega, fun x hx => ⟨(h.each x hx).2.2.2.1, (h.each x hx).2.1, (h.each x hx).2.2.1⟩, hl⟩
theorem LSt.upd {M : Nat → Prop} {K : Nat} {w0 : World} {g cp : Nat} {ps : List Pm} {wr : World} (h : LSt M K w0 g cp ps wr) {i j : Nat} (hi : i < ps.length) (hj : j < 4) (u : Value) (y : Pm) (hy : y.cells = (ps[i].cells).set j u)
    (hs : TxS wr y.A y.c y.sides ∧ y.sides.length ≤ y.c ∧ y.sides.length ≤ K ∧ OffM y.A y.sides.length M ∧ (0 < y.sides.length → ∀ q, Row y.A q → q ≠ g ∧ (q < w0.heap.size ∨ w0.heap.size + 3 ≤ q))) :
    LSt M K w0 g cp (ps.set i y) (wr.setCell ⟨g, i * 4 + j, none⟩ u) := by
  have hg := h.ge
  obtain ⟨o1, o2⟩ := h.own.stored (i * 4 + j) u
  rw [set_flat Pm.cells_len ps i j u y hi hj hy] at o1
  have hch : Ch wr.heap.size (· = g) wr (wr.setCell ⟨g, i * 4 + j, none⟩ u) := (Ch.refl wr.heap.size (· = g) wr).setCell (p := ⟨g, i * 4 + j, none⟩) (.inr rfl) u
  have hkeep : ∀ x : Pm, (TxS wr x.A x.c x.sides ∧ x.sides.length ≤ x.c ∧ x.sides.length ≤ K ∧ OffM x.A x.sides.length M ∧ (0 < x.sides.length → ∀ q, Row x.A q → q ≠ g ∧ (q < w0.heap.size ∨ w0.heap.size + 3 ≤ q))) → TxS (wr.setCell ⟨g, i * 4 + j, none⟩ u) x.A x.c x.sides := fun x hx =>
    Sl.stay hx.1 hch (fun h0 q hq => ⟨Sl.row_lt hx.1 (by rw [hx.1.len]; omega) q hq, (hx.2.2.2.2 h0 q hq).1⟩)
  refine ⟨h.b.setCell (p := ⟨g, i * 4 + j, none⟩) (by simp only; omega) u, by simpa using o1, fun x hx => ?_⟩
  rcases List.mem_or_eq_of_mem_set hx with hx | rfl
  · exact ⟨hkeep x (h.each x hx), (h.each x hx).2⟩
  · exact ⟨hkeep x hs, hs.2⟩
theorem LSt.elem {M : Nat → Prop} {K : Nat} {w0 : World} {g cp : Nat} {ps : List Pm} {wr : World} (h : LSt M K w0 g cp ps wr) (i : Nat) (hi : i < ps.length) : wr.cell? ⟨g, i * 4, none⟩ = some (.int .i64 ps[i].index) ∧ wr.cell? ⟨g, i * 4 + 1, none⟩ = some (.string ps[i].key) ∧ wr.cell? ⟨g, i * 4 + 2, none⟩ = some (.string ps[i].val) ∧
    wr.cell? ⟨g, i * 4 + 3, none⟩ = some (.slice ps[i].A ps[i].sides.length ps[i].c) ∧ wr.frozen? ⟨g, i * 4, none⟩ = false ∧ wr.frozen? ⟨g, i * 4 + 1, none⟩ = false ∧ wr.frozen? ⟨g, i * 4 + 2, none⟩ = false ∧ wr.frozen? ⟨g, i * 4 + 3, none⟩ = false := by
  have hc := h.own.cells (g := g) rfl
  have hz : ∀ j, (⟨g, 0, none⟩ : Addr).add j = ⟨g, j, none⟩ := fun j => by simp [Addr.add]; omega
  have hg := fun j hj => flat_get Pm.cells 4 Pm.cells_len ps i j hi hj
  refine ⟨?_, ?_, ?_, ?_, h.own.frozenAt _, h.own.frozenAt _, h.own.frozenAt _, h.own.frozenAt _⟩
  · rw [← hz]; exact hc _ _ (by have := hg 0 (by decide); rw [Nat.add_zero] at this; rw [this]; rfl)
  · rw [← hz]; exact hc _ _ (by rw [hg 1 (by decide)]; rfl)
  · rw [← hz]; exact hc _ _ (by rw [hg 2 (by decide)]; rfl)
  · rw [← hz]; exact hc _ _ (by rw [hg 3 (by decide)]; rfl)
theorem set_flat4 : ∀ (ps : List Pm) (i : Nat) (y : Pm), i < ps.length → (((((ps.flatMap Pm.cells).set (i * 4) (.int .i64 y.index)).set (i * 4 + 1) (.string y.key)).set (i * 4 + 2) (.string y.val)).set (i * 4 + 3) (.slice y.A y.sides.length y.c)) = (ps.set i y).flatMap Pm.cells
  | [], i, y, hi => by simp at hi
  | x :: ps, 0, y, _ => by simp [List.flatMap_cons, Pm.cells]
  | x :: ps, i + 1, y, hi => by
    have ih := set_flat4 ps i y (by simpa using hi)
    simp only [List.flatMap_cons, List.set_cons_succ]
    rw [← ih]
    have e : ∀ j (u : Value) (L : List Value), (x.cells ++ L).set ((i + 1) * 4 + j) u = x.cells ++ L.set (i * 4 + j) u := fun j u L => by
      rw [List.set_append, if_neg (by rw [Pm.cells_len]; omega), Pm.cells_len, show (i + 1) * 4 + j - 4 = i * 4 + j by omega]
    have e0 := fun u L => e 0 u L
    simp only [Nat.add_zero] at e0
    rw [e0, e, e, e]
/-- What is known of each copied path. -/
def El (M : Nat → Prop) (K : Nat) (w0 : World) (g : Nat) (wr : World) (x : Pm) : Prop := TxS wr x.A x.c x.sides ∧ x.sides.length ≤ x.c ∧ x.sides.length ≤ K ∧ OffM x.A x.sides.length M ∧ (0 < x.sides.length → ∀ q, Row x.A q → q ≠ g ∧ (q < w0.heap.size ∨ w0.heap.size + 3 ≤ q))
theorem El.ch {M : Nat → Prop} {K : Nat} {w0 : World} {g : Nat} {wr wz : World} {x : Pm} (h : El M K w0 g wr x) (hc : Ch wr.heap.size (· = g) wr wz) : El M K w0 g wz x :=
  ⟨Sl.stay h.1 hc (fun h0 q hq => ⟨Sl.row_lt h.1 (by rw [h.1.len]; omega) q hq, (h.2.2.2.2 h0 q hq).1⟩), h.2⟩
def put4 (wr : World) (g i : Nat) (y : Pm) : World := (((wr.setCell ⟨g, i * 4, none⟩ (.int .i64 y.index)).setCell ⟨g, i * 4 + 1, none⟩ (.string y.key)).setCell ⟨g, i * 4 + 2, none⟩ (.string y.val)).setCell ⟨g, i * 4 + 3, none⟩ (.slice y.A y.sides.length y.c)
theorem put4_ch (wr : World) (g i : Nat) (y : Pm) : Ch wr.heap.size (· = g) wr (put4 wr g i y) :=
  ((((Ch.refl wr.heap.size (· = g) wr).setCell (p := ⟨g, i * 4, none⟩) (.inr rfl) (.int .i64 y.index)).setCell (p := ⟨g, i * 4 + 1, none⟩) (.inr rfl) (.string y.key)).setCell (p := ⟨g, i * 4 + 2, none⟩) (.inr rfl) (.string y.val)).setCell (p := ⟨g, i * 4 + 3, none⟩) (.inr rfl) (.slice y.A y.sides.length y.c)
/-- One of the copied paths is another one. -/
theorem LSt.put4 {M : Nat → Prop} {K : Nat} {w0 : World} {g cp : Nat} {ps : List Pm} {wr : World} (h : LSt M K w0 g cp ps wr) {i : Nat} (hi : i < ps.length) {y : Pm} (hy : El M K w0 g wr y) : LSt M K w0 g cp (ps.set i y) (put4 wr g i y) := by
  have hg := h.ge
  have o1 := (h.own.stored (i * 4) (.int .i64 y.index)).1
  have o2 := (o1.stored (i * 4 + 1) (.string y.key)).1
  have o3 := (o2.stored (i * 4 + 2) (.string y.val)).1
  have o4 := (o3.stored (i * 4 + 3) (.slice y.A y.sides.length y.c)).1
  rw [set_flat4 ps i y hi] at o4
  have hch := put4_ch wr g i y
  refine ⟨h.b.trans ((hch.mono (B' := w0.heap.size) (S' := fun _ => False) (by omega) (fun i hi e => by omega)).below (fun _ _ e => e)), by rw [List.length_set]; exact o4, fun x hx => ?_⟩
  rcases List.mem_or_eq_of_mem_set hx with hx | rfl
  · exact El.ch (h.each x hx) hch
  · exact El.ch hy hch
theorem LSt.drew {M : Nat → Prop} {K : Nat} {w0 : World} {g cp : Nat} {ps : List Pm} {wr : World} (h : LSt M K w0 g cp ps wr) : LSt M K w0 g cp ps wr.drew := ⟨h.b.drew, h.own, fun x hx => ⟨(h.each x hx).1.drew, (h.each x hx).2⟩⟩
/-- Two of the copied paths, one behind the other. -/
theorem LSt.swap {M : Nat → Prop} {K : Nat} {w0 : World} {g cp : Nat} {ps : List Pm} {wr : World} (h : LSt M K w0 g cp ps wr) {i j : Nat} (hi : i < ps.length) (hj : j < ps.length) {x y : Pm} (hx : x ∈ ps) (hy : y ∈ ps) : LSt M K w0 g cp ((ps.set i x).set j y) (Go.Proofs.Ytfgpchffkpomoaa.put4 (Go.Proofs.Ytfgpchffkpomoaa.put4 wr g i x) g j y).drew :=
  ((h.put4 hi (h.each x hx)).put4 (by simpa using hj) (El.ch (h.each y hy) (put4_ch wr g i x))).drew
/-- Memory changed elsewhere. -/
theorem LSt.ch {M : Nat → Prop} {K : Nat} {w0 : World} {g cp : Nat} {ps : List Pm} {wr wz : World} (h : LSt M K w0 g cp ps wr) {S : Nat → Prop} (hc : Ch wr.heap.size S wr wz) (hS : ∀ q, q < wr.heap.size → ¬ S q) : LSt M K w0 g cp ps wz := by
  have hg := h.ge
  refine ⟨h.b.trans ((hc.mono (B' := w0.heap.size) (S' := fun _ => False) (by omega) (fun i hi e => hS i (by omega) e)).below (fun _ _ e => e)), own_ch h.own hc (fun k hk => ⟨(own_row h.own hk).2, hS k (own_row h.own hk).2⟩), fun x hx => ?_⟩
  obtain ⟨t1, t2, t3, t4, t5⟩ := h.each x hx
  exact ⟨Sl.stay t1 hc (fun h0 q hq => ⟨Sl.row_lt t1 (by rw [t1.len]; omega) q hq, hS q (Sl.row_lt t1 (by rw [t1.len]; omega) q hq)⟩), t2, t3, t4, t5⟩
/-- One path's sides are others. -/
theorem LSt.sides {M : Nat → Prop} {K : Nat} {w0 : World} {g cp : Nat} {ps : List Pm} {wr : World} (h : LSt M K w0 g cp ps wr) {i base : Nat} {T : TypeId} (hi : i < ps.length) (hm : ∀ q, M q → q < w0.heap.size) (hb : g < base) {B : Option Addr} {c : Nat} {sd : List ByteArray} (ho : wr.ownsRow base T 1 (.slice B sd.length c) sd.length (sd.flatMap textCells)) (hl : sd.length ≤ K) :
    LSt M K w0 g cp (ps.set i { ps[i] with sides := sd, A := B, c := c }) (wr.setCell ⟨g, i * 4 + 3, none⟩ (.slice B sd.length c)) := by
  have hg := h.ge
  refine h.upd hi (by decide) _ _ rfl ⟨Sl.of_own ho, own_cap ho, hl, fun _ q hq hM => ?_, fun _ q hq => ?_⟩
  · have := (own_row ho hq).1
    have := hm q hM
    omega
  · have := (own_row ho hq).1
    exact ⟨by omega, .inr (by omega)⟩
theorem LSt.swap_ch {M : Nat → Prop} {K : Nat} {w0 : World} {g cp : Nat} {ps : List Pm} {wr : World} (_ : LSt M K w0 g cp ps wr) (i j : Nat) (x y : Pm) : Ch wr.heap.size (· = g) wr (Go.Proofs.Ytfgpchffkpomoaa.put4 (Go.Proofs.Ytfgpchffkpomoaa.put4 wr g i x) g j y).drew :=
  ((put4_ch wr g i x).step (put4_ch _ g j y) (by simp [Go.Proofs.Ytfgpchffkpomoaa.put4, World.setCell]) (fun _ _ e => e)).drew
theorem own_take {w : World} {base g n cp size : Nat} {e : TypeId} {xs : List Value} (h : w.ownsRow base e size (.slice (some ⟨g, 0, none⟩) n cp) n xs) (k : Nat) (hk : k ≤ n) : w.ownsRow base e size (.slice (some ⟨g, 0, none⟩) k cp) k (xs.take (k * size)) := by
  have hm := Nat.mul_le_mul_right size hk
  refine ⟨by rw [List.length_take, h.1]; omega, ?_⟩
  rcases h.2 with ⟨hv, h0⟩ | ⟨g', cap, cur, hv, hb, hg, hn, hc, hs, ht⟩
  · simp at hv
  · obtain ⟨rfl, rfl⟩ : g = g' ∧ cp = cap := by simpa using hv
    exact .inr ⟨g, cp, cur, rfl, hb, hg, by omega, hc, hs, by rw [← ht, List.take_take, Nat.min_eq_left hm]⟩
theorem text_cells : ∀ l : List ByteArray, l.flatMap textCells = l.map Value.string
  | [] => rfl
  | s :: l => by rw [List.flatMap_cons, text_cells l]; rfl
theorem text_take (l : List ByteArray) (k : Nat) : (l.flatMap textCells).take (k * 1) = (l.take k).flatMap textCells := by
  rw [text_cells, text_cells, Nat.mul_one, List.map_take]
theorem text_set (l : List ByteArray) (k : Nat) (s : ByteArray) : (l.flatMap textCells).set k (.string s) = (l.set k s).flatMap textCells := by
  rw [text_cells, text_cells, List.map_set]
/-- The first of the copied paths. -/
theorem LSt.take {M : Nat → Prop} {K : Nat} {w0 : World} {g cp : Nat} {ps : List Pm} {wr : World} (h : LSt M K w0 g cp ps wr) (k : Nat) (hk : k ≤ ps.length) : LSt M K w0 g cp (ps.take k) wr := by
  have ht := own_take h.own k hk
  have hf : (ps.flatMap Pm.cells).take (k * 4) = (ps.take k).flatMap Pm.cells := by
    have e : ps = ps.take k ++ ps.drop k := (List.take_append_drop k ps).symm
    have hl : ((ps.take k).flatMap Pm.cells).length = k * 4 := by rw [flat_len Pm.cells 4 Pm.cells_len, List.length_take, Nat.min_eq_left hk]
    conv => lhs; rw [e, List.flatMap_append]
    rw [← hl, List.take_left']
    rfl
  rw [hf] at ht
  have hl : (ps.take k).length = k := by rw [List.length_take, Nat.min_eq_left hk]
  exact ⟨h.b, by rw [hl]; exact ht, fun x hx => h.each x (List.mem_of_mem_take hx)⟩
/-- One of the paths more. -/
theorem LSt.app {M : Nat → Prop} {K : Nat} {w0 : World} {g cp : Nat} {ps : List Pm} {wr w6 : World} (h : LSt M K w0 g cp ps wr) {g' c6 : Nat} {y : Pm} (hy : y ∈ ps) (hc : Ch wr.heap.size (· = g) wr w6) (hg' : g' = g ∨ wr.heap.size ≤ g')
    (ho : w6.ownsRow (w0.heap.size + 3) 179 4 (.slice (some ⟨g', 0, none⟩) (ps.length + 1) c6) (ps.length + 1) (ps.flatMap Pm.cells ++ y.cells)) : LSt M K w0 g' c6 (ps ++ [y]) w6 := by
  have hg := h.ge
  refine ⟨h.b.trans ((hc.mono (B' := w0.heap.size) (S' := fun _ => False) (by omega) (fun i hi e => by omega)).below (fun _ _ e => e)), ?_, fun x hx => ?_⟩
  · rw [List.length_append, List.flatMap_append]
    simpa using ho
  · have hx : x ∈ ps := by
      rcases List.mem_append.1 hx with hx | hx
      · exact hx
      · obtain rfl := List.mem_singleton.1 hx
        exact hy
    obtain ⟨t1, t2, t3, t4, t5⟩ := h.each x hx
    refine ⟨Sl.stay t1 hc (fun h0 q hq => ⟨Sl.row_lt t1 (by rw [t1.len]; omega) q hq, (t5 h0 q hq).1⟩), t2, t3, t4, fun h0 q hq => ⟨?_, (t5 h0 q hq).2⟩⟩
    have hql := Sl.row_lt t1 (by rw [t1.len]; omega) q hq
    have := (t5 h0 q hq).1
    rcases hg' with e | e <;> omega
theorem own_drew {w : World} {base n size : Nat} {e : TypeId} {v : Value} {xs : List Value} (h : w.ownsRow base e size v n xs) : w.drew.ownsRow base e size v n xs := h
theorem ch_app {W w6 : World} {o : Obj} {g : Nat} (h : Ch (W.drew.alloc o).heap.size (Row (some ⟨g, 0, none⟩)) (W.drew.alloc o) w6) : Ch W.heap.size (· = g) W w6 :=
  (((Ch.refl W.heap.size (· = g) W).drew).alloc (by simp) o).step h (by simp) (fun q _ e => by simp [Row] at e; exact e.symm)
theorem text_ones : ∀ (l : List ByteArray), ∀ u ∈ l.flatMap textCells, u.oneCell' = true := fun l u hu => by
  obtain ⟨x, _, hx⟩ := List.mem_flatMap.1 hu
  simp only [textCells, List.mem_singleton] at hx
  subst hx
  rfl
/-- The walk stands at the function's end (and does not look at what is returned). -/
theorem stop_ret {P : Program} {F : Func} {Q : Ending → World → Prop} {a : Act} {W : World} (h : Hid (bodyPost P F Q Exit.ret a W)) : bodyPost P F Q Exit.ret a W := h.out
/-- On from a world of which so much is known. -/
theorem at_world {Q : Exit → Act → World → Prop} {e : Exit} {a : Act} {W : World} (A : World → Prop) (hA : A W) (h : ∀ W', A W' → Q e a W') : Q e a W := h W hA
def BentPost (M : Nat → Prop) (K : Nat) (w0 : World) (e : Ending) (w' : World) : Prop := ∃ cnt B c ms, e = .returned (.agg #[.int .i64 cnt, .slice B ms.length c]) ∧ Below w0.heap.size w0 w' ∧ PfM M K w' B c ms


theorem LSt.done {M : Nat → Prop} {K : Nat} {w0 : World} {g cp : Nat} {ps : List Pm} {wr : World} (h : LSt M K w0 g cp ps wr) (hm : ∀ q, M q → q < w0.heap.size) (hl : ps.length ≤ K) (cnt : Int) (x y : Value) :
    BentPost M K w0 (.returned (.agg #[.int .i64 cnt, .slice (some ⟨g, 0, none⟩) ps.length cp])) ((wr.setCell ⟨w0.heap.size + 1 + 1, 0, none⟩ x).setCell ⟨w0.heap.size + 1 + 1, 1, none⟩ y) := by
  have h2 := (h.set (R := w0.heap.size + 1 + 1) (i := 0) (by omega) (by omega) x).set (R := w0.heap.size + 1 + 1) (i := 1) (by omega) (by omega) y
  exact ⟨cnt, _, cp, ps, rfl, h2.b, h2.pf hm hl⟩

set_option maxHeartbeats 4000000 in
set_option maxRecDepth 100000 in
theorem bent0_calls (M : Nat → Prop) (K : Nat) (cnt : Int) (A : Option Addr) (c : Nat) (wh ii nn : Int) (tx : ByteArray) (w : World) (hm : ∀ q, M q → q < w.heap.size) (hw : -9223372036854775808 ≤ wh ∧ wh ≤ 9223372036854775807) (hn : -9223372036854775808 ≤ nn ∧ nn ≤ 9223372036854775807) :
    Calls Try.prog 46 #[.agg #[.int .i64 cnt, .slice A 0 c], .agg #[.int .i64 wh, .int .i64 ii, .int .i64 nn, .string tx]] w (BentPost M K w) := by
  have b1 := (Below.refl w.heap.size w).alloc (Nat.le_refl _) (.cells #[.int .i64 cnt, .slice A 0 c] 35)
  have b2 := b1.alloc (by simp) (.cells #[.int .i64 wh, .int .i64 ii, .int .i64 nn, .string tx] 49)
  have b3 := b2.alloc (by simp; omega) (.cells #[.int .i64 0, .slice none 0 0] 35)
  have HB3 := Lib.hid b3
  have x1 := ((Box.new w #[.int .i64 cnt, .slice A 0 c] 35).alloc (.cells #[.int .i64 wh, .int .i64 ii, .int .i64 nn, .string tx] 49)).alloc (.cells #[.int .i64 0, .slice none 0 0] 35)
  have x2 := (Box.new (w.alloc (.cells #[.int .i64 cnt, .slice A 0 c] 35)) #[.int .i64 wh, .int .i64 ii, .int .i64 nn, .string tx] 49).alloc (.cells #[.int .i64 0, .slice none 0 0] 35)
  have x3 := Box.new ((w.alloc (.cells #[.int .i64 cnt, .slice A 0 c] 35)).alloc (.cells #[.int .i64 wh, .int .i64 ii, .int .i64 nn, .string tx] 49)) #[.int .i64 0, .slice none 0 0] 35
  simp only [World.size_alloc] at x1 x2 x3
  have HX1 := Lib.hid x1
  have HX2 := Lib.hid x2
  have HX3 := Lib.hid x3
  clear b1 b2 b3 x1 x2 x3
  obtain ⟨p0, p1, _⟩ := HX1.out.facts2
  obtain ⟨q0, q1, q2, q3, _⟩ := HX2.out.facts4
  have HAR := Lib.hid (fun w => around4_calls wh 10 w (by decide) (by decide) hw.1 hw.2)
  have HAN := Lib.hid (fun w => around4_calls nn 300 w (by decide) (by decide) hn.1 hn.2)
  go_enter Try.func46, Try.ntmps46
  go_wp2_with (at_builtin; refine app_rowO rfl (.tmp 10) (.tmp 12) 33 rfl (w.heap.size + 3) 179 _ 4 64 info_pm Try.underlying33 rfl (by decide) none 0 0 [] rfl ⟨rfl, .inl ⟨rfl, rfl⟩⟩ A 0 c [] rfl rfl (fun j u hj => by simp at hj) (fun u hu => by cases hu) ?hb1 ?hb2 ?hb3 ?_; (case hb1 => omega); (case hb2 => omega); (case hb3 => simp); intro A' c' wl ho hc hA; have HO := Lib.hid ho; have HC := Lib.hid hc; have HX1' := Lib.hid (HX1.out.ch hc HX1.out.lt (fun h => (by cases h))); have HX2' := Lib.hid (HX2.out.ch hc HX2.out.lt (fun h => (by cases h))); have HX3' := Lib.hid (HX3.out.ch hc HX3.out.lt (fun h => (by cases h))); clear ho hc hA p0 p1 q0 q1 q2 q3; obtain ⟨p0, p1, f0, f1⟩ := HX1'.out.facts2; obtain ⟨q0, q1, q2, q3, _⟩ := HX2'.out.facts4)
  have ho := HO.out
  simp only [List.nil_append, Nat.zero_add] at ho
  have hbl : Below w.heap.size w wl := HB3.out.trans ((HC.out.mono (B' := w.heap.size) (S' := fun _ => False) (by simp; omega) (fun i hi h => by cases h)).below (fun _ _ h => h))
  have HBL := Lib.hid hbl
  clear hbl ho
  refine (HAR.out _).mono ?_
  rintro e wx ⟨r6, rfl, hr6, hwx⟩
  subst hwx
  have hend : ∀ (cnt' : Int) (wr : World) (x y : Value), Below w.heap.size w wr → BentPost M K w (.returned (.agg #[.int .i64 cnt', .slice A' 0 c'])) ((wr.setCell ⟨w.heap.size + 1 + 1, 0, none⟩ x).setCell ⟨w.heap.size + 1 + 1, 1, none⟩ y) := fun cnt' wr x y hb =>
    ⟨cnt', A', c', [], rfl, (hb.setCell (p := ⟨w.heap.size + 1 + 1, 0, none⟩) (by simp only; omega) x).setCell (p := ⟨w.heap.size + 1 + 1, 1, none⟩) (by simp only; omega) y, ⟨⟨⟨by simp, by simp, fun j u hj => (by simp at hj)⟩, fun x hx => (by cases hx)⟩, fun h => absurd h (by simp), fun x hx => (by cases hx), by simp⟩⟩
  have HEND := Lib.hid hend
  clear hend
  have HX1s := HX1'.out.set 1 (.slice A' 0 c')
  have HX2s := HX2'.out.other (a := ⟨w.heap.size, 1, none⟩) (by simp only; omega) (.slice A' 0 c')
  have HX3s := HX3'.out.other (a := ⟨w.heap.size, 1, none⟩) (by simp only; omega) (.slice A' 0 c')
  have HBs := HBL.out.setCell (p := ⟨w.heap.size, 1, none⟩) (Nat.le_refl _) (.slice A' 0 c')
  clear p0 p1 f0 f1 q0 q1 q2 q3 HX1' HX2' HX3' HX1 HX2 HX3 HAR HC HO HB3 HBL
  generalize wl.setCell ⟨w.heap.size, 1, none⟩ (.slice A' 0 c') = wz at *
  have H1 := Lib.hid (show Box wz w.heap.size #[.int .i64 cnt, .slice A' 0 c'] 35 from HX1s)
  have H2 := Lib.hid HX2s
  have H3 := Lib.hid HX3s
  have HB := Lib.hid HBs
  clear HX1s HX2s HX3s HBs
  obtain ⟨p0, p1, f0, f1⟩ := H1.out.facts2
  obtain ⟨q0, q1, q2, q3, _⟩ := H2.out.facts4
  obtain ⟨_, _, g0, g1⟩ := H3.out.facts2
  rcases Nat.eq_zero_or_pos r6 with rfl | h6
  · go_wp2_with (first | (go_at_call 109; refine (HAN.out _).mono ?_; rintro e wx ⟨r7, rfl, hr7, hwx⟩; subst hwx))
    have hb3 := box_fill2 (H3.out.other (a := ⟨w.heap.size, 0, none⟩) (by simp only; omega) (.int .i64 r7)) (x := .int .i64 (r7 : Int)) (y := .slice A' 0 c')
    obtain ⟨d0, d1, _⟩ := hb3.facts2
    exact bodyPost_ret (v := .agg #[.int .i64 (r7 : Int), .slice A' 0 c']) (by simp [results, Try.results46, go_sem, d0, d1]) rfl (HEND.out _ _ _ _ (HB.out.setCell (p := ⟨w.heap.size, 0, none⟩) (Nat.le_refl _) _))
  · have hd : ((r6 : Int) == 0) = false := by rw [beq_eq_false_iff_ne]; omega
    go_wp2_with fail
    have hb3 := box_fill2 H3.out (x := .int .i64 cnt) (y := .slice A' 0 c')
    obtain ⟨d0, d1, _⟩ := hb3.facts2
    exact bodyPost_ret (v := .agg #[.int .i64 cnt, .slice A' 0 c']) (by simp [results, Try.results46, go_sem, d0, d1]) rfl (HEND.out _ _ _ _ HB.out)

theorem own_some {w : World} {base n : Nat} {e : TypeId} {size : Nat} {A : Option Addr} {c : Nat} {xs : List Value} (h : w.ownsRow base e size (.slice A n c) n xs) (hn : 0 < n) : ∃ g, A = some ⟨g, 0, none⟩ := by
  rcases h.2 with ⟨_, h0⟩ | ⟨g, cap, cur, hv, _⟩
  · omega
  · exact ⟨g, (show A = some ⟨g, 0, none⟩ ∧ c = cap by simpa using hv).1⟩
theorem text_at {w : World} {base g c : Nat} {T : TypeId} {l : List ByteArray} (h : w.ownsRow base T 1 (.slice (some ⟨g, 0, none⟩) l.length c) l.length (l.flatMap textCells)) {k : Nat} (hk : k < l.length) : w.cell? ⟨g, k, none⟩ = some (.string l[k]) := by
  rw [h.cellAt k (by omega), text_cells, List.getElem?_map, List.getElem?_eq_getElem hk]
  rfl
end Go.Proofs.Ytfgpchffkpomoaa
