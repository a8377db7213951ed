/- Arguments, opened: a message, a list of messages, a body. -/
import Derived.Test.YtehbpjkeflcanaaBody
import Derived.ProofKit
import Derived.Deep.Slices
import Derived.Deep.Fields
import Derived.SizedLaws
namespace Go.Proofs.Ytehbpjkeflcanaa
set_option linter.unusedSimpArgs false
set_option linter.unusedVariables false
open Go.ChangeShapes Go.WideShapes Go.RowKit

theorem laidOut : laidOutB Try.prog = true := by kernel_rfl
theorem ownGodebug : ownKnob Try.prog.godebug = none := by kernel_rfl

theorem list_of {α : Type} (Q : Nat → α → Prop) : ∀ n, (∀ i, i < n → ∃ x, Q i x) → ∃ l : List α, l.length = n ∧ ∀ i (hi : i < l.length), Q i l[i]
  | 0, _ => ⟨[], rfl, fun i hi => by simp at hi⟩
  | n + 1, h => by
    obtain ⟨l, hl, hq⟩ := list_of Q n (fun i hi => h i (by omega))
    obtain ⟨x, hx⟩ := h n (by omega)
    refine ⟨l ++ [x], by simp [hl], fun i hi => ?_⟩
    by_cases hlt : i < l.length
    · rw [List.getElem_append_left hlt]; exact hq i hlt
    · have : i = n := by simp at hi; omega
      subst this
      rw [List.getElem_append_right (by omega)]
      simpa [hl] using hx

/-- No text or list in it takes more than a process can hold. -/
def Wt {H : Type} (P : Program) (t : TypeId) (d : DataW H) : Prop := ∀ n ∈ d.weights P t, n ≤ reachBytes

section
variable {H : Type} {enc : TypeId × Value → H} {P : Program} {w : World} {base : Nat} {spare : Nat → Bool} {held : Bool}
theorem Wt.each {ts : List TypeId} {ds : List (DataW H)} (h : ∀ n ∈ DataW.weightsEach P ts ds, n ≤ reachBytes) {j : Nat} {t : TypeId} {d : DataW H} (ht : ts[j]? = some t) (hd : ds[j]? = some d) : Wt P t d :=
  fun n hn => h n (DataW.weights_mem_each ht hd n hn)
theorem Wt.all {t : TypeId} : ∀ {ds : List (DataW H)}, (∀ n ∈ DataW.weightsAll P t ds, n ≤ reachBytes) → ∀ d ∈ ds, Wt P t d
  | [], _, d, hd => by simp at hd
  | e :: ds, h, d, hd => by
    simp only [DataW.weightsAll, List.mem_append] at h
    rcases List.mem_cons.1 hd with rfl | hd
    · exact fun n hn => h n (.inl hn)
    · exact Wt.all (fun n hn => h n (.inr hn)) d hd

/-- What each field of a struct of one-cell fields reads as. -/
theorem fields_of {t : TypeId} {fs : Array Field} {fuel : Nat} {cs : List Value} {x : DataW H × List MemPlace} (ht : P.underlying t = some (.struct fs)) (hone : Go.Deep.oneCellFields P fs = true)
    (h : DataW.trod enc P w base spare held fuel t cs = some x) (hw : Wt P t x.1) : ∃ n, ∀ (j : Nat) (f : Field), fs[j]? = some f → ∀ v, cs[j]? = some v → ∃ y, DataW.trod enc P w base spare held n f.type [v] = some y ∧ Wt P f.type y.1 := by
  obtain ⟨ys, n, _, hx, _, hl, hf⟩ := DataW.trod_struct ht h
  refine ⟨n, fun j f hj v hv => ?_⟩
  obtain ⟨ho, hk⟩ := Go.Deep.hone_of hone j f hj
  have hjl : j < fs.size := (Array.getElem?_eq_some_iff.1 hj).1
  have h1 := hf j f hj
  obtain ⟨hc, rfl⟩ := List.getElem?_eq_some_iff.1 hv
  rw [ho, hk, List.drop_eq_getElem_cons hc] at h1
  refine ⟨ys[j]'(by omega), h1.trans (List.getElem?_eq_getElem _), ?_⟩
  subst hx
  unfold Wt at hw
  simp only [DataW.weights, ht] at hw
  exact Wt.each (j := j) hw (by simpa using ⟨f, hj, rfl⟩) (by rw [List.getElem?_map, List.getElem?_eq_getElem (by omega)]; rfl)
theorem slice_weights {t e : TypeId} {xs ys : List (DataW H)} (ht : P.underlying t = some (.slice e)) (hw : Wt P t (.slice xs ys)) : (xs.length + ys.length) * P.bytesOf e ≤ reachBytes ∧ ∀ d ∈ xs, Wt P e d := by
  unfold Wt at hw
  simp only [DataW.weights, ht] at hw
  exact ⟨hw _ (by simp), Wt.all fun n hn => hw n (by simp [hn])⟩
end

section
variable {H : Type} {enc : TypeId × Value → H} {w : World} {base : Nat} {spare : Nat → Bool} {held : Bool}
theorem one_int {t : TypeId} {fuel : Nat} {v : Value} {y : DataW H × List MemPlace} (ht : Try.prog.underlying t = some (.int .i64)) (h : DataW.trod enc Try.prog w base spare held fuel t [v] = some y) : ∃ n : Int, v = .int .i64 n ∧ -9223372036854775808 ≤ n ∧ n ≤ 9223372036854775807 := by
  obtain ⟨n, hv, _, hw⟩ := DataW.trod_int ht h
  simp only [List.cons.injEq, and_true] at hv
  refine ⟨n, hv, ?_⟩
  have hw : (decide (IntKind.i64.min ≤ n) && decide (n ≤ IntKind.i64.max)) = true := hw
  rw [show IntKind.i64.min = -9223372036854775808 by decide, show IntKind.i64.max = 9223372036854775807 by decide] at hw
  simpa using hw
theorem one_text {t : TypeId} {fuel : Nat} {v : Value} {y : DataW H × List MemPlace} (ht : Try.prog.underlying t = some .string) (h : DataW.trod enc Try.prog w base spare held fuel t [v] = some y) (hy : Wt Try.prog t y.1) : ∃ s : ByteArray, v = .string s ∧ s.size ≤ 140737488351232 := by
  obtain ⟨n, hv, rfl, hw⟩ := DataW.trod_string ht h
  simp only [List.cons.injEq, and_true] at hv
  exact ⟨n, hv, by have h := hy n.data.toList.length (by simp [DataW.weights]); rw [show reachBytes = 140737488351232 from rfl] at h; simpa using h⟩

structure Sg.Ok (m : Sg) : Prop where
  lo : -9223372036854775808 ≤ m.who
  hi : m.who ≤ 9223372036854775807
  body : m.body.size ≤ 140737488351232
  sig : m.sig.size ≤ 140737488351232

theorem open_sg {fuel : Nat} {cs : List Value} {x : DataW H × List MemPlace} (h : DataW.trod enc Try.prog w base spare held fuel 36 cs = some x) (hw : Wt Try.prog 36 x.1) (hl : cs.length = 3) : ∃ m : Sg, cs = m.cells ∧ m.Ok := by
  obtain ⟨n, hf⟩ := fields_of Try.underlying36 (by kernel_rfl) h hw
  match cs, hl with
  | [a, b, c], _ =>
    obtain ⟨y0, h0, w0⟩ := hf 0 _ rfl a rfl
    obtain ⟨y1, h1, w1⟩ := hf 1 _ rfl b rfl
    obtain ⟨y2, h2, w2⟩ := hf 2 _ rfl c rfl
    obtain ⟨n, rfl, a1, a2⟩ := one_int Try.underlying3 h0
    obtain ⟨s, rfl, b1⟩ := one_text Try.underlying9 h1 w1
    obtain ⟨t, rfl, c1⟩ := one_text Try.underlying9 h2 w2
    exact ⟨⟨n, s, t⟩, rfl, ⟨a1, a2, b1, c1⟩⟩

theorem at_flat {α : Type} (f : α → List Value) (sz : Nat) (hsz : 0 < sz) (hf : ∀ x, (f x).length = sz) {l : List α} {w : World} {a : Addr}
    (h : ∀ i (hi : i < l.length), ∀ j, j < sz → w.cell? (a.add (i * sz + j)) = (f l[i])[j]?) : ∀ j u, (l.flatMap f)[j]? = some u → ∃ b, some a = some b ∧ w.cell? (b.add j) = some u := by
  intro j u hj
  have hlt : j < (l.flatMap f).length := (List.getElem?_eq_some_iff.1 hj).1
  rw [flat_len f sz hf] at hlt
  have hk : j / sz < l.length := Nat.div_lt_of_lt_mul (by rw [Nat.mul_comm]; exact hlt)
  have hr := Nat.mod_lt j hsz
  have e : j / sz * sz + j % sz = j := by rw [Nat.mul_comm]; exact Nat.div_add_mod j sz
  have h1 := h (j / sz) hk (j % sz) hr
  rw [e] at h1
  refine ⟨a, rfl, h1.trans ?_⟩
  rw [← flat_get f sz hf l (j / sz) (j % sz) hk hr, e, hj]

/-- A slice, its elements of sz cells each, opened. -/
theorem open_row {α : Type} {t e : TypeId} {fuel : Nat} {v : Value} {x : DataW H × List MemPlace} (f : α → List Value) (sz bytes : Nat) (Q : α → Prop) (hsz : 0 < sz) (hb : 0 < bytes) (hf : ∀ x, (f x).length = sz)
    (ht : Try.prog.underlying t = some (.slice e)) (hC : Try.prog.cellsOf e = sz) (hB : Try.prog.bytesOf e = bytes)
    (ho : ∀ (n : Nat) (cs : List Value) (y : DataW H × List MemPlace), DataW.trod enc Try.prog w base spare held n e cs = some y → Wt Try.prog e y.1 → cs.length = sz → ∃ m : α, cs = f m ∧ Q m)
    (h : DataW.trod enc Try.prog w base spare held fuel t [v] = some x) (hw : Wt Try.prog t x.1) :
    ∃ (A : Option Addr) (c : Nat) (l : List α), v = .slice A l.length c ∧ Sl w sz A l.length c (l.flatMap f) ∧ (∀ m ∈ l, Q m) ∧ l.length * bytes ≤ 140737488351232 := by
  rcases Go.Deep.open_slice ht h with ⟨hv, _⟩ | ⟨a, len, cap, m, n, D, Pl, hv, _, hl, hm, hmm, rfl, hi⟩
  · simp only [List.cons.injEq, and_true] at hv
    exact ⟨none, 0, [], hv, ⟨by simp, by simp, fun j u hj => by simp at hj⟩, fun m hm => by simp at hm, by simp⟩
  · simp only [List.cons.injEq, and_true] at hv
    obtain ⟨hw1, hw2⟩ := slice_weights ht hw
    rw [hC] at hi
    rw [hB] at hw1
    have hlm : len ≤ m := by rw [hmm]; split <;> omega
    obtain ⟨l, hll, hq⟩ := list_of (fun i (g : α) => (∀ j, j < sz → w.cell? (a.add (i * sz + j)) = (f g)[j]?) ∧ Q g) len (fun i hil => by
      obtain ⟨cs, hc, ht⟩ := hi i (by omega)
      obtain ⟨_, hcl, hat⟩ := World.cells?_some hc
      obtain ⟨g, rfl, hok⟩ := ho _ _ _ ht (hw2 (D i) (List.mem_map.2 ⟨i, List.mem_range.2 hil, rfl⟩)) hcl
      exact ⟨g, fun j hj => by rw [← Go.Deep.add_add]; exact hat j hj, hok⟩)
    refine ⟨some a, cap, l, by rw [hll]; exact hv, ⟨flat_len f sz hf l, ?_, at_flat f sz hsz hf (fun i hi => (hq i hi).1)⟩, fun m hm => ?_, ?_⟩
    · simp only [maxLen] at hm; omega
    · obtain ⟨i, hi, rfl⟩ := List.getElem_of_mem hm
      exact (hq i hi).2
    · simp only [List.length_map, List.length_range] at hw1
      refine Nat.le_trans ?_ hw1
      rw [hll]
      exact Nat.mul_le_mul_right _ (by omega)

theorem open_sgs {fuel : Nat} {v : Value} {x : DataW H × List MemPlace} (h : DataW.trod enc Try.prog w base spare held fuel 22 [v] = some x) (hw : Wt Try.prog 22 x.1) :
    ∃ A c l, v = .slice A l.length c ∧ SgS w A c l ∧ (∀ m ∈ l, m.Ok) ∧ l.length * 40 ≤ 140737488351232 :=
  open_row Sg.cells 3 40 Sg.Ok (by decide) (by decide) Sg.cells_len Try.underlying22 (by kernel_rfl) (by kernel_rfl) (fun _ _ _ h1 h2 h3 => open_sg h1 h2 h3) h hw

structure Bd.Ok (b : Bd) : Prop where
  kind : -9223372036854775808 ≤ b.kind ∧ b.kind ≤ 9223372036854775807
  view : -9223372036854775808 ≤ b.view ∧ b.view ≤ 9223372036854775807
  seq : -9223372036854775808 ≤ b.seq ∧ b.seq ≤ 9223372036854775807
  client : -9223372036854775808 ≤ b.client ∧ b.client ≤ 9223372036854775807
  stamp : -9223372036854775808 ≤ b.stamp ∧ b.stamp ≤ 9223372036854775807
  digest : b.digest.size ≤ 140737488351232
  text : b.text.size ≤ 140737488351232
  list : ∀ m ∈ b.list, m.Ok
  length : b.list.length * 40 ≤ 140737488351232

set_option maxRecDepth 100000 in
theorem open_body {r : Reach} {b0 : Nat} {v : Value} {d : DataW H} {p : List MemPlace} (hv : Value.okWide Try.prog w r b0 24 v) (h : DataW.Trod enc Try.prog w base spare held 24 v d p) (hw : Wt Try.prog 24 d) :
    ∃ b A c, v = Bd.val b A c ∧ SgS w A c b.list ∧ b.Ok := by
  obtain ⟨cs, rfl, hsz⟩ := okWide_struct Try.underlying24 hv
  rw [show Try.prog.cellsOf 24 = 8 by kernel_rfl] at hsz
  obtain ⟨fuel, hf⟩ := h
  obtain ⟨l⟩ := cs
  match l, hsz with
  | [c0, c1, c2, c3, c4, c5, c6, c7], _ =>
    obtain ⟨n, hg⟩ := fields_of Try.underlying24 (by kernel_rfl) hf hw
    obtain ⟨y0, h0, w0⟩ := hg 0 _ rfl c0 rfl
    obtain ⟨y1, h1, w1⟩ := hg 1 _ rfl c1 rfl
    obtain ⟨y2, h2, w2⟩ := hg 2 _ rfl c2 rfl
    obtain ⟨y3, h3, w3⟩ := hg 3 _ rfl c3 rfl
    obtain ⟨y4, h4, w4⟩ := hg 4 _ rfl c4 rfl
    obtain ⟨y5, h5, w5⟩ := hg 5 _ rfl c5 rfl
    obtain ⟨y6, h6, w6⟩ := hg 6 _ rfl c6 rfl
    obtain ⟨y7, h7, w7⟩ := hg 7 _ rfl c7 rfl
    obtain ⟨n0, rfl, a0⟩ := one_int Try.underlying3 h0
    obtain ⟨n1, rfl, a1⟩ := one_int Try.underlying3 h1
    obtain ⟨n2, rfl, a2⟩ := one_int Try.underlying3 h2
    obtain ⟨n3, rfl, a3⟩ := one_int Try.underlying3 h3
    obtain ⟨n4, rfl, a4⟩ := one_int Try.underlying3 h4
    obtain ⟨s5, rfl, a5⟩ := one_text Try.underlying9 h5 w5
    obtain ⟨s6, rfl, a6⟩ := one_text Try.underlying9 h6 w6
    obtain ⟨A, c, l, rfl, hs, hl, hb⟩ := open_sgs h7 w7
    exact ⟨⟨n0, n1, n2, n3, n4, s5, s6, l⟩, A, c, rfl, hs, ⟨a0, a1, a2, a3, a4, a5, a6, hl, hb⟩⟩

set_option maxRecDepth 100000 in
theorem open_text {r : Reach} {b0 : Nat} {v : Value} {d : DataW H} {p : List MemPlace} (hv : Value.okWide Try.prog w r b0 9 v) (h : DataW.Trod enc Try.prog w base spare held 9 v d p) (hw : Wt Try.prog 9 d) : ∃ s : ByteArray, v = .string s ∧ s.size ≤ 140737488351232 := by
  obtain ⟨s, rfl, rfl, rfl, _⟩ := Go.ChangeMaps.open_string Try.underlying9 hv h
  exact ⟨s, rfl, by have h := hw s.data.toList.length (by simp [DataW.weights]); rw [show reachBytes = 140737488351232 from rfl] at h; simpa using h⟩
set_option maxRecDepth 100000 in
theorem open_int1 {r : Reach} {b0 : Nat} {v : Value} {d : DataW H} {p : List MemPlace} (hv : Value.okWide Try.prog w r b0 3 v) (h : DataW.Trod enc Try.prog w base spare held 3 v d p) (_hw : Wt Try.prog 3 d) : ∃ n : Int, v = .int .i64 n ∧ -9223372036854775808 ≤ n ∧ n ≤ 9223372036854775807 := by
  obtain ⟨n, rfl, _, _, _⟩ := open_int Try.underlying3 hv h
  obtain ⟨fuel, hf⟩ := h
  obtain ⟨m, he, hm⟩ := one_int Try.underlying3 hf
  obtain rfl : n = m := by simpa using he
  exact ⟨n, rfl, hm⟩
set_option maxRecDepth 100000 in
theorem open_sg1 {r : Reach} {b0 : Nat} {v : Value} {d : DataW H} {p : List MemPlace} (hv : Value.okWide Try.prog w r b0 36 v) (h : DataW.Trod enc Try.prog w base spare held 36 v d p) (hw : Wt Try.prog 36 d) : ∃ m : Sg, v = m.val ∧ m.Ok := by
  obtain ⟨cs, rfl, hsz⟩ := okWide_struct Try.underlying36 hv
  rw [show Try.prog.cellsOf 36 = 3 by kernel_rfl] at hsz
  obtain ⟨fuel, hf⟩ := h
  obtain ⟨m, hm, ho⟩ := open_sg hf hw (by simpa [Value.cells] using hsz)
  obtain rfl : cs = m.cells.toArray := by simp only [Value.cells] at hm; rw [← hm]
  exact ⟨m, rfl, ho⟩
set_option maxRecDepth 100000 in
theorem open_sgs1 {r : Reach} {b0 : Nat} {v : Value} {d : DataW H} {p : List MemPlace} (hv : Value.okWide Try.prog w r b0 22 v) (h : DataW.Trod enc Try.prog w base spare held 22 v d p) (hw : Wt Try.prog 22 d) :
    ∃ A c l, v = .slice A l.length c ∧ SgS w A c l ∧ (∀ m ∈ l, m.Ok) ∧ l.length * 40 ≤ 140737488351232 := by
  obtain ⟨a, len, cap, rfl⟩ := okWide_slice Try.underlying22 hv
  obtain ⟨fuel, hf⟩ := h
  exact open_sgs hf hw
end
end Go.Proofs.Ytehbpjkeflcanaa
