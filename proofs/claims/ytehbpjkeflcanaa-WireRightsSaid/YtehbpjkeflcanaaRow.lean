/- Arguments, opened: a message, a list of messages, a body. -/
import Derived.Test.YtehbpjkeflcanaaBody
import Derived.ProofKit
import Derived.Deep.Slices
import Derived.Deep.Fields
namespace Go.Proofs.Ytehbpjkeflcanaa
open Go.ChangeShapes Go.WideShapes Go.RowKit

theorem laidOut : laidOutB Try.prog = true := by kernel_rfl
theorem ownGodebug : ownKnob Try.prog.godebug = none := by kernel_rfl

theorem list_of {α : Type} (Q : Nat → α → Prop) : ∀ n, (∀ i, i < n → ∃ x, Q i x) → ∃ l : List α, l.length = n ∧ ∀ i (hi : i < l.length), Q i l[i]
  | 0, _ => ⟨[], rfl, fun i hi => by simp at hi⟩
  | n + 1, h => by
    obtain ⟨l, hl, hq⟩ := list_of Q n (fun i hi => h i (by omega))
    obtain ⟨x, hx⟩ := h n (by omega)
    refine ⟨l ++ [x], by simp [hl], fun i hi => ?_⟩
    by_cases hlt : i < l.length
    · rw [List.getElem_append_left hlt]; exact hq i hlt
    · have : i = n := by simp at hi; omega
      subst this
      rw [List.getElem_append_right (by omega)]
      simpa [hl] using hx

section
variable {H : Type} {enc : TypeId × Value → H} {P : Program} {w : World} {base : Nat} {spare : Nat → Bool} {held : Bool}
/-- What each field of a struct of one-cell fields reads as. -/
theorem fields_of {t : TypeId} {fs : Array Field} {fuel : Nat} {cs : List Value} {x : DataW H × List MemPlace} (ht : P.underlying t = some (.struct fs)) (hone : Go.Deep.oneCellFields P fs = true)
    (h : DataW.trod enc P w base spare held fuel t cs = some x) : ∃ n, ∀ (j : Nat) (f : Field), fs[j]? = some f → ∀ v, cs[j]? = some v → ∃ y, DataW.trod enc P w base spare held n f.type [v] = some y := by
  obtain ⟨ys, n, _, _, _, hl, hf⟩ := DataW.trod_struct ht h
  refine ⟨n, fun j f hj v hv => ?_⟩
  obtain ⟨ho, hk⟩ := Go.Deep.hone_of hone j f hj
  have hjl : j < fs.size := (Array.getElem?_eq_some_iff.1 hj).1
  have h1 := hf j f hj
  obtain ⟨hc, rfl⟩ := List.getElem?_eq_some_iff.1 hv
  rw [ho, hk, List.drop_eq_getElem_cons hc] at h1
  exact ⟨ys[j]'(by omega), h1.trans (List.getElem?_eq_getElem _)⟩
end

section
variable {H : Type} {enc : TypeId × Value → H} {w : World} {base : Nat} {spare : Nat → Bool} {held : Bool}
theorem one_int {t : TypeId} {fuel : Nat} {v : Value} {y : DataW H × List MemPlace} (ht : Try.prog.underlying t = some (.int .i64)) (h : DataW.trod enc Try.prog w base spare held fuel t [v] = some y) : ∃ n : Int, v = .int .i64 n ∧ -9223372036854775808 ≤ n ∧ n ≤ 9223372036854775807 := by
  obtain ⟨n, hv, _, hw⟩ := DataW.trod_int ht h
  simp only [List.cons.injEq, and_true] at hv
  refine ⟨n, hv, ?_⟩
  have hw : (decide (IntKind.i64.min ≤ n) && decide (n ≤ IntKind.i64.max)) = true := hw
  rw [show IntKind.i64.min = -9223372036854775808 by decide, show IntKind.i64.max = 9223372036854775807 by decide] at hw
  simpa using hw
theorem one_text {t : TypeId} {fuel : Nat} {v : Value} {y : DataW H × List MemPlace} (ht : Try.prog.underlying t = some .string) (h : DataW.trod enc Try.prog w base spare held fuel t [v] = some y) : ∃ s : ByteArray, v = .string s ∧ s.size ≤ maxLen := by
  obtain ⟨n, hv, _, hw⟩ := DataW.trod_string ht h
  simp only [List.cons.injEq, and_true] at hv
  exact ⟨n, hv, hw⟩

structure Sg.Ok (m : Sg) : Prop where
  lo : -9223372036854775808 ≤ m.who
  hi : m.who ≤ 9223372036854775807
  body : m.body.size ≤ maxLen
  sig : m.sig.size ≤ maxLen

theorem open_sg {fuel : Nat} {cs : List Value} {x : DataW H × List MemPlace} (h : DataW.trod enc Try.prog w base spare held fuel 36 cs = some x) (hl : cs.length = 3) : ∃ m : Sg, cs = m.cells ∧ m.Ok := by
  obtain ⟨n, hf⟩ := fields_of Try.underlying36 (by kernel_rfl) h
  match cs, hl with
  | [a, b, c], _ =>
    obtain ⟨y0, h0⟩ := hf 0 _ rfl a rfl
    obtain ⟨y1, h1⟩ := hf 1 _ rfl b rfl
    obtain ⟨y2, h2⟩ := hf 2 _ rfl c rfl
    obtain ⟨n, rfl, a1, a2⟩ := one_int Try.underlying3 h0
    obtain ⟨s, rfl, b1⟩ := one_text Try.underlying9 h1
    obtain ⟨t, rfl, c1⟩ := one_text Try.underlying9 h2
    exact ⟨⟨n, s, t⟩, rfl, ⟨a1, a2, b1, c1⟩⟩

theorem at_flat {α : Type} (f : α → List Value) (sz : Nat) (hsz : 0 < sz) (hf : ∀ x, (f x).length = sz) {l : List α} {w : World} {a : Addr}
    (h : ∀ i (hi : i < l.length), ∀ j, j < sz → w.cell? (a.add (i * sz + j)) = (f l[i])[j]?) : ∀ j u, (l.flatMap f)[j]? = some u → ∃ b, some a = some b ∧ w.cell? (b.add j) = some u := by
  intro j u hj
  have hlt : j < (l.flatMap f).length := (List.getElem?_eq_some_iff.1 hj).1
  rw [flat_len f sz hf] at hlt
  have hk : j / sz < l.length := Nat.div_lt_of_lt_mul (by rw [Nat.mul_comm]; exact hlt)
  have hr := Nat.mod_lt j hsz
  have e : j / sz * sz + j % sz = j := by rw [Nat.mul_comm]; exact Nat.div_add_mod j sz
  have h1 := h (j / sz) hk (j % sz) hr
  rw [e] at h1
  refine ⟨a, rfl, h1.trans ?_⟩
  rw [← flat_get f sz hf l (j / sz) (j % sz) hk hr, e, hj]

theorem open_sgs {fuel : Nat} {v : Value} {x : DataW H × List MemPlace} (h : DataW.trod enc Try.prog w base spare held fuel 22 [v] = some x) :
    ∃ A c l, v = .slice A l.length c ∧ SgS w A c l ∧ ∀ m ∈ l, m.Ok := by
  rcases Go.Deep.open_slice Try.underlying22 h with ⟨hv, _⟩ | ⟨a, len, cap, m, n, D, Pl, hv, _, hl, hm, hmm, _, hi⟩
  · simp only [List.cons.injEq, and_true] at hv
    exact ⟨none, 0, [], hv, ⟨rfl, by simp, fun j u hj => by simp at hj⟩, fun m hm => by simp at hm⟩
  · simp only [List.cons.injEq, and_true] at hv
    have hC : Try.prog.cellsOf 36 = 3 := by kernel_rfl
    rw [hC] at hi
    have hlm : len ≤ m := by rw [hmm]; split <;> omega
    obtain ⟨l, hll, hq⟩ := list_of (fun i (g : Sg) => (∀ j, j < 3 → w.cell? (a.add (i * 3 + j)) = g.cells[j]?) ∧ g.Ok) len (fun i hil => by
      obtain ⟨cs, hc, ht⟩ := hi i (by omega)
      obtain ⟨_, hcl, hat⟩ := World.cells?_some hc
      obtain ⟨g, rfl, hok⟩ := open_sg ht hcl
      exact ⟨g, fun j hj => by rw [← Go.Deep.add_add]; exact hat j hj, hok⟩)
    refine ⟨some a, cap, l, by rw [hll]; exact hv, ⟨by rw [flat_len Sg.cells 3 Sg.cells_len], ?_, at_flat Sg.cells 3 (by decide) Sg.cells_len (fun i hi => (hq i hi).1)⟩, fun m hm => ?_⟩
    · simp only [maxLen] at hm; omega
    · obtain ⟨i, hi, rfl⟩ := List.getElem_of_mem hm
      exact (hq i hi).2

structure Bd.Ok (b : Bd) : Prop where
  kind : -9223372036854775808 ≤ b.kind ∧ b.kind ≤ 9223372036854775807
  view : -9223372036854775808 ≤ b.view ∧ b.view ≤ 9223372036854775807
  seq : -9223372036854775808 ≤ b.seq ∧ b.seq ≤ 9223372036854775807
  client : -9223372036854775808 ≤ b.client ∧ b.client ≤ 9223372036854775807
  stamp : -9223372036854775808 ≤ b.stamp ∧ b.stamp ≤ 9223372036854775807
  digest : b.digest.size ≤ maxLen
  text : b.text.size ≤ maxLen
  list : ∀ m ∈ b.list, m.Ok

set_option maxRecDepth 100000 in
theorem open_body {r : Reach} {b0 : Nat} {v : Value} {d : DataW H} {p : List MemPlace} (hv : Value.okWide Try.prog w r b0 24 v) (h : DataW.Trod enc Try.prog w base spare held 24 v d p) :
    ∃ b A c, v = Bd.val b A c ∧ SgS w A c b.list ∧ b.Ok := by
  obtain ⟨cs, rfl, hsz⟩ := okWide_struct Try.underlying24 hv
  rw [show Try.prog.cellsOf 24 = 8 by kernel_rfl] at hsz
  obtain ⟨fuel, hf⟩ := h
  obtain ⟨l⟩ := cs
  match l, hsz with
  | [c0, c1, c2, c3, c4, c5, c6, c7], _ =>
    obtain ⟨n, hg⟩ := fields_of Try.underlying24 (by kernel_rfl) hf
    obtain ⟨y0, h0⟩ := hg 0 _ rfl c0 rfl
    obtain ⟨y1, h1⟩ := hg 1 _ rfl c1 rfl
    obtain ⟨y2, h2⟩ := hg 2 _ rfl c2 rfl
    obtain ⟨y3, h3⟩ := hg 3 _ rfl c3 rfl
    obtain ⟨y4, h4⟩ := hg 4 _ rfl c4 rfl
    obtain ⟨y5, h5⟩ := hg 5 _ rfl c5 rfl
    obtain ⟨y6, h6⟩ := hg 6 _ rfl c6 rfl
    obtain ⟨y7, h7⟩ := hg 7 _ rfl c7 rfl
    obtain ⟨n0, rfl, a0⟩ := one_int Try.underlying3 h0
    obtain ⟨n1, rfl, a1⟩ := one_int Try.underlying3 h1
    obtain ⟨n2, rfl, a2⟩ := one_int Try.underlying3 h2
    obtain ⟨n3, rfl, a3⟩ := one_int Try.underlying3 h3
    obtain ⟨n4, rfl, a4⟩ := one_int Try.underlying3 h4
    obtain ⟨s5, rfl, a5⟩ := one_text Try.underlying9 h5
    obtain ⟨s6, rfl, a6⟩ := one_text Try.underlying9 h6
    obtain ⟨A, c, l, rfl, hs, hl⟩ := open_sgs h7
    exact ⟨⟨n0, n1, n2, n3, n4, s5, s6, l⟩, A, c, rfl, hs, ⟨a0, a1, a2, a3, a4, a5, a6, hl⟩⟩
end

/-- An argument reads as it did, where nothing old was written. -/
theorem reads_again {H : Type} {enc : TypeId × Value → H} {t : TypeId} (hr : Try.prog.readableRec t = true) (hrow : t < Try.prog.types.size) {W W' : World} {v : Value} {d : DataW H} {ps : List MemPlace} {sp : Nat → Bool}
    (h : DataW.Trod enc Try.prog W 0 (fun _ => true) true t v d ps) (hb : Below W.heap.size W W') (hlt : ∀ x ∈ ps, x.block < W.heap.size) (hsp : ∀ x ∈ ps, sp x.block = true) : DataW.Trod enc Try.prog W' 0 sp true t v d ps :=
  Go.WideElems.Trod_stays laidOut hr hrow h (fun x hx => hb.same (hlt x hx)) hsp
end Go.Proofs.Ytehbpjkeflcanaa
