/- Texts of this proof, several in one file; each says ahead of it what it proves. -/
import Derived.Test.YtfgpchffkpomoaaPk10
import Derived.Test.YtfgpchffkpomoaaPk03
/- Arguments, opened: lists of texts, of calls and of votes. -/
namespace Go.Proofs.Ytfgpchffkpomoaa
set_option linter.unusedSimpArgs false
set_option linter.unusedVariables false
open Go.ChangeShapes Go.WideShapes Go.RowKit

/-- A list of texts, as a slice. -/
def textCells (s : ByteArray) : List Value := [.string s]
theorem textCells_len (s : ByteArray) : (textCells s).length = 1 := rfl
def TxS (w : World) (A : Option Addr) (c : Nat) (l : List ByteArray) : Prop := Sl w 1 A l.length c (l.flatMap textCells)
theorem TxS.below {w w' : World} {A : Option Addr} {c : Nat} {l : List ByteArray} (h : TxS w A c l) (hb : Below w.heap.size w w') : TxS w' A c l := Sl.below h hb
theorem TxS.elem {w : World} {A : Option Addr} {c : Nat} {l : List ByteArray} (h : TxS w A c l) (k : Nat) (hk : k < l.length) : ∃ a, A = some a ∧ w.cell? (a.add k) = some (.string l[k]) := by
  obtain ⟨a, rfl, h0, _⟩ := Sl.elem h textCells_len k hk (by decide)
  have := h0 _ rfl
  rw [Nat.mul_one] at this
  exact ⟨a, rfl, this⟩
/-- A call of a book's. -/
structure Act3 where
  kind : Int
  who : Int
  text : ByteArray
  sig : ByteArray
def Act3.cells (m : Act3) : List Value := [.int .i64 m.kind, .int .i64 m.who, .string m.text, .string m.sig]
theorem Act3.cells_len (m : Act3) : m.cells.length = 4 := rfl
def A3S (w : World) (A : Option Addr) (c : Nat) (l : List Act3) : Prop := Sl w 4 A l.length c (l.flatMap Act3.cells)
theorem A3S.below {w w' : World} {A : Option Addr} {c : Nat} {l : List Act3} (h : A3S w A c l) (hb : Below w.heap.size w w') : A3S w' A c l := Sl.below h hb
theorem A3S.elem {w : World} {A : Option Addr} {c : Nat} {l : List Act3} (h : A3S w A c l) (k : Nat) (hk : k < l.length) : ∃ a, A = some a ∧ w.cell? (a.add (k * 4)) = some (.int .i64 l[k].kind) ∧
    w.cell? ⟨(a.add (k * 4)).block, (a.add (k * 4)).off + 1, none⟩ = some (.int .i64 l[k].who) ∧ w.cell? ⟨(a.add (k * 4)).block, (a.add (k * 4)).off + 2, none⟩ = some (.string l[k].text) ∧ w.cell? ⟨(a.add (k * 4)).block, (a.add (k * 4)).off + 3, none⟩ = some (.string l[k].sig) := by
  obtain ⟨a, rfl, h0, h1⟩ := Sl.elem h Act3.cells_len k hk (by decide)
  exact ⟨a, rfl, h0 _ rfl, h1 1 _ (by decide) rfl, h1 2 _ (by decide) rfl, h1 3 _ (by decide) rfl⟩
/-- A vote. -/
structure Vt where
  who : Int
  kind : Int
  view : Int
  seq : Int
  spoilt : Int
  digest : ByteArray
def Vt.cells (m : Vt) : List Value := [.int .i64 m.who, .int .i64 m.kind, .int .i64 m.view, .int .i64 m.seq, .int .i64 m.spoilt, .string m.digest]
theorem Vt.cells_len (m : Vt) : m.cells.length = 6 := rfl
def VtS (w : World) (A : Option Addr) (c : Nat) (l : List Vt) : Prop := Sl w 6 A l.length c (l.flatMap Vt.cells)
theorem VtS.below {w w' : World} {A : Option Addr} {c : Nat} {l : List Vt} (h : VtS w A c l) (hb : Below w.heap.size w w') : VtS w' A c l := Sl.below h hb
theorem VtS.elem {w : World} {A : Option Addr} {c : Nat} {l : List Vt} (h : VtS w A c l) (k : Nat) (hk : k < l.length) : ∃ a, A = some a ∧ w.cell? (a.add (k * 6)) = some (.int .i64 l[k].who) ∧
    w.cell? ⟨(a.add (k * 6)).block, (a.add (k * 6)).off + 1, none⟩ = some (.int .i64 l[k].kind) ∧ w.cell? ⟨(a.add (k * 6)).block, (a.add (k * 6)).off + 2, none⟩ = some (.int .i64 l[k].view) ∧ w.cell? ⟨(a.add (k * 6)).block, (a.add (k * 6)).off + 3, none⟩ = some (.int .i64 l[k].seq) ∧
    w.cell? ⟨(a.add (k * 6)).block, (a.add (k * 6)).off + 4, none⟩ = some (.int .i64 l[k].spoilt) ∧ w.cell? ⟨(a.add (k * 6)).block, (a.add (k * 6)).off + 5, none⟩ = some (.string l[k].digest) := by
  obtain ⟨a, rfl, h0, h1⟩ := Sl.elem h Vt.cells_len k hk (by decide)
  exact ⟨a, rfl, h0 _ rfl, h1 1 _ (by decide) rfl, h1 2 _ (by decide) rfl, h1 3 _ (by decide) rfl, h1 4 _ (by decide) rfl, h1 5 _ (by decide) rfl⟩

section
variable {H : Type} {enc : TypeId × Value → H} {w : World} {base : Nat} {spare : Nat → Bool} {held : Bool}
/-- A slice, its elements of sz cells each, opened; and that it is within its capacity. -/
theorem open_rowc {α : Type} {t e : TypeId} {fuel : Nat} {v : Value} {x : DataW H × List MemPlace} (f : α → List Value) (sz bytes : Nat) (Q : α → Prop) (hsz : 0 < sz) (hb : 0 < bytes) (hf : ∀ x, (f x).length = sz)
    (ht : Try.prog.underlying t = some (.slice e)) (hC : Try.prog.cellsOf e = sz) (hB : Try.prog.bytesOf e = bytes)
    (ho : ∀ (n : Nat) (cs : List Value) (y : DataW H × List MemPlace), DataW.trod enc Try.prog w base spare held n e cs = some y → Wt Try.prog e y.1 → cs.length = sz → ∃ m : α, cs = f m ∧ Q m)
    (h : DataW.trod enc Try.prog w base spare held fuel t [v] = some x) (hw : Wt Try.prog t x.1) :
    ∃ (A : Option Addr) (c : Nat) (l : List α), v = .slice A l.length c ∧ Sl w sz A l.length c (l.flatMap f) ∧ (∀ m ∈ l, Q m) ∧ l.length * bytes ≤ 140737488351232 ∧ l.length ≤ c := by
  rcases Go.Deep.open_slice ht h with ⟨hv, _⟩ | ⟨a, len, cap, m, n, D, Pl, hv, _, hl, hm, hmm, rfl, hi⟩
  · simp only [List.cons.injEq, and_true] at hv
    exact ⟨none, 0, [], hv, ⟨by simp, by simp, fun j u hj => by simp at hj⟩, fun m hm => by simp at hm, by simp, by simp⟩
  · simp only [List.cons.injEq, and_true] at hv
    obtain ⟨hw1, hw2⟩ := slice_weights ht hw
    rw [hC] at hi
    rw [hB] at hw1
    have hlm : len ≤ m := by rw [hmm]; split <;> omega
    obtain ⟨l, hll, hq⟩ := list_of (fun i (g : α) => (∀ j, j < sz → w.cell? (a.add (i * sz + j)) = (f g)[j]?) ∧ Q g) len (fun i hil => by
      obtain ⟨cs, hc, ht⟩ := hi i (by omega)
      obtain ⟨_, hcl, hat⟩ := World.cells?_some hc
      obtain ⟨g, rfl, hok⟩ := ho _ _ _ ht (hw2 (D i) (List.mem_map.2 ⟨i, List.mem_range.2 hil, rfl⟩)) hcl
      exact ⟨g, fun j hj => by rw [← Go.Deep.add_add]; exact hat j hj, hok⟩)
    refine ⟨some a, cap, l, by rw [hll]; exact hv, ⟨flat_len f sz hf l, ?_, at_flat f sz hsz hf (fun i hi => (hq i hi).1)⟩, fun m hm => ?_, ?_, by rw [hll]; exact hl⟩
    · simp only [maxLen] at hm; omega
    · obtain ⟨i, hi, rfl⟩ := List.getElem_of_mem hm
      exact (hq i hi).2
    · simp only [List.length_map, List.length_range] at hw1
      refine Nat.le_trans ?_ hw1
      rw [hll]
      exact Nat.mul_le_mul_right _ (by omega)

theorem open_tx {fuel : Nat} {cs : List Value} {x : DataW H × List MemPlace} (h : DataW.trod enc Try.prog w base spare held fuel 9 cs = some x) (hw : Wt Try.prog 9 x.1) (hl : cs.length = 1) : ∃ m : ByteArray, cs = textCells m ∧ m.size ≤ 140737488351232 := by
  match cs, hl with
  | [b], _ =>
    obtain ⟨s, rfl, b1⟩ := one_text Try.underlying9 h hw
    exact ⟨s, rfl, b1⟩
set_option maxRecDepth 100000 in
theorem open_texts1 {r : Reach} {b0 : Nat} {v : Value} {d : DataW H} {p : List MemPlace} (hv : Value.okWide Try.prog w r b0 54 v) (h : DataW.Trod enc Try.prog w base spare held 54 v d p) (hw : Wt Try.prog 54 d) :
    ∃ A c l, v = .slice A l.length c ∧ TxS w A c l ∧ (∀ m ∈ l, m.size ≤ 140737488351232) ∧ l.length * 16 ≤ 140737488351232 ∧ l.length ≤ c := by
  obtain ⟨a, len, cap, rfl⟩ := okWide_slice Try.underlying54 hv
  obtain ⟨fuel, hf⟩ := h
  exact open_rowc textCells 1 16 (fun m => m.size ≤ 140737488351232) (by decide) (by decide) textCells_len Try.underlying54 (by kernel_rfl) (by kernel_rfl) (fun _ _ _ h1 h2 h3 => open_tx h1 h2 h3) hf hw
structure Act3.Ok (m : Act3) : Prop where
  kind : -9223372036854775808 ≤ m.kind ∧ m.kind ≤ 9223372036854775807
  who : -9223372036854775808 ≤ m.who ∧ m.who ≤ 9223372036854775807
  text : m.text.size ≤ 140737488351232
  sig : m.sig.size ≤ 140737488351232
theorem open_act3 {fuel : Nat} {cs : List Value} {x : DataW H × List MemPlace} (h : DataW.trod enc Try.prog w base spare held fuel 85 cs = some x) (hw : Wt Try.prog 85 x.1) (hl : cs.length = 4) : ∃ m : Act3, cs = m.cells ∧ m.Ok := by
  obtain ⟨n, hf⟩ := fields_of Try.underlying85 (by kernel_rfl) h hw
  match cs, hl with
  | [a, b, c, d], _ =>
    obtain ⟨y0, h0, w0⟩ := hf 0 _ rfl a rfl
    obtain ⟨y1, h1, w1⟩ := hf 1 _ rfl b rfl
    obtain ⟨y2, h2, w2⟩ := hf 2 _ rfl c rfl
    obtain ⟨y3, h3, w3⟩ := hf 3 _ rfl d rfl
    obtain ⟨n0, rfl, a0⟩ := one_int Try.underlying3 h0
    obtain ⟨n1, rfl, a1⟩ := one_int Try.underlying3 h1
    obtain ⟨s, rfl, b1⟩ := one_text Try.underlying9 h2 w2
    obtain ⟨t, rfl, c1⟩ := one_text Try.underlying9 h3 w3
    exact ⟨⟨n0, n1, s, t⟩, rfl, ⟨a0, a1, b1, c1⟩⟩
set_option maxRecDepth 100000 in
theorem open_acts1 {r : Reach} {b0 : Nat} {v : Value} {d : DataW H} {p : List MemPlace} (hv : Value.okWide Try.prog w r b0 83 v) (h : DataW.Trod enc Try.prog w base spare held 83 v d p) (hw : Wt Try.prog 83 d) :
    ∃ A c l, v = .slice A l.length c ∧ A3S w A c l ∧ (∀ m ∈ l, m.Ok) ∧ l.length * 48 ≤ 140737488351232 ∧ l.length ≤ c := by
  obtain ⟨a, len, cap, rfl⟩ := okWide_slice Try.underlying83 hv
  obtain ⟨fuel, hf⟩ := h
  exact open_rowc Act3.cells 4 48 Act3.Ok (by decide) (by decide) Act3.cells_len Try.underlying83 (by kernel_rfl) (by kernel_rfl) (fun _ _ _ h1 h2 h3 => open_act3 h1 h2 h3) hf hw
structure Vt.Ok (m : Vt) : Prop where
  who : -9223372036854775808 ≤ m.who ∧ m.who ≤ 9223372036854775807
  kind : -9223372036854775808 ≤ m.kind ∧ m.kind ≤ 9223372036854775807
  view : -9223372036854775808 ≤ m.view ∧ m.view ≤ 9223372036854775807
  seq : -9223372036854775808 ≤ m.seq ∧ m.seq ≤ 9223372036854775807
  spoilt : -9223372036854775808 ≤ m.spoilt ∧ m.spoilt ≤ 9223372036854775807
  digest : m.digest.size ≤ 140737488351232
theorem open_vt {fuel : Nat} {cs : List Value} {x : DataW H × List MemPlace} (h : DataW.trod enc Try.prog w base spare held fuel 79 cs = some x) (hw : Wt Try.prog 79 x.1) (hl : cs.length = 6) : ∃ m : Vt, cs = m.cells ∧ m.Ok := by
  obtain ⟨n, hf⟩ := fields_of Try.underlying79 (by kernel_rfl) h hw
  match cs, hl with
  | [a, b, c, d, e, f], _ =>
    obtain ⟨y0, h0, w0⟩ := hf 0 _ rfl a rfl
    obtain ⟨y1, h1, w1⟩ := hf 1 _ rfl b rfl
    obtain ⟨y2, h2, w2⟩ := hf 2 _ rfl c rfl
    obtain ⟨y3, h3, w3⟩ := hf 3 _ rfl d rfl
    obtain ⟨y4, h4, w4⟩ := hf 4 _ rfl e rfl
    obtain ⟨y5, h5, w5⟩ := hf 5 _ rfl f rfl
    obtain ⟨n0, rfl, a0⟩ := one_int Try.underlying3 h0
    obtain ⟨n1, rfl, a1⟩ := one_int Try.underlying3 h1
    obtain ⟨n2, rfl, a2⟩ := one_int Try.underlying3 h2
    obtain ⟨n3, rfl, a3⟩ := one_int Try.underlying3 h3
    obtain ⟨n4, rfl, a4⟩ := one_int Try.underlying3 h4
    obtain ⟨t, rfl, c1⟩ := one_text Try.underlying9 h5 w5
    exact ⟨⟨n0, n1, n2, n3, n4, t⟩, rfl, ⟨a0, a1, a2, a3, a4, c1⟩⟩
set_option maxRecDepth 100000 in
theorem open_vts1 {r : Reach} {b0 : Nat} {v : Value} {d : DataW H} {p : List MemPlace} (hv : Value.okWide Try.prog w r b0 73 v) (h : DataW.Trod enc Try.prog w base spare held 73 v d p) (hw : Wt Try.prog 73 d) :
    ∃ A c l, v = .slice A l.length c ∧ VtS w A c l ∧ (∀ m ∈ l, m.Ok) ∧ l.length * 56 ≤ 140737488351232 ∧ l.length ≤ c := by
  obtain ⟨a, len, cap, rfl⟩ := okWide_slice Try.underlying73 hv
  obtain ⟨fuel, hf⟩ := h
  exact open_rowc Vt.cells 6 56 Vt.Ok (by decide) (by decide) Vt.cells_len Try.underlying73 (by kernel_rfl) (by kernel_rfl) (fun _ _ _ h1 h2 h3 => open_vt h1 h2 h3) hf hw
end
end Go.Proofs.Ytfgpchffkpomoaa

/- Many texts are signed, one behind the other: what stands in the book then. In plain words. -/
namespace Go.Proofs.Ytfgpchffkpomoaa
set_option linter.unusedSimpArgs false
set_option linter.unusedVariables false

def namedB (who : Int) : Bool := decide (0 ≤ who ∧ who ≤ 255)
def signAll : List Act3 → List Wd → List Wd
  | [], S => S
  | a :: l, S => signAll l (signE S a.who a.text).2
theorem signAll_append : ∀ (l k : List Act3) (S : List Wd), signAll (l ++ k) S = signAll k (signAll l S)
  | [], _, _ => rfl
  | a :: l, k, S => signAll_append l k _
theorem signAll_take {l : List Act3} {k : Nat} (hk : k < l.length) (S : List Wd) : signAll (l.take (k + 1)) S = (signE (signAll (l.take k) S) l[k].who l[k].text).2 := by
  rw [List.take_succ_eq_append_getElem hk, signAll_append]; rfl
theorem signE_mem {S : List Wd} {who : Int} {s : ByteArray} (h : namedB who = true) : (who, s) ∈ (signE S who s).2 := by
  unfold signE
  rw [if_pos (by simpa [namedB] using h)]
  unfold signS
  split
  · rename_i i hi; exact place_mem hi
  · simp
theorem signE_sub {S : List Wd} {who : Int} {s : ByteArray} {x : Wd} (h : x ∈ S) : x ∈ (signE S who s).2 := by
  unfold signE
  split
  · unfold signS
    split
    · exact h
    · simp [h]
  · exact h
theorem signE_new_mem {S : List Wd} {who : Int} {s : ByteArray} {x : Wd} (h : x ∈ (signE S who s).2) : x ∈ S ∨ (namedB who = true ∧ x = (who, s)) := by
  unfold signE at h
  split at h
  · rename_i hn
    unfold signS at h
    split at h
    · exact .inl h
    · simp only [List.mem_append, List.mem_singleton] at h
      exact h.imp id fun e => ⟨by simpa [namedB] using hn, e⟩
  · exact .inl h
theorem signE_length {S : List Wd} {who : Int} {s : ByteArray} : (signE S who s).2.length ≤ S.length + 1 := by
  unfold signE
  split
  · unfold signS
    split <;> simp
  · simp
theorem signAll_length : ∀ (l : List Act3) (S : List Wd), (signAll l S).length ≤ S.length + l.length
  | [], S => by simp [signAll]
  | a :: l, S => by
    have h1 := signAll_length l (signE S a.who a.text).2
    have h2 := signE_length (S := S) (who := a.who) (s := a.text)
    simp only [signAll, List.length_cons]
    omega
theorem signAll_sub : ∀ (l : List Act3) {S : List Wd} {x : Wd}, x ∈ S → x ∈ signAll l S
  | [], _, _, h => h
  | _ :: l, _, _, h => signAll_sub l (signE_sub h)
theorem signAll_of : ∀ {l : List Act3} {S : List Wd} {a : Act3}, a ∈ l → namedB a.who = true → (a.who, a.text) ∈ signAll l S
  | [], _, _, h, _ => by simp at h
  | b :: l, S, a, h, hn => by
    rcases List.mem_cons.1 h with rfl | h
    · exact signAll_sub l (signE_mem hn)
    · exact signAll_of (l := l) h hn
theorem signAll_mem : ∀ {l : List Act3} {S : List Wd} {x : Wd}, x ∈ signAll l S → x ∈ S ∨ ∃ a ∈ l, namedB a.who = true ∧ x = (a.who, a.text)
  | [], _, _, h => .inl h
  | b :: l, S, x, h => by
    rcases signAll_mem (l := l) h with h | ⟨a, ha, h⟩
    · rcases signE_new_mem h with h | h
      · exact .inl h
      · exact .inr ⟨b, by simp, h⟩
    · exact .inr ⟨a, by simp [ha], h⟩
theorem place_some {α : Type} [DecidableEq α] {x : α} {l : List α} (h : x ∈ l) : ∃ i, place x l = some i := by
  cases e : place x l with
  | none => exact absurd h (place_none e)
  | some i => exact ⟨i, rfl⟩
theorem place_same {α : Type} [DecidableEq α] {x y : α} {l : List α} {i : Nat} (h : place x l = some i) (k : place y l = some i) : x = y := by
  have h1 := place_get h
  rw [place_get k] at h1
  exact (Option.some.inj h1).symm
/-- Signing again changes nothing. -/
theorem signE_again {S : List Wd} {who : Int} {s : ByteArray} (hn : namedB who = true) {i : Nat} (h : place (who, s) S = some i) : signE S who s = ((sigOf i, 0), S) := by
  unfold signE
  rw [if_pos (by simpa [namedB] using hn)]
  unfold signS
  rw [h]
theorem signE_not {S : List Wd} {who : Int} {s : ByteArray} (hn : namedB who = false) : signE S who s = ((⟨#[]⟩, 1), S) := by
  unfold signE
  rw [if_neg (by simpa [namedB] using hn)]
theorem signE_err {S : List Wd} {who : Int} {s : ByteArray} : (signE S who s).1.2 = if namedB who = true then 0 else 1 := by
  cases h : namedB who with
  | true => unfold signE; rw [if_pos (by simpa [namedB] using h), if_pos rfl]
  | false => rw [signE_not h, if_neg (by decide)]
theorem sigOf_inj {i j : Nat} (hi : i < 1000000000000) (hj : j < 1000000000000) (h : sigOf i = sigOf j) : i = j := by
  have h2 : eight (i + 1) = eight (j + 1) := by
    unfold sigOf at h
    have e := congrArg (fun s : ByteArray => s.data.toList) h
    simp only [ByteArray.data_append, Array.toList_append] at e
    have := List.append_cancel_left e
    exact ByteArray.ext (by rw [← Array.toList_inj]; exact this)
  have := eight_inj (by omega) (by omega) h2
  omega
theorem sigOf_size (i : Nat) : (sigOf i).size = 9 := by
  unfold sigOf
  rw [ByteArray.size_append, eight_size]
  rfl
end Go.Proofs.Ytfgpchffkpomoaa
