/- Texts of this proof, several in one file; each says ahead of it what it proves. -/
import Derived.Test.YtfgpchffkpomoaaPk18
import Derived.Test.YtfgpchffkpomoaaPk23
import Derived.Test.YtfgpchffkpomoaaPk06
import Derived.Test.YtfgpchffkpomoaaPk08
import Derived.Test.YtfgpchffkpomoaaPk19
/- So many of a kind, read one behind the other: what is read is what was written, and the other way round. In plain words. -/
namespace Go.Proofs.Ytfgpchffkpomoaa
set_option linter.unusedSimpArgs false
set_option linter.unusedVariables false

/-- n more, each by rd, behind those that were read. -/
def seqN {α : Type} (rd : Nat → Except Nat (α × Nat)) : Nat → Nat → List α → Except Nat (List α × Nat)
  | 0, q, l => .ok (l, q)
  | n + 1, q, l => match rd q with
    | .error e => .error e
    | .ok (m, p) => seqN rd n p (l ++ [m])
theorem seqN_ok {α : Type} {rd : Nat → Except Nat (α × Nat)} {q p : Nat} {m : α} (h : rd q = .ok (m, p)) (n : Nat) (l : List α) : seqN rd (n + 1) q l = seqN rd n p (l ++ [m]) := by
  rw [seqN, h]
theorem seqN_no {α : Type} {rd : Nat → Except Nat (α × Nat)} {q c : Nat} (h : rd q = .error c) (n : Nat) (l : List α) : seqN rd (n + 1) q l = .error c := by
  rw [seqN, h]
/-- A count, then so many. -/
def seqAt {α : Type} (s : ByteArray) (rd : Nat → Except Nat (α × Nat)) (most q : Nat) : Except Nat (List α × Nat) :=
  match count s most q with
  | .error e => .error e
  | .ok (n, p) => seqN rd n p []
theorem seqAt_of {α : Type} {s : ByteArray} {rd : Nat → Except Nat (α × Nat)} {most q n p : Nat} (h : count s most q = .ok (n, p)) : seqAt s rd most q = seqN rd n p [] := by unfold seqAt; rw [h]
theorem seqAt_no {α : Type} {s : ByteArray} {rd : Nat → Except Nat (α × Nat)} {most q c : Nat} (h : count s most q = .error c) : seqAt s rd most q = .error c := by unfold seqAt; rw [h]

section
variable {α : Type} {s : ByteArray} {rd : Nat → Except Nat (α × Nat)} {put : α → List UInt8} {good : α → Prop}
theorem seqN_put (hp : ∀ m q, good m → At s q (put m) → rd q = .ok (m, q + (put m).length)) : ∀ (l : List α) (q : Nat) (acc : List α), (∀ m ∈ l, good m) → At s q (l.flatMap put) → seqN rd l.length q acc = .ok (acc ++ l, q + (l.flatMap put).length)
  | [], q, acc, _, _ => by simp [seqN]
  | m :: l, q, acc, hg, h => by
    simp only [List.flatMap_cons] at h ⊢
    obtain ⟨a1, a2⟩ := at_append.1 h
    rw [List.length_cons, seqN_ok (hp m q (hg m (by simp)) a1), seqN_put hp l _ _ (fun x hx => hg x (by simp [hx])) a2]
    simp [Nat.add_assoc]
theorem seqN_get (hg : ∀ m q p, rd q = .ok (m, p) → At s q (put m) ∧ p = q + (put m).length ∧ p ≤ s.size) : ∀ (n q : Nat) (acc : List α) (r : List α) (p : Nat), seqN rd n q acc = .ok (r, p) → q ≤ s.size → ∃ l, r = acc ++ l ∧ l.length = n ∧ At s q (l.flatMap put) ∧ p = q + (l.flatMap put).length ∧ p ≤ s.size
  | 0, q, acc, r, p, h, hq => by
    simp only [seqN, Except.ok.injEq, Prod.mk.injEq] at h
    obtain ⟨rfl, rfl⟩ := h
    exact ⟨[], by simp, rfl, at_nil hq, by simp, hq⟩
  | n + 1, q, acc, r, p, h, hq => by
    cases hz : rd q with
    | error e => rw [seqN_no hz] at h; cases h
    | ok x =>
      obtain ⟨m, p1⟩ := x
      obtain ⟨a1, b1, c1⟩ := hg m q p1 hz
      rw [seqN_ok hz] at h
      obtain ⟨l, h1, h2, h3, h4, h5⟩ := seqN_get hg n p1 _ r p h c1
      refine ⟨m :: l, by rw [h1]; simp, by simp [h2], ?_, ?_, h5⟩
      · simp only [List.flatMap_cons]
        exact at_append.2 ⟨a1, by rw [← b1]; exact h3⟩
      · simp only [List.flatMap_cons, List.length_append]
        omega
/-- The place behind, for a reader that goes on within the text. -/
theorem seqN_bd (hb : ∀ m q p, rd q = .ok (m, p) → p ≤ s.size) : ∀ (n q : Nat) (acc : List α) (r : List α) (p : Nat), seqN rd n q acc = .ok (r, p) → q ≤ s.size → p ≤ s.size ∧ r.length = acc.length + n
  | 0, q, acc, r, p, h, hq => by
    simp only [seqN, Except.ok.injEq, Prod.mk.injEq] at h
    obtain ⟨rfl, rfl⟩ := h
    exact ⟨hq, by simp⟩
  | n + 1, q, acc, r, p, h, hq => by
    cases hz : rd q with
    | error e => rw [seqN_no hz] at h; cases h
    | ok x =>
      obtain ⟨m, p1⟩ := x
      rw [seqN_ok hz] at h
      have := seqN_bd hb n p1 _ r p h (hb m q p1 hz)
      simp only [List.length_append, List.length_singleton] at this
      omega
theorem seqAt_put (hp : ∀ m q, good m → At s q (put m) → rd q = .ok (m, q + (put m).length)) {l : List α} {q most : Nat} (hl : l.length ≤ most) (hm : most ≤ 5000) (hg : ∀ m ∈ l, good m) (h : At s q (putNum l.length ++ l.flatMap put)) : seqAt s rd most q = .ok (l, q + (putNum l.length ++ l.flatMap put).length) := by
  obtain ⟨a1, a2⟩ := at_append.1 h
  unfold seqAt count
  rw [num_put (by omega) a1]
  simp only
  rw [if_neg (by omega)]
  simp only
  rw [seqN_put hp l _ [] hg a2]
  simp [Nat.add_assoc]
theorem seqAt_get (hg : ∀ m q p, rd q = .ok (m, p) → At s q (put m) ∧ p = q + (put m).length ∧ p ≤ s.size) {l : List α} {q most p : Nat} (h : seqAt s rd most q = .ok (l, p)) : At s q (putNum l.length ++ l.flatMap put) ∧ p = q + (putNum l.length ++ l.flatMap put).length ∧ p ≤ s.size ∧ l.length ≤ most := by
  unfold seqAt count at h
  cases hx : num s q with
  | error e => rw [hx] at h; cases h
  | ok r =>
    obtain ⟨n, p1⟩ := r
    obtain ⟨a1, b1⟩ := num_get hx
    obtain ⟨_, hb, _⟩ := num_bd hx
    rw [hx] at h
    simp only at h
    by_cases hm : most < n
    · simp only [if_pos hm] at h; cases h
    · simp only [if_neg hm] at h
      obtain ⟨l', h1, h2, h3, h4, h5⟩ := seqN_get hg n p1 [] l p h hb
      obtain rfl : l = l' := by simpa using h1
      rw [h2]
      exact ⟨at_append.2 ⟨a1, by rw [← b1]; exact h3⟩, by rw [List.length_append]; omega, h5, by omega⟩
end

theorem text_get' {s t : ByteArray} {q p : Nat} (h : text s q = .ok (t, p)) : At s q (putText t) ∧ p = q + (putText t).length ∧ p ≤ s.size :=
  ⟨(text_get h).1, (text_get h).2, (text_bd h).2.1⟩
end Go.Proofs.Ytfgpchffkpomoaa

/- Proofs: what is read is what was laid. In plain words. -/
namespace Go.Proofs.Ytfgpchffkpomoaa
set_option linter.unusedSimpArgs false
set_option linter.unusedVariables false
open Go.RowKit

/-- A path at a place. -/
def path_ (s : ByteArray) (q : Nat) : Except Nat (Pt × Nat) :=
  match num s q with
  | .error e => .error e
  | .ok (n, p) => match text s p with
    | .error e => .error e
    | .ok (k, p) => match text s p with
      | .error e => .error e
      | .ok (v, p) => match seqAt s (text s) 13 p with
        | .error e => .error e
        | .ok (l, p) => .ok (⟨(n : Int), k, v, l⟩, p)
theorem path_no0 {s : ByteArray} {q c : Nat} (h : num s q = .error c) : path_ s q = .error c := by unfold path_; rw [h]
theorem path_num {s : ByteArray} {q n p : Nat} (h : num s q = .ok (n, p)) : path_ s q = match text s p with
    | .error e => .error e
    | .ok (k, p) => match text s p with
      | .error e => .error e
      | .ok (v, p) => match seqAt s (text s) 13 p with
        | .error e => .error e
        | .ok (l, p) => .ok (⟨(n : Int), k, v, l⟩, p) := by unfold path_; rw [h]
theorem path_no1 {s : ByteArray} {q n p c : Nat} (h : num s q = .ok (n, p)) (h1 : text s p = .error c) : path_ s q = .error c := by rw [path_num h, h1]
theorem path_key {s k : ByteArray} {q n p p1 : Nat} (h : num s q = .ok (n, p)) (h1 : text s p = .ok (k, p1)) : path_ s q = match text s p1 with
      | .error e => .error e
      | .ok (v, p) => match seqAt s (text s) 13 p with
        | .error e => .error e
        | .ok (l, p) => .ok (⟨(n : Int), k, v, l⟩, p) := by rw [path_num h, h1]
theorem path_no2 {s k : ByteArray} {q n p p1 c : Nat} (h : num s q = .ok (n, p)) (h1 : text s p = .ok (k, p1)) (h2 : text s p1 = .error c) : path_ s q = .error c := by rw [path_key h h1, h2]
theorem path_val {s k v : ByteArray} {q n p p1 p2 : Nat} (h : num s q = .ok (n, p)) (h1 : text s p = .ok (k, p1)) (h2 : text s p1 = .ok (v, p2)) : path_ s q = match seqAt s (text s) 13 p2 with
        | .error e => .error e
        | .ok (l, p) => .ok (⟨(n : Int), k, v, l⟩, p) := by rw [path_key h h1, h2]
theorem path_no3 {s k v : ByteArray} {q n p p1 p2 c : Nat} (h : num s q = .ok (n, p)) (h1 : text s p = .ok (k, p1)) (h2 : text s p1 = .ok (v, p2)) (h3 : seqAt s (text s) 13 p2 = .error c) : path_ s q = .error c := by rw [path_val h h1 h2, h3]
theorem path_yes {s k v : ByteArray} {q n p p1 p2 p3 : Nat} {l : List ByteArray} (h : num s q = .ok (n, p)) (h1 : text s p = .ok (k, p1)) (h2 : text s p1 = .ok (v, p2)) (h3 : seqAt s (text s) 13 p2 = .ok (l, p3)) : path_ s q = .ok (⟨(n : Int), k, v, l⟩, p3) := by rw [path_val h h1 h2, h3]
/-- A proof, and why there is none. -/
def ofPfE (s : ByteArray) : (Int × List Pt) × Int :=
  if 1048576 < s.size then ((0, []), 4) else match num s 0 with
    | .error c => ((0, []), c)
    | .ok (n, q) => match seqAt s (path_ s) 2 q with
      | .error c => ((0, []), c)
      | .ok (l, p) => if p < s.size then ((0, []), 12) else if pfOk n l = true then ((n, l), 0) else ((0, []), 14)
theorem ofPf_long {s : ByteArray} (h : 1048576 < s.size) : ofPfE s = ((0, []), 4) := by unfold ofPfE; rw [if_pos h]
theorem ofPf_no0 {s : ByteArray} (h : ¬ 1048576 < s.size) {c : Nat} (h0 : num s 0 = .error c) : ofPfE s = ((0, []), (c : Int)) := by unfold ofPfE; rw [if_neg h, h0]
theorem ofPf_num {s : ByteArray} (h : ¬ 1048576 < s.size) {n q : Nat} (h0 : num s 0 = .ok (n, q)) : ofPfE s = match seqAt s (path_ s) 2 q with
      | .error c => ((0, []), (c : Int))
      | .ok (l, p) => if p < s.size then ((0, []), 12) else if pfOk n l = true then (((n : Int), l), 0) else ((0, []), 14) := by unfold ofPfE; rw [if_neg h, h0]
theorem ofPf_no1 {s : ByteArray} (h : ¬ 1048576 < s.size) {n q c : Nat} (h0 : num s 0 = .ok (n, q)) (h1 : seqAt s (path_ s) 2 q = .error c) : ofPfE s = ((0, []), (c : Int)) := by rw [ofPf_num h h0, h1]
theorem ofPf_yes {s : ByteArray} (h : ¬ 1048576 < s.size) {n q p : Nat} {l : List Pt} (h0 : num s 0 = .ok (n, q)) (h1 : seqAt s (path_ s) 2 q = .ok (l, p)) : ofPfE s = if p < s.size then ((0, []), 12) else if pfOk n l = true then (((n : Int), l), 0) else ((0, []), 14) := by rw [ofPf_num h h0, h1]

def ptGood (x : Pt) : Prop := (0 ≤ x.index ∧ x.index ≤ 4095) ∧ x.key.size ≤ 64 ∧ x.val.size ≤ 4096 ∧ x.sides.length ≤ 13 ∧ ∀ s ∈ x.sides, s.size ≤ 32
theorem path_put {s : ByteArray} (x : Pt) (q : Nat) (hg : ptGood x) (h : At s q (putPt x)) : path_ s q = .ok (x, q + (putPt x).length) := by
  obtain ⟨i, k, v, l⟩ := x
  unfold putPt at h ⊢
  obtain ⟨⟨g0, g1⟩, g2, g3, g4, g5⟩ := hg
  simp only at g0 g1 g2 g3 g4 g5 h
  obtain ⟨a1, a2⟩ := at_append.1 h
  obtain ⟨a3, a4⟩ := at_append.1 a2
  obtain ⟨a5, a6⟩ := at_append.1 a4
  have h3 := seqAt_put (s := s) (rd := text s) (put := putText) (good := fun t => t.size ≤ 32) (l := l) (most := 13) (fun t q hg ha => text_put (by omega) ha) g4 (by decide) g5 a6
  rw [path_yes (num_put (by omega) a1) (text_put (by omega) a3) (text_put (by omega) a5) h3]
  simp only [List.length_append]
  rw [show ((i.toNat : Nat) : Int) = i by omega]
  simp [Nat.add_assoc]
theorem proof_back {count : Int} {l : List Pt} {a : ByteArray} (h : proofE count l = (a, 0)) : ofPfE a = ((count, l), 0) ∧ a.size ≤ 1048576 := by
  unfold proofE at h
  by_cases hk : pfOk count l = true
  · rw [if_pos hk] at h
    simp only [Prod.mk.injEq, and_true] at h
    obtain ⟨⟨c0, c1⟩, hl, hall⟩ := pfOk_iff hk
    have hs : a.size = (putPf count l).length := by rw [← h, bs_size]
    have ha : At a 0 (putPf count l) := by rw [← h]; exact at_self _
    unfold putPf at ha hs
    obtain ⟨a1, a2⟩ := at_append.1 ha
    have h0 := num_put (by omega) a1
    have h1 := seqAt_put (s := a) (rd := path_ a) (put := putPt) (good := ptGood) (l := l) (most := 2) path_put hl (by decide) hall a2
    have hsz : a.size ≤ 1048576 := by
      have hb : ∀ x ∈ l, (putPt x).length ≤ 5000 := fun x hx => by
        obtain ⟨⟨g0, g1⟩, g2, g3, g4, g5⟩ := hall x hx
        have b1 := putNum_len 8 x.index.toNat (by omega)
        have b2 := putNum_len 8 x.key.size (by omega)
        have b3 := putNum_len 8 x.val.size (by omega)
        have b4 := putNum_len 8 x.sides.length (by omega)
        have b5 : ∀ (m : List ByteArray), (∀ s ∈ m, s.size ≤ 32) → (m.flatMap putText).length ≤ 41 * m.length := fun m => by
          induction m with
          | nil => simp
          | cons s m ih =>
            intro hm
            have h1 := hm s (by simp)
            have h2 := ih (fun t ht => hm t (by simp [ht]))
            have h3 := putNum_len 8 s.size (by omega)
            simp only [List.flatMap_cons, List.length_append, putText_length, List.length_cons]
            omega
        have b6 := b5 x.sides g5
        unfold putPt
        simp only [List.length_append, putText_length]
        omega
      have hc : ∀ (m : List Pt), (∀ x ∈ m, (putPt x).length ≤ 5000) → (m.flatMap putPt).length ≤ 5000 * m.length := fun m => by
        induction m with
        | nil => simp
        | cons x m ih =>
          intro hm
          have h1 := hm x (by simp)
          have h2 := ih (fun t ht => hm t (by simp [ht]))
          simp only [List.flatMap_cons, List.length_append, List.length_cons]
          omega
      have h3 := hc l hb
      have h4 := putNum_len 8 count.toNat (by omega)
      have h5 := putNum_len 8 l.length (by omega)
      rw [hs]
      simp only [List.length_append]
      omega
    refine ⟨?_, hsz⟩
    rw [Nat.zero_add] at h0 h1
    rw [ofPf_yes (by omega) h0 h1]
    simp only [List.length_append] at hs ⊢
    rw [show ((count.toNat : Nat) : Int) = count by omega, if_neg (by omega), if_pos hk]
  · rw [if_neg hk] at h; simp only [Prod.mk.injEq] at h; omega
end Go.Proofs.Ytfgpchffkpomoaa

/- Paths read into rows of their own (as XROfPf has it, for a seat without the document's OfProof). -/
namespace Go.Proofs.Ytfgpchffkpomoaa
set_option linter.unusedSimpArgs false
set_option linter.unusedVariables false
open Go.RowKit

theorem own_apart {w : World} {b1 b2 n1 n2 : Nat} {e1 e2 : TypeId} {s1 s2 : Nat} {A B : Option Addr} {c d : Nat} {xs ys : List Value} (h : w.ownsRow b1 e1 s1 (.slice A n1 c) n1 xs) (k : w.ownsRow b2 e2 s2 (.slice B n2 d) n2 ys) (hne : e1 ≠ e2) : ∀ i, Row A i → ¬ Row B i := by
  intro i hi hj
  rcases h.2 with ⟨hn, _⟩ | ⟨g, cap, cur, hv, _, hh, _⟩
  · obtain ⟨rfl, _⟩ : A = none ∧ _ := by simpa using hn
    cases hi
  · rcases k.2 with ⟨hn2, _⟩ | ⟨g2, cap2, cur2, hv2, _, hh2, _⟩
    · obtain ⟨rfl, _⟩ : B = none ∧ _ := by simpa using hn2
      cases hj
    · obtain ⟨rfl, _⟩ : A = some ⟨g, 0, none⟩ ∧ c = cap := by simpa using hv
      obtain ⟨rfl, _⟩ : B = some ⟨g2, 0, none⟩ ∧ d = cap2 := by simpa using hv2
      have q1 : g = i := by simpa [Row] using hi
      have q2 : g2 = i := by simpa [Row] using hj
      subst q1
      subst q2
      rw [hh] at hh2
      injection hh2 with hh2
      injection hh2 with _ q3 _
      exact hne q3
theorem seqN_err {α : Type} {rd : Nat → Except Nat (α × Nat)} (hr : ∀ q c, rd q = .error c → ((c : Int) == 0) = false) : ∀ (n q : Nat) (acc : List α) {c : Nat}, seqN rd n q acc = .error c → ((c : Int) == 0) = false
  | 0, q, acc, c, h => by cases h
  | n + 1, q, acc, c, h => by
    cases h1 : rd q with
    | error e =>
      rw [seqN_no h1] at h
      obtain rfl : e = c := by simpa using h
      exact hr q e h1
    | ok r =>
      obtain ⟨m, p⟩ := r
      rw [seqN_ok h1] at h
      exact seqN_err hr n p _ h
/-- Paths in rows of their own. -/
structure PmO (w : World) (base : Nat) (A : Option Addr) (c : Nat) (ms : List Pm) : Prop where
  row : w.ownsRow base 179 4 (.slice A ms.length c) ms.length (ms.flatMap Pm.cells)
  sides : ∀ m ∈ ms, w.ownsRow base 9 1 (.slice m.A m.sides.length m.c) m.sides.length (m.sides.flatMap textCells)
theorem PmO.nil (w : World) (base : Nat) : PmO w base none 0 [] := ⟨⟨rfl, .inl ⟨rfl, rfl⟩⟩, fun m hm => by cases hm⟩
theorem PmO.pm {w : World} {base : Nat} {A : Option Addr} {c : Nat} {ms : List Pm} (h : PmO w base A c ms) : PmS w A c ms := ⟨Sl.of_own h.row, fun m hm => Sl.of_own (h.sides m hm)⟩
theorem PmO.grow {w w1 : World} {base B : Nat} {S : Nat → Prop} {A : Option Addr} {c : Nat} {ms : List Pm} (h : PmO w base A c ms) (hc : Ch B S w w1) (hB : w.heap.size ≤ B) (hS : ∀ k, base ≤ k → ¬ S k) : PmO w1 base A c ms :=
  ⟨own_ch h.row hc (fun k hk => ⟨by have := (own_row h.row hk).2; omega, hS k (own_row h.row hk).1⟩), fun m hm => own_ch (h.sides m hm) hc (fun k hk => ⟨by have := (own_row (h.sides m hm) hk).2; omega, hS k (own_row (h.sides m hm) hk).1⟩)⟩
theorem PmO.below {w w1 : World} {base : Nat} {A : Option Addr} {c : Nat} {ms : List Pm} (h : PmO w base A c ms) (hb : Below w.heap.size w w1) : PmO w1 base A c ms := h.grow (S := fun _ => False) (Ch.of_below hb) (Nat.le_refl _) (fun _ _ h => h)
theorem PmO.set {w : World} {base b i : Nat} {A : Option Addr} {c : Nat} {ms : List Pm} (h : PmO w base A c ms) (hb : b < base) (v : Value) : PmO (w.setCell ⟨b, i, none⟩ v) base A c ms :=
  h.grow (B := w.heap.size) (S := (· = b)) (Ch.setCell (p := ⟨b, i, none⟩) (Ch.refl w.heap.size (· = b) w) (.inr rfl) v) (Nat.le_refl _) (fun k hk => by omega)
theorem PmO.snoc {w w1 : World} {base : Nat} {A A1 : Option Addr} {c c1 : Nat} {ms : List Pm} {m : Pm} (h : PmO w base A c ms) (hm : w.ownsRow base 9 1 (.slice m.A m.sides.length m.c) m.sides.length (m.sides.flatMap textCells))
    (hc : Ch w.heap.size (Row A) w w1) (ho : w1.ownsRow base 179 4 (.slice A1 (ms.length + 1) c1) (ms.length + 1) (ms.flatMap Pm.cells ++ m.cells)) : PmO w1 base A1 c1 (ms ++ [m]) := by
  refine ⟨by simpa using ho, fun x hx => ?_⟩
  have hk : ∀ x : Pm, w.ownsRow base 9 1 (.slice x.A x.sides.length x.c) x.sides.length (x.sides.flatMap textCells) → w1.ownsRow base 9 1 (.slice x.A x.sides.length x.c) x.sides.length (x.sides.flatMap textCells) :=
    fun x hx => own_ch hx hc (fun k hk => ⟨(own_row hx hk).2, own_apart hx h.row (by decide) k hk⟩)
  rcases List.mem_append.1 hx with h1 | h1
  · exact hk x (h.sides x h1)
  · obtain rfl : x = m := by simpa using h1
    exact hk x hm
theorem path_err {s : ByteArray} {q c : Nat} (h : path_ s q = .error c) : ((c : Int) == 0) = false := by
  cases h0 : num s q with
  | error e =>
    rw [path_no0 h0] at h
    obtain rfl : e = c := by simpa using h
    rcases num_err h0 with rfl | rfl <;> rfl
  | ok r =>
    obtain ⟨n, p⟩ := r
    cases h1 : text s p with
    | error e =>
      rw [path_no1 h0 h1] at h
      obtain rfl : e = c := by simpa using h
      rcases text_err h1 with rfl | rfl | rfl <;> rfl
    | ok r =>
      obtain ⟨k, p1⟩ := r
      cases h2 : text s p1 with
      | error e =>
        rw [path_no2 h0 h1 h2] at h
        obtain rfl : e = c := by simpa using h
        rcases text_err h2 with rfl | rfl | rfl <;> rfl
      | ok r =>
        obtain ⟨v, p2⟩ := r
        cases h3 : seqAt s (text s) 13 p2 with
        | error e =>
          rw [path_no3 h0 h1 h2 h3] at h
          obtain rfl : e = c := by simpa using h
          unfold seqAt count at h3
          cases h4 : num s p2 with
          | error e2 =>
            rw [h4] at h3
            obtain rfl : e2 = e := by simpa using h3
            rcases num_err h4 with rfl | rfl <;> rfl
          | ok r =>
            obtain ⟨m, p3⟩ := r
            rw [h4] at h3
            simp only at h3
            by_cases hm : 13 < m
            · rw [if_pos hm] at h3
              obtain rfl : 2 = e := by simpa using h3
              rfl
            · rw [if_neg hm] at h3
              simp only at h3
              exact seqN_err (fun q c h => by rcases text_err h with rfl | rfl | rfl <;> rfl) _ _ _ h3
        | ok r =>
          obtain ⟨l, p3⟩ := r
          rw [path_yes h0 h1 h2 h3] at h
          cases h
theorem path_bd {s : ByteArray} {q p : Nat} {x : Pt} (hq : q ≤ s.size) (h : path_ s q = .ok (x, p)) : p ≤ s.size := by
  cases h0 : num s q with
  | error e => rw [path_no0 h0] at h; cases h
  | ok r =>
    obtain ⟨n, p0⟩ := r
    cases h1 : text s p0 with
    | error e => rw [path_no1 h0 h1] at h; cases h
    | ok r =>
      obtain ⟨k, p1⟩ := r
      cases h2 : text s p1 with
      | error e => rw [path_no2 h0 h1 h2] at h; cases h
      | ok r =>
        obtain ⟨v, p2⟩ := r
        cases h3 : seqAt s (text s) 13 p2 with
        | error e => rw [path_no3 h0 h1 h2 h3] at h; cases h
        | ok r =>
          obtain ⟨l, p3⟩ := r
          rw [path_yes h0 h1 h2 h3] at h
          have hh := seqAt_get (put := putText) (fun m q p h => text_get' h) h3
          simp only [Except.ok.injEq, Prod.mk.injEq] at h
          rw [← h.2]
          exact hh.2.2.1
def OfPfPost (r : (Int × List Pt) × Int) (w : World) (e : Ending) (w' : World) : Prop := ∃ A c ms, e = .returned (.tuple #[.agg #[.int .i64 r.1.1, .slice A ms.length c], .int .i64 r.2]) ∧ Below w.heap.size w w' ∧ PmO w' w.heap.size A c ms ∧ ms.map Pm.pt = r.1.2
theorem info_path : (Try.prog.info? 179).map (fun i => (i.zero, i.size, i.bytes)) = some (some (.agg #[.int .i64 0, .string ⟨#[]⟩, .string ⟨#[]⟩, .slice none 0 0]), 4, 64) := by kernel_rfl
theorem Pm.one (m : Pm) : ∀ u ∈ m.cells, u.oneCell' = true := by
  intro u hu
  simp [Pm.cells] at hu
  rcases hu with rfl | rfl | rfl | rfl <;> rfl
theorem St.fill2 {B i : Nat} {w0 w : World} {T : TypeId} {a b x y : Value} (h : St B w0 i #[a, b] T w) (hB : B ≤ i) : St B w0 i #[x, y] T ((w.setCell ⟨i, 0, none⟩ x).setCell ⟨i, 1, none⟩ y) :=
  ⟨(h.b.setCell (p := ⟨i, 0, none⟩) hB x).setCell (p := ⟨i, 1, none⟩) hB y, by have h := (h.x.set 0 x).set 1 y; simpa using h⟩

end Go.Proofs.Ytfgpchffkpomoaa
