/- Paths read into rows of their own (as XROfPf has it, for a seat without the document's OfProof). -/
import Derived.Test.YtfgpchffkpomoaaPlainPf
import Derived.Test.YtfgpchffkpomoaaPk06
import Derived.Test.YtfgpchffkpomoaaPk08
import Derived.Test.YtfgpchffkpomoaaPk19
namespace Go.Proofs.Ytfgpchffkpomoaa
set_option linter.unusedSimpArgs false
set_option linter.unusedVariables false
open Go.RowKit

theorem own_apart {w : World} {b1 b2 n1 n2 : Nat} {e1 e2 : TypeId} {s1 s2 : Nat} {A B : Option Addr} {c d : Nat} {xs ys : List Value} (h : w.ownsRow b1 e1 s1 (.slice A n1 c) n1 xs) (k : w.ownsRow b2 e2 s2 (.slice B n2 d) n2 ys) (hne : e1 ≠ e2) : ∀ i, Row A i → ¬ Row B i := by
  intro i hi hj
  rcases h.2 with ⟨hn, _⟩ | ⟨g, cap, cur, hv, _, hh, _⟩
  · obtain ⟨rfl, _⟩ : A = none ∧ _ := by simpa using hn
    cases hi
  · rcases k.2 with ⟨hn2, _⟩ | ⟨g2, cap2, cur2, hv2, _, hh2, _⟩
    · obtain ⟨rfl, _⟩ : B = none ∧ _ := by simpa using hn2
      cases hj
    · obtain ⟨rfl, _⟩ : A = some ⟨g, 0, none⟩ ∧ c = cap := by simpa using hv
      obtain ⟨rfl, _⟩ : B = some ⟨g2, 0, none⟩ ∧ d = cap2 := by simpa using hv2
      have q1 : g = i := by simpa [Row] using hi
      have q2 : g2 = i := by simpa [Row] using hj
      subst q1
      subst q2
      rw [hh] at hh2
      injection hh2 with hh2
      injection hh2 with _ q3 _
      exact hne q3
theorem seqN_err {α : Type} {rd : Nat → Except Nat (α × Nat)} (hr : ∀ q c, rd q = .error c → ((c : Int) == 0) = false) : ∀ (n q : Nat) (acc : List α) {c : Nat}, seqN rd n q acc = .error c → ((c : Int) == 0) = false
  | 0, q, acc, c, h => by cases h
  | n + 1, q, acc, c, h => by
    cases h1 : rd q with
    | error e =>
      rw [seqN_no h1] at h
      obtain rfl : e = c := by simpa using h
      exact hr q e h1
    | ok r =>
      obtain ⟨m, p⟩ := r
      rw [seqN_ok h1] at h
      exact seqN_err hr n p _ h
/-- Paths in rows of their own. -/
structure PmO (w : World) (base : Nat) (A : Option Addr) (c : Nat) (ms : List Pm) : Prop where
  row : w.ownsRow base 179 4 (.slice A ms.length c) ms.length (ms.flatMap Pm.cells)
  sides : ∀ m ∈ ms, w.ownsRow base 9 1 (.slice m.A m.sides.length m.c) m.sides.length (m.sides.flatMap textCells)
theorem PmO.nil (w : World) (base : Nat) : PmO w base none 0 [] := ⟨⟨rfl, .inl ⟨rfl, rfl⟩⟩, fun m hm => by cases hm⟩
theorem PmO.pm {w : World} {base : Nat} {A : Option Addr} {c : Nat} {ms : List Pm} (h : PmO w base A c ms) : PmS w A c ms := ⟨Sl.of_own h.row, fun m hm => Sl.of_own (h.sides m hm)⟩
theorem PmO.grow {w w1 : World} {base B : Nat} {S : Nat → Prop} {A : Option Addr} {c : Nat} {ms : List Pm} (h : PmO w base A c ms) (hc : Ch B S w w1) (hB : w.heap.size ≤ B) (hS : ∀ k, base ≤ k → ¬ S k) : PmO w1 base A c ms :=
  ⟨own_ch h.row hc (fun k hk => ⟨by have := (own_row h.row hk).2; omega, hS k (own_row h.row hk).1⟩), fun m hm => own_ch (h.sides m hm) hc (fun k hk => ⟨by have := (own_row (h.sides m hm) hk).2; omega, hS k (own_row (h.sides m hm) hk).1⟩)⟩
theorem PmO.below {w w1 : World} {base : Nat} {A : Option Addr} {c : Nat} {ms : List Pm} (h : PmO w base A c ms) (hb : Below w.heap.size w w1) : PmO w1 base A c ms := h.grow (S := fun _ => False) (Ch.of_below hb) (Nat.le_refl _) (fun _ _ h => h)
theorem PmO.set {w : World} {base b i : Nat} {A : Option Addr} {c : Nat} {ms : List Pm} (h : PmO w base A c ms) (hb : b < base) (v : Value) : PmO (w.setCell ⟨b, i, none⟩ v) base A c ms :=
  h.grow (B := w.heap.size) (S := (· = b)) (Ch.setCell (p := ⟨b, i, none⟩) (Ch.refl w.heap.size (· = b) w) (.inr rfl) v) (Nat.le_refl _) (fun k hk => by omega)
theorem PmO.snoc {w w1 : World} {base : Nat} {A A1 : Option Addr} {c c1 : Nat} {ms : List Pm} {m : Pm} (h : PmO w base A c ms) (hm : w.ownsRow base 9 1 (.slice m.A m.sides.length m.c) m.sides.length (m.sides.flatMap textCells))
    (hc : Ch w.heap.size (Row A) w w1) (ho : w1.ownsRow base 179 4 (.slice A1 (ms.length + 1) c1) (ms.length + 1) (ms.flatMap Pm.cells ++ m.cells)) : PmO w1 base A1 c1 (ms ++ [m]) := by
  refine ⟨by simpa using ho, fun x hx => ?_⟩
  have hk : ∀ x : Pm, w.ownsRow base 9 1 (.slice x.A x.sides.length x.c) x.sides.length (x.sides.flatMap textCells) → w1.ownsRow base 9 1 (.slice x.A x.sides.length x.c) x.sides.length (x.sides.flatMap textCells) :=
    fun x hx => own_ch hx hc (fun k hk => ⟨(own_row hx hk).2, own_apart hx h.row (by decide) k hk⟩)
  rcases List.mem_append.1 hx with h1 | h1
  · exact hk x (h.sides x h1)
  · obtain rfl : x = m := by simpa using h1
    exact hk x hm
theorem path_err {s : ByteArray} {q c : Nat} (h : path_ s q = .error c) : ((c : Int) == 0) = false := by
  cases h0 : num s q with
  | error e =>
    rw [path_no0 h0] at h
    obtain rfl : e = c := by simpa using h
    rcases num_err h0 with rfl | rfl <;> rfl
  | ok r =>
    obtain ⟨n, p⟩ := r
    cases h1 : text s p with
    | error e =>
      rw [path_no1 h0 h1] at h
      obtain rfl : e = c := by simpa using h
      rcases text_err h1 with rfl | rfl | rfl <;> rfl
    | ok r =>
      obtain ⟨k, p1⟩ := r
      cases h2 : text s p1 with
      | error e =>
        rw [path_no2 h0 h1 h2] at h
        obtain rfl : e = c := by simpa using h
        rcases text_err h2 with rfl | rfl | rfl <;> rfl
      | ok r =>
        obtain ⟨v, p2⟩ := r
        cases h3 : seqAt s (text s) 13 p2 with
        | error e =>
          rw [path_no3 h0 h1 h2 h3] at h
          obtain rfl : e = c := by simpa using h
          unfold seqAt count at h3
          cases h4 : num s p2 with
          | error e2 =>
            rw [h4] at h3
            obtain rfl : e2 = e := by simpa using h3
            rcases num_err h4 with rfl | rfl <;> rfl
          | ok r =>
            obtain ⟨m, p3⟩ := r
            rw [h4] at h3
            simp only at h3
            by_cases hm : 13 < m
            · rw [if_pos hm] at h3
              obtain rfl : 2 = e := by simpa using h3
              rfl
            · rw [if_neg hm] at h3
              simp only at h3
              exact seqN_err (fun q c h => by rcases text_err h with rfl | rfl | rfl <;> rfl) _ _ _ h3
        | ok r =>
          obtain ⟨l, p3⟩ := r
          rw [path_yes h0 h1 h2 h3] at h
          cases h
theorem path_bd {s : ByteArray} {q p : Nat} {x : Pt} (hq : q ≤ s.size) (h : path_ s q = .ok (x, p)) : p ≤ s.size := by
  cases h0 : num s q with
  | error e => rw [path_no0 h0] at h; cases h
  | ok r =>
    obtain ⟨n, p0⟩ := r
    cases h1 : text s p0 with
    | error e => rw [path_no1 h0 h1] at h; cases h
    | ok r =>
      obtain ⟨k, p1⟩ := r
      cases h2 : text s p1 with
      | error e => rw [path_no2 h0 h1 h2] at h; cases h
      | ok r =>
        obtain ⟨v, p2⟩ := r
        cases h3 : seqAt s (text s) 13 p2 with
        | error e => rw [path_no3 h0 h1 h2 h3] at h; cases h
        | ok r =>
          obtain ⟨l, p3⟩ := r
          rw [path_yes h0 h1 h2 h3] at h
          have hh := seqAt_get (put := putText) (fun m q p h => text_get' h) h3
          simp only [Except.ok.injEq, Prod.mk.injEq] at h
          rw [← h.2]
          exact hh.2.2.1
def OfPfPost (r : (Int × List Pt) × Int) (w : World) (e : Ending) (w' : World) : Prop := ∃ A c ms, e = .returned (.tuple #[.agg #[.int .i64 r.1.1, .slice A ms.length c], .int .i64 r.2]) ∧ Below w.heap.size w w' ∧ PmO w' w.heap.size A c ms ∧ ms.map Pm.pt = r.1.2
theorem info_path : (Try.prog.info? 179).map (fun i => (i.zero, i.size, i.bytes)) = some (some (.agg #[.int .i64 0, .string ⟨#[]⟩, .string ⟨#[]⟩, .slice none 0 0]), 4, 64) := by kernel_rfl
theorem Pm.one (m : Pm) : ∀ u ∈ m.cells, u.oneCell' = true := by
  intro u hu
  simp [Pm.cells] at hu
  rcases hu with rfl | rfl | rfl | rfl <;> rfl
theorem St.fill2 {B i : Nat} {w0 w : World} {T : TypeId} {a b x y : Value} (h : St B w0 i #[a, b] T w) (hB : B ≤ i) : St B w0 i #[x, y] T ((w.setCell ⟨i, 0, none⟩ x).setCell ⟨i, 1, none⟩ y) :=
  ⟨(h.b.setCell (p := ⟨i, 0, none⟩) hB x).setCell (p := ⟨i, 1, none⟩) hB y, by have h := (h.x.set 0 x).set 1 y; simpa using h⟩

end Go.Proofs.Ytfgpchffkpomoaa
