/- What stands in memory while a face reads: its two results, and the reader. -/
import Derived.Test.YtehbpjkeflcanaaCatch
import Derived.Test.YtehbpjkeflcanaaRight
namespace Go.Proofs.Ytehbpjkeflcanaa
set_option linter.unusedSimpArgs false
set_option linter.unusedVariables false
open Go.RowKit

theorem Rd.new0 (w : World) (s : ByteArray) : Rd (w.alloc (.cells #[.string s, .int .i64 0] 98)) w.heap.size s 0 := ⟨by simp, by simp, by simp⟩

/-- Since w0: the first result's box (cells cs of type T), the error's box, the reader behind them at place p. -/
structure Face (w0 : World) (T : TypeId) (cs : Array Value) (s : ByteArray) (p : Nat) (w : World) : Prop where
  ch : Below w0.heap.size w0 w
  b : Box w w0.heap.size cs T
  e : Box w (w0.heap.size + 1) #[.int .i64 0] 25
  r : Rd w (w0.heap.size + 2) s p
  own : w0.heap.size + 2 < w.heap.size

/-- .. without the reader. -/
structure FaceE (w0 : World) (T : TypeId) (cs : Array Value) (w : World) : Prop where
  ch : Below w0.heap.size w0 w
  b : Box w w0.heap.size cs T
  e : Box w (w0.heap.size + 1) #[.int .i64 0] 25
namespace Face
variable {w0 w w' : World} {T : TypeId} {cs : Array Value} {s : ByteArray} {p p' : Nat}
theorem new (w0 : World) (T : TypeId) (cs : Array Value) (s : ByteArray) : Face w0 T cs s 0 (((w0.alloc (.cells cs T)).alloc (.cells #[.int .i64 0] 25)).alloc (.cells #[.string s, .int .i64 0] 98)) := by
  have h := Rd.new0 ((w0.alloc (.cells cs T)).alloc (.cells #[.int .i64 0] 25)) s
  have h1 := (Box.new (w0.alloc (.cells cs T)) #[.int .i64 0] 25).alloc (.cells #[.string s, .int .i64 0] 98)
  simp only [World.size_alloc] at h h1
  exact ⟨(((Below.refl _ _).alloc (Nat.le_refl _) _).alloc (by simp) _).alloc (by simp; omega) _, ((Box.new w0 cs T).alloc _).alloc _, h1, h, by simp⟩
theorem rd (h : Face w0 T cs s p w) (hc : Ch w.heap.size (· = w0.heap.size + 2) w w') (hr : Rd w' (w0.heap.size + 2) s p') : Face w0 T cs s p' w' := by
  have := h.own
  exact ⟨h.ch.trans ((hc.mono (B' := w0.heap.size) (S' := fun _ => False) (by omega) (fun k hk e => by omega)).below (fun _ _ h => h)), h.b.ch hc (by omega) (by omega), h.e.ch hc (by omega) (by omega), hr, Nat.lt_of_lt_of_le h.own hc.size⟩
theorem err (h : Face w0 T cs s p w) (hc : Ch w.heap.size (· = w0.heap.size + 2) w w') : FaceE w0 T cs w' := by
  have := h.own
  exact ⟨h.ch.trans ((hc.mono (B' := w0.heap.size) (S' := fun _ => False) (by omega) (fun k hk e => by omega)).below (fun _ _ h => h)), h.b.ch hc (by omega) (by omega), h.e.ch hc (by omega) (by omega)⟩
theorem set (h : Face w0 T cs s p w) (i : Nat) (v : Value) : Face w0 T (cs.setIfInBounds i v) s p (w.setCell ⟨w0.heap.size, i, none⟩ v) :=
  ⟨h.ch.setCell (p := ⟨w0.heap.size, i, none⟩) (Nat.le_refl _) v, h.b.set i v, h.e.other (by simp) v, h.r.other (by simp) v, by simpa using h.own⟩
theorem drewN (h : Face w0 T cs s p w) (n : Nat) : Face w0 T cs s p (w.drewN n) := ⟨⟨h.ch.1, h.ch.2, h.ch.3, h.ch.4, h.ch.5⟩, h.b, h.e, h.r.drewN n, h.own⟩
theorem drew (h : Face w0 T cs s p w) : Face w0 T cs s p w.drew := h.drewN 1
theorem alloc (h : Face w0 T cs s p w) (o : Obj) : Face w0 T cs s p (w.alloc o) := by
  have := h.own
  exact ⟨h.ch.alloc (by omega) o, h.b.alloc o, h.e.alloc o, h.r.alloc o, by simp; omega⟩
/-- A call that changes new memory alone, or blocks from base on. -/
theorem call {B : Nat} {S : Nat → Prop} (h : Face w0 T cs s p w) (hc : Ch B S w w') (hB : w0.heap.size + 2 < B) (hS : ∀ k, k ≤ w0.heap.size + 2 → ¬ S k) : Face w0 T cs s p w' :=
  ⟨h.ch.trans ((hc.mono (B' := w0.heap.size) (S' := fun _ => False) (by omega) (fun k hk e => hS k (by omega) e)).below (fun _ _ h => h)), h.b.ch hc (by omega) (hS _ (by omega)), h.e.ch hc (by omega) (hS _ (by omega)),
    ⟨(hc.cell (p := ⟨w0.heap.size + 2, 0, none⟩) hB (hS _ (Nat.le_refl _))).trans h.r.1, (hc.cell (p := ⟨w0.heap.size + 2, 1, none⟩) hB (hS _ (Nat.le_refl _))).trans h.r.2, (hc.frozen (p := ⟨w0.heap.size + 2, 1, none⟩) hB (hS _ (Nat.le_refl _))).trans h.r.3⟩,
    Nat.lt_of_lt_of_le h.own hc.size⟩
theorem errno (h : Face w0 T cs s p w) : w.cell? ⟨w0.heap.size + 1, 0, none⟩ = some (.int .i64 0) ∧ w.frozen? ⟨w0.heap.size + 1, 0, none⟩ = false := h.e.facts1
end Face

/-- n messages more, behind those that were read. -/
def many (s : ByteArray) : Nat → Nat → List Sg → Except Nat (List Sg × Nat)
  | 0, q, l => .ok (l, q)
  | n + 1, q, l => match signed s q with
    | .error e => .error e
    | .ok (m, p) => many s n p (l ++ [m])

def zeroBd : Bd := ⟨0, 0, 0, 0, 0, ⟨#[]⟩, ⟨#[]⟩, []⟩
def rdBody (s : ByteArray) : Except Nat Bd :=
  match num s 0 with
  | .error e => .error e
  | .ok (k, p) => match num s p with
    | .error e => .error e
    | .ok (v, p) => match num s p with
      | .error e => .error e
      | .ok (q, p) => match num s p with
        | .error e => .error e
        | .ok (c, p) => match num s p with
          | .error e => .error e
          | .ok (t, p) => match text s p with
            | .error e => .error e
            | .ok (d, p) => match text s p with
              | .error e => .error e
              | .ok (x, p) => match count s 64 p with
                | .error e => .error e
                | .ok (n, p) => match many s n p [] with
                  | .error e => .error e
                  | .ok (l, p) => if p < s.size then .error 12 else .ok ⟨k, v, q, c, t, d, x, l⟩
def ofBody (s : ByteArray) : Bd × Int :=
  if 1048576 < s.size then (zeroBd, 4) else match rdBody s with
    | .error c => (zeroBd, c)
    | .ok b => if rightE b = 0 then (b, 0) else (zeroBd, rightE b)

def OfPost (s : ByteArray) (w : World) (e : Ending) (w' : World) : Prop :=
  ∃ A c, e = .returned (.tuple #[(ofBody s).1.val A c, .int .i64 (ofBody s).2]) ∧ Below w.heap.size w w' ∧ w'.ownsRow w.heap.size 36 3 (.slice A (ofBody s).1.list.length c) (ofBody s).1.list.length ((ofBody s).1.list.flatMap Sg.cells)

theorem signed_bd {s : ByteArray} {q p : Nat} {m : Sg} (h : signed s q = .ok (m, p)) : q < p ∧ p ≤ s.size := by
  unfold signed at h
  split at h
  · cases h
  · rename_i n p1 hn
    have := num_bd hn
    split at h
    · cases h
    · rename_i t p2 ht
      have := text_bd ht
      split at h
      · cases h
      · rename_i g p3 hg
        have := text_bd hg
        simp only [Except.ok.injEq, Prod.mk.injEq] at h
        omega
end Go.Proofs.Ytehbpjkeflcanaa
