/- Records: what stands in memory, and whether they may be, in plain words. -/
import Derived.Test.YtehbpjkeflcanaaRightEq
import Derived.Test.YtehbpjkeflcanaaSl
namespace Go.Proofs.Ytehbpjkeflcanaa
set_option linter.unusedSimpArgs false
set_option linter.unusedVariables false
open Go.RowKit

structure Rc where
  key : ByteArray
  val : ByteArray
def Rc.cells (m : Rc) : List Value := [.string m.key, .string m.val]
theorem Rc.cells_len (m : Rc) : m.cells.length = 2 := rfl
def RcS (w : World) (A : Option Addr) (c : Nat) (l : List Rc) : Prop := Sl w 2 A l.length c (l.flatMap Rc.cells)
theorem RcS.below {w w' : World} {A : Option Addr} {c : Nat} {l : List Rc} (h : RcS w A c l) (hb : Below w.heap.size w w') : RcS w' A c l := Sl.below h hb
theorem RcS.elem {w : World} {A : Option Addr} {c : Nat} {l : List Rc} (h : RcS w A c l) (k : Nat) (hk : k < l.length) : ∃ a, A = some a ∧ w.cell? (a.add (k * 2)) = some (.string l[k].key) ∧
    w.cell? ⟨(a.add (k * 2)).block, (a.add (k * 2)).off + 1, none⟩ = some (.string l[k].val) := by
  obtain ⟨a, rfl, h0, h1⟩ := Sl.elem h Rc.cells_len k hk (by decide)
  exact ⟨a, rfl, h0 _ rfl, h1 1 _ (by decide) rfl⟩

def geB (a b : ByteArray) : Bool := !(Op.bytesLess a.toList b.toList)
def rcBad (m : Rc) : Bool := decide (m.key.size = 0) || (decide (64 < m.key.size) || decide (4096 < m.val.size))
def codeAt (l : List Rc) (k : Nat) : Int := if h : k < l.length then (if rcBad l[k] = true then 14 else if h0 : 0 < k then (if geB (l[k - 1]'(by omega)).key l[k].key = true then 15 else 0) else 0) else 0
/-- What is wrong with the first k records. -/
def riseN (l : List Rc) : Nat → Int
  | 0 => 0
  | k + 1 => if riseN l k = 0 then codeAt l k else riseN l k
def riseE (l : List Rc) : Int := if 4096 < l.length then 2 else riseN l l.length
theorem riseN_stop {l : List Rc} {k : Nat} {c : Int} (h0 : riseN l k = 0) (hc : codeAt l k = c) (hne : c ≠ 0) : ∀ n, k < n → riseN l n = c
  | 0, h => by omega
  | n + 1, h => by
    unfold riseN
    by_cases e : k = n
    · subst e; rw [if_pos h0, hc]
    · rw [riseN_stop h0 hc hne n (by omega), if_neg hne]
theorem riseN_next {l : List Rc} {k : Nat} (h0 : riseN l k = 0) (hc : codeAt l k = 0) : riseN l (k + 1) = 0 := by
  unfold riseN; rw [if_pos h0, hc]
theorem codeAt_bad {l : List Rc} {k : Nat} (h : k < l.length) (hb : rcBad l[k] = true) : codeAt l k = 14 := by
  unfold codeAt; rw [dif_pos h, if_pos hb]
theorem codeAt_first {l : List Rc} (h : 0 < l.length) (hb : rcBad l[0] = false) : codeAt l 0 = 0 := by
  unfold codeAt; rw [dif_pos h, if_neg (by rw [hb]; decide), dif_neg (by omega)]
theorem codeAt_next {l : List Rc} {j : Nat} (h : j + 1 < l.length) (hb : rcBad l[j + 1] = false) : codeAt l (j + 1) = if geB l[j].key l[j + 1].key = true then 15 else 0 := by
  unfold codeAt; rw [dif_pos h, if_neg (by rw [hb]; decide), dif_pos (by omega)]; rfl
end Go.Proofs.Ytehbpjkeflcanaa
