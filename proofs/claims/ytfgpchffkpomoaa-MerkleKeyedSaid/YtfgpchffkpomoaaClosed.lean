/- The program's head word: that it is a cut, and that no lift stands in it. -/
import Derived.Test.YtfgpchffkpomoaaRows
import Derived.KernelRfl
namespace Go.Proofs.Ytfgpchffkpomoaa
open Go
set_option linter.unusedSimpArgs false

def signsOf (l : List Nat) : List Char := l.map Char.ofNat
def head0 : List Char := signsOf [104, 97, 114, 110, 101, 115, 115]
def head1 : List Char := signsOf [49, 98, 52, 54, 56, 51, 102, 56, 53, 49, 57, 56, 100, 51, 48, 102, 100, 52, 56, 56, 52, 57, 51, 48, 99, 57, 53, 54, 102, 98, 50, 53, 57, 54, 54, 52, 99, 51, 50, 56, 98, 55, 50, 102, 53, 101, 56, 102, 52, 56, 55, 51, 100, 99, 50, 99, 55, 48, 50, 99, 49, 55, 52, 53]
def head2 : List Char := signsOf [99, 117, 116]
def head3 : List Char := signsOf [97, 116, 32, 103, 97, 118, 101, 108, 47, 103, 97, 118, 101, 108, 108, 97, 119, 48, 52, 46, 77, 101, 114, 107, 108, 101, 82, 111, 111, 116, 115, 32, 103, 97, 118, 101, 108, 47, 103, 97, 118, 101, 108, 108, 97, 119, 48, 52, 46, 77, 101, 114, 107, 108, 101, 80, 114, 111, 118, 101, 115, 32, 103, 97, 118, 101, 108, 47, 103, 97, 118, 101, 108, 108, 97, 119, 48, 52, 46, 77, 101, 114, 107, 108, 101, 72, 111, 108, 100, 115, 32, 103, 97, 118, 101, 108, 47, 103, 97, 118, 101, 108, 108, 97, 119, 48, 52, 46, 77, 101, 114, 107, 108, 101, 83, 111, 117, 110, 100, 32, 103, 97, 118, 101, 108, 47, 103, 97, 118, 101, 108, 108, 97, 119, 48, 52, 46, 77, 101, 114, 107, 108, 101, 66, 101, 110, 116, 32, 103, 97, 118, 101, 108, 47, 103, 97, 118, 101, 108, 108, 97, 119, 48, 52, 46, 77, 101, 114, 107, 108, 101, 65, 112, 97, 114, 116, 32, 103, 97, 118, 101, 108, 47, 103, 97, 118, 101, 108, 108, 97, 119, 48, 52, 46, 77, 101, 114, 107, 108, 101, 75, 101, 121, 101, 100, 32, 103, 97, 118, 101, 108, 47, 103, 97, 118, 101, 108, 108, 97, 119, 48, 51, 46, 65, 117, 116, 104, 110, 65, 112, 97, 114, 116, 32, 103, 97, 118, 101, 108, 47, 103, 97, 118, 101, 108, 108, 97, 119, 48, 51, 46, 65, 117, 116, 104, 110, 83, 101, 97, 108, 115, 32, 103, 97, 118, 101, 108, 47, 103, 97, 118, 101, 108, 108, 97, 119, 48, 51, 46, 65, 117, 116, 104, 110, 79, 112, 101, 110, 115, 32, 103, 97, 118, 101, 108, 47, 103, 97, 118, 101, 108, 108, 97, 119, 48, 51, 46, 65, 117, 116, 104, 110, 81, 117, 111, 114, 117, 109, 32, 103, 97, 118, 101, 108, 47, 103, 97, 118, 101, 108, 108, 97, 119, 48, 51, 46, 65, 117, 116, 104, 110, 84, 119, 105, 99, 101, 32, 103, 97, 118, 101, 108, 47, 103, 97, 118, 101, 108, 108, 97, 119, 48, 51, 46, 65, 117, 116, 104, 110, 85, 110, 108, 105, 107, 101, 32, 103, 97, 118, 101, 108, 47, 103, 97, 118, 101, 108, 108, 97, 119, 48, 51, 46, 65, 117, 116, 104, 110, 80, 108, 97, 121, 115, 32, 103, 97, 118, 101, 108, 47, 103, 97, 118, 101, 108, 108, 97, 119, 48, 51, 46, 65, 117, 116, 104, 110, 70, 111, 114, 103, 101, 100, 32, 103, 97, 118, 101, 108, 47, 103, 97, 118, 101, 108, 108, 97, 119, 48, 51, 46, 65, 117, 116, 104, 110, 78, 111, 98, 111, 100, 121, 32, 103, 97, 118, 101, 108, 47, 103, 97, 118, 101, 108, 108, 97, 119, 48, 51, 46, 65, 117, 116, 104, 110, 75, 101, 121, 101, 100, 32, 103, 97, 118, 101, 108, 47, 103, 97, 118, 101, 108, 108, 97, 119, 48, 51, 46, 65, 117, 116, 104, 110, 83, 104, 97, 114, 101, 100, 32, 103, 97, 118, 101, 108, 47, 103, 97, 118, 101, 108, 108, 97, 119, 49, 50, 46, 67, 108, 105, 101, 110, 116, 76, 105, 101, 115, 32, 103, 97, 118, 101, 108, 47, 103, 97, 118, 101, 108, 108, 97, 119, 49, 50, 46, 67, 108, 105, 101, 110, 116, 83, 116, 97, 109, 112, 115, 32, 103, 97, 118, 101, 108, 47, 103, 97, 118, 101, 108, 108, 97, 119, 49, 50, 46, 67, 108, 105, 101, 110, 116, 80, 108, 97, 121, 115, 32, 103, 97, 118, 101, 108, 47, 103, 97, 118, 101, 108, 108, 97, 119, 49, 50, 46, 67, 108, 105, 101, 110, 116, 65, 115, 107, 115, 32, 103, 97, 118, 101, 108, 47, 103, 97, 118, 101, 108, 108, 97, 119, 48, 52, 46, 77, 101, 114, 107, 108, 101, 79, 114, 100, 101, 114, 32, 103, 97, 118, 101, 108, 47, 103, 97, 118, 101, 108, 108, 97, 119, 48, 52, 46, 77, 101, 114, 107, 108, 101, 66, 97, 99, 107, 32, 103, 97, 118, 101, 108, 47, 103, 97, 118, 101, 108, 108, 97, 119, 48, 52, 46, 77, 101, 114, 107, 108, 101, 71, 114, 111, 119, 115, 32, 103, 97, 118, 101, 108, 47, 103, 97, 118, 101, 108, 108, 97, 119, 48, 52, 46, 77, 101, 114, 107, 108, 101, 78, 111, 98, 111, 100, 121, 32, 103, 97, 118, 101, 108, 47, 103, 97, 118, 101, 108, 108, 97, 119, 49, 50, 46, 67, 108, 105, 101, 110, 116, 86, 101, 114, 105, 102, 105, 101, 115, 32, 103, 97, 118, 101, 108, 47, 103, 97, 118, 101, 108, 108, 97, 119, 49, 50, 46, 67, 108, 105, 101, 110, 116, 78, 101, 119, 32, 103, 97, 118, 101, 108, 47, 103, 97, 118, 101, 108, 108, 97, 119, 49, 50, 46, 67, 108, 105, 101, 110, 116, 76, 105, 103, 104, 116, 32, 103, 97, 118, 101, 108, 47, 103, 97, 118, 101, 108, 108, 97, 119, 49, 50, 46, 67, 108, 105, 101, 110, 116, 79, 116, 104, 101, 114, 32, 103, 97, 118, 101, 108, 47, 103, 97, 118, 101, 108, 116, 111, 112, 46, 87, 104, 111, 108, 101, 80, 114, 111, 111, 102, 115]
theorem words_blank (r : List Char) : wordsSigns (Char.ofNat 32 :: r) = [] :: wordsSigns r := rfl
theorem words_other {c : Char} (h : c ≠ Char.ofNat 32) (r w : List Char) (ws : List (List Char)) (hr : wordsSigns r = w :: ws) : wordsSigns (c :: r) = (c :: w) :: ws := by
  unfold wordsSigns
  split
  · rename_i e; cases e
  · rename_i r' e; simp only [List.cons.injEq] at e; exact absurd e.1 h
  · rename_i c' r' _ e
    simp only [List.cons.injEq] at e
    obtain ⟨rfl, rfl⟩ := e
    rw [hr]
theorem words_word : ∀ (w r : List Char), (∀ c ∈ w, c ≠ Char.ofNat 32) → wordsSigns (w ++ Char.ofNat 32 :: r) = w :: wordsSigns r
  | [], r, _ => words_blank r
  | c :: w, r, h => words_other (h c (by simp)) _ _ _ (words_word w r (fun d hd => h d (by simp [hd])))
theorem head_is : Try.prog.initOrder = String.ofList (head0 ++ Char.ofNat 32 :: (head1 ++ Char.ofNat 32 :: (head2 ++ Char.ofNat 32 :: head3))) := by kernel_rfl
theorem words_is : wordsSigns Try.prog.initOrder.toList = head0 :: head1 :: head2 :: wordsSigns head3 := by
  rw [(congrArg String.toList head_is).trans String.toList_ofList, words_word _ _ (by decide), words_word _ _ (by decide), words_word _ _ (by decide)]
theorem a1 : (head0 == "harness".toList) = true := by kernel_rfl
theorem a2 : isSumSigns head1 = true := by kernel_rfl
theorem a3 : (head2 == "cut".toList) = true := by kernel_rfl
theorem a4 : (head2 == "gc".toList) = false := by kernel_rfl
theorem a5 : (head2 == "spec".toList) = false := by kernel_rfl
theorem a6 : (head2 == "carried".toList) = false := by kernel_rfl
theorem behind_is (x : List (List Char)) : behindMainWord (head0 :: head1 :: head2 :: x) = head2 :: x := by
  show (if ((head0 == "harness".toList || head0 == "ownmain".toList) && isSumSigns head1) = true then head2 :: x else head0 :: head1 :: head2 :: x) = _
  rw [a1, a2]
  rfl
theorem strip_is (x : List (List Char)) : stripLifts liftWords (head2 :: x) = ([], head2 :: x) := rfl
section
variable {P : Program} {x : List (List Char)} (h : wordsSigns P.initOrder.toList = head0 :: head1 :: head2 :: x)
include h
theorem make_of : P.make = some .cut := by
  unfold Program.make
  rw [h, behind_is]
  simp only [a3, a4, a5]
  rfl
theorem headLifts_of : P.headLifts = [] := by
  unfold Program.headLifts
  rw [h, behind_is, strip_is]
  simp
theorem lifts_of : P.liftsFinal = false := by
  unfold Program.liftsFinal
  rw [h, behind_is, headLifts_of h]
  show (((head2 == "carried".toList) && _) || _) = false
  rw [a6]
  rfl
theorem enter_of (hl : P.laysLater = false) (hb : P.bearsReflect = false) (hd : P.doorFits [] = true) : P.mayEnter = true := by
  unfold Program.mayEnter
  rw [h, behind_is]
  simp only [a4, a5, a6, strip_is, hl, hb, hd]
  have e : head2 = "cut".toList := by have := a3; rwa [beq_iff_eq] at this
  rw [e]
  rfl
end
theorem make_is : Try.prog.make = some .cut := make_of words_is
theorem lifts_is : Try.prog.liftsFinal = false := lifts_of words_is
theorem enter_is : Try.prog.mayEnter = true := enter_of words_is (by kernel_rfl) (by kernel_rfl) (by kernel_rfl)
end Go.Proofs.Ytfgpchffkpomoaa
