/- Whether two lists of records are the same. -/
import Derived.Test.YtehbpjkeflcanaaRec
namespace Go.Proofs.Ytehbpjkeflcanaa
set_option linter.unusedSimpArgs false
set_option linter.unusedVariables false
open Go.RowKit

def Rc.vals (m : Rc) : Value := .agg #[.string m.key, .string m.val]
def sameRc (a b : Rc) : Bool := decide (a.key = b.key) && decide (a.val = b.val)
theorem sameRc_iff {a b : Rc} : sameRc a b = true ↔ a = b := by
  cases a; cases b
  simp [sameRc]
def sameR : List Rc → List Rc → Bool
  | [], [] => true
  | x :: l, y :: m => sameRc x y && sameR l m
  | _, _ => false
theorem sameR_iff : ∀ {l m : List Rc}, sameR l m = true ↔ l = m
  | [], [] => by simp [sameR]
  | [], _ :: _ => by simp [sameR]
  | _ :: _, [] => by simp [sameR]
  | x :: l, y :: m => by simp [sameR, sameRc_iff, sameR_iff]
theorem sameR_no {l m : List Rc} (h : l ≠ m) : sameR l m = false := by
  rw [← Bool.not_eq_true, sameR_iff]; exact h
theorem eqRc (x1 y1 x2 y2 : ByteArray) (w : World) : (Op.equalIn 10000 114 (.agg #[.string x1, .string x2]) (.agg #[.string y1, .string y2])).run Try.prog w = .ok (x1.toList == y1.toList && x2.toList == y2.toList) w := by
  rw [show (10000 : Nat) = 9999 + 1 from rfl, run_equalIn_struct (P := Try.prog) w 9999 114 _ _ (by kernel_rfl) (by kernel_rfl)]
  simp only [Program.fieldsOf, Try.underlying114]
  simp [Op.eqFields, go_sem]
  by_cases h1 : x1.toList = y1.toList <;> by_cases h2 : x2.toList = y2.toList <;> simp [h1, h2]
theorem eqRc_no {x y : Rc} (h : x ≠ y) (w : World) : (Op.equalIn 10000 114 x.vals y.vals).run Try.prog w = .ok false w := by
  unfold Rc.vals
  rw [eqRc]
  congr 1
  rw [← Bool.not_eq_true]
  intro hc
  simp only [Bool.and_eq_true, beq_iff_eq] at hc
  apply h
  cases x; cases y
  simp only at hc
  rw [toList_eq hc.1, toList_eq hc.2]

set_option maxRecDepth 100000 in
theorem sameRecs_calls (A B : Option Addr) (c d : Nat) (l m : List Rc) (w : World) (hl : RcS w A c l) (hm : RcS w B d m) : Calls Try.prog 51 #[.slice A l.length c, .slice B m.length d] w (BoolPost (sameR l m) w) := by
  have hf1 := hl.fits
  have hf2 := hm.fits
  have HL := Lib.hid hl
  have HM := Lib.hid hm
  clear hl hm
  by_cases hlen : l.length = m.length
  · have hd0 : ((l.length : Int) == (m.length : Int)) = true := by simp; omega
    have hd00 : ((l.length : Int) != (m.length : Int)) = false := by rw [bne, hd0]; rfl
    have HLEN := Lib.hid hlen
    clear hlen
    go_enter Try.func51, Try.ntmps51
    go_wp2
    go_loopg [5] l.length (fun g vi wr => ∃ k : Nat, vi = .int .i64 k ∧ k ≤ l.length ∧ Hid (g + k = l.length ∧ Below w.heap.size w wr ∧ l.take k = m.take k))
    case atStart => exact ⟨0, rfl, by omega, rfl, Below.refl _ _, rfl⟩
    case round =>
      obtain ⟨k, rfl, hk, HH⟩ := hrel
      obtain ⟨hg, hb, ht⟩ := HH.out
      have HGK := Lib.hid hg
      have HB := Lib.hid hb
      have HT := Lib.hid ht
      have hsz := hb.size
      clear HH hb ht hg
      by_cases hlt : k < l.length
      · have hd : decide ((k : Int) < (l.length : Int)) = true := by simp; omega
        have hlt2 : k < m.length := by have := HLEN.out; omega
        obtain ⟨a, rfl, h0, h1⟩ := (HL.out.below HB.out).elem k hlt
        obtain ⟨b, rfl, g0, g1⟩ := (HM.out.below HB.out).elem k hlt2
        obtain ⟨x, hx⟩ : ∃ x, x = l[k] := ⟨_, rfl⟩
        obtain ⟨y, hy⟩ : ∃ y, y = m[k] := ⟨_, rfl⟩
        rw [← hx] at h0 h1
        rw [← hy] at g0 g1
        have HX := Lib.hid hx
        have HY := Lib.hid hy
        clear hx hy
        by_cases hxy : x = y
        · have HXY := Lib.hid hxy
          subst hxy
          obtain ⟨key, val⟩ := x
          simp only at h0 h1 g0 g1
          go_wp2_with fail
          go_quiet (fail)
          go_wp2
          go_roundg (gk - 1)
          case measure => have := HGK.out; omega
          case rel => exact ⟨k + 1, by go_num, by omega, by have := HGK.out; omega, below_drewN HB.out _, by rw [List.take_succ_eq_append_getElem hlt, List.take_succ_eq_append_getElem hlt2, HT.out, ← HX.out, ← HY.out]⟩
        · have HE := Lib.hid (sameR_no (l := l) (m := m) (by rintro rfl; exact hxy (HX.out.trans HY.out.symm)))
          have hq := eqRc_no hxy
          obtain ⟨key, val⟩ := x
          obtain ⟨key', val'⟩ := y
          clear hxy
          simp only at h0 h1 g0 g1
          simp only [Rc.vals] at hq
          go_wp2_with fail
          go_quiet (fail)
          go_wp2
          go_ret
          exact ⟨ret_bool HE.out.symm, below_drewN HB.out _⟩
      · have hd : decide ((k : Int) < (l.length : Int)) = false := by simp; omega
        have HE := Lib.hid (show sameR l m = true by rw [sameR_iff, ← List.take_of_length_le (i := k) (l := l) (by omega), HT.out]; exact List.take_of_length_le (by have := HLEN.out; omega))
        go_wp2
        go_ret
        exact ⟨ret_bool HE.out.symm, HB.out⟩
  · have hd0 : ((l.length : Int) == (m.length : Int)) = false := by simp; omega
    have HE := Lib.hid (sameR_no (l := l) (m := m) (by rintro rfl; exact hlen rfl))
    go_enter Try.func51, Try.ntmps51
    go_wp2
    go_ret
    exact ⟨ret_bool HE.out.symm, Below.refl _ _⟩
end Go.Proofs.Ytehbpjkeflcanaa
