/- Whether two lists of messages, or two bodies, are the same. -/
import Derived.Test.YtehbpjkeflcanaaBody
import Derived.Test.YtehbpjkeflcanaaRight
import Derived.Laws.StructEq
namespace Go.Proofs.Ytehbpjkeflcanaa
set_option linter.unusedSimpArgs false
set_option linter.unusedVariables false
open Go.RowKit

def sameSg (a b : Sg) : Bool := decide (a.who = b.who) && (decide (a.body = b.body) && decide (a.sig = b.sig))
theorem sameSg_iff {a b : Sg} : sameSg a b = true ↔ a = b := by
  cases a; cases b
  simp [sameSg]
def sameL : List Sg → List Sg → Bool
  | [], [] => true
  | x :: l, y :: m => sameSg x y && sameL l m
  | _, _ => false
theorem sameL_iff : ∀ {l m : List Sg}, sameL l m = true ↔ l = m
  | [], [] => by simp [sameL]
  | [], _ :: _ => by simp [sameL]
  | _ :: _, [] => by simp [sameL]
  | x :: l, y :: m => by simp [sameL, sameSg_iff, sameL_iff]
theorem sameL_no {l m : List Sg} (h : l ≠ m) : sameL l m = false := by
  rw [← Bool.not_eq_true, sameL_iff]; exact h

theorem eqSg (x0 y0 : Int) (x1 y1 x2 y2 : ByteArray) (w : World) : (Op.equalIn 10000 36 (.agg #[.int .i64 x0, .string x1, .string x2]) (.agg #[.int .i64 y0, .string y1, .string y2])).run Try.prog w = .ok (x0 == y0 && (x1.toList == y1.toList && x2.toList == y2.toList)) w := by
  rw [show (10000 : Nat) = 9999 + 1 from rfl, run_equalIn_struct (P := Try.prog) w 9999 36 _ _ (by kernel_rfl) (by kernel_rfl)]
  simp only [Program.fieldsOf, Try.underlying36]
  simp [Op.eqFields, go_sem]
  by_cases h0 : x0 = y0 <;> by_cases h1 : x1.toList = y1.toList <;> by_cases h2 : x2.toList = y2.toList <;> simp [h0, h1, h2]
theorem toList_eq {a b : ByteArray} (h : a.toList = b.toList) : a = b := by
  have e := beq_toListBytes a b
  rw [h, beq_self_eq_true] at e
  obtain ⟨x⟩ := a
  obtain ⟨y⟩ := b
  have e : (x == y) = true := e
  rw [eq_of_beq e]
theorem below_drewN {B : Nat} {w0 w : World} (h : Below B w0 w) (n : Nat) : Below B w0 (w.drewN n) := ⟨h.1, h.2, h.3, h.4, h.5⟩
theorem eqSg_no {x y : Sg} (h : x ≠ y) (w : World) : (Op.equalIn 10000 36 x.val y.val).run Try.prog w = .ok false w := by
  unfold Sg.val
  rw [eqSg]
  congr 1
  rw [← Bool.not_eq_true]
  intro hc
  simp only [Bool.and_eq_true, beq_iff_eq] at hc
  apply h
  cases x; cases y
  simp only at hc
  rw [hc.1, toList_eq hc.2.1, toList_eq hc.2.2]

set_option maxRecDepth 100000 in
theorem sameAll_calls (A B : Option Addr) (c d : Nat) (l m : List Sg) (w : World) (hl : SgS w A c l) (hm : SgS w B d m) : Calls Try.prog 40 #[.slice A l.length c, .slice B m.length d] w (BoolPost (sameL l m) w) := by
  have hf1 := hl.fits
  have hf2 := hm.fits
  have HL := Lib.hid hl
  have HM := Lib.hid hm
  clear hl hm
  by_cases hlen : l.length = m.length
  · have hd0 : ((l.length : Int) == (m.length : Int)) = true := by simp; omega
    have hd00 : ((l.length : Int) != (m.length : Int)) = false := by rw [bne, hd0]; rfl
    have HLEN := Lib.hid hlen
    clear hlen
    go_enter Try.func40, Try.ntmps40
    go_wp2
    go_loopg [5] l.length (fun g vi wr => ∃ k : Nat, vi = .int .i64 k ∧ k ≤ l.length ∧ Hid (g + k = l.length ∧ Below w.heap.size w wr ∧ l.take k = m.take k))
    case atStart => exact ⟨0, rfl, by omega, rfl, Below.refl _ _, rfl⟩
    case round =>
      obtain ⟨k, rfl, hk, HH⟩ := hrel
      obtain ⟨hg, hb, ht⟩ := HH.out
      have HGK := Lib.hid hg
      have HB := Lib.hid hb
      have HT := Lib.hid ht
      have hsz := hb.size
      clear HH hb ht hg
      by_cases hlt : k < l.length
      · have hd : decide ((k : Int) < (l.length : Int)) = true := by simp; omega
        have hlt2 : k < m.length := by have := HLEN.out; omega
        obtain ⟨a, rfl, h0, h1, h2⟩ := (HL.out.below HB.out).elem k hlt
        obtain ⟨b, rfl, g0, g1, g2⟩ := (HM.out.below HB.out).elem k hlt2
        obtain ⟨x, hx⟩ : ∃ x, x = l[k] := ⟨_, rfl⟩
        obtain ⟨y, hy⟩ : ∃ y, y = m[k] := ⟨_, rfl⟩
        rw [← hx] at h0 h1 h2
        rw [← hy] at g0 g1 g2
        have HX := Lib.hid hx
        have HY := Lib.hid hy
        clear hx hy
        by_cases hxy : x = y
        · have HXY := Lib.hid hxy
          subst hxy
          obtain ⟨who, body, sig⟩ := x
          simp only at h0 h1 h2 g0 g1 g2
          go_wp2_with fail
          go_quiet (fail)
          go_wp2
          go_roundg (gk - 1)
          case measure => have := HGK.out; omega
          case rel => exact ⟨k + 1, by go_num, by omega, by have := HGK.out; omega, below_drewN HB.out _, by rw [List.take_succ_eq_append_getElem hlt, List.take_succ_eq_append_getElem hlt2, HT.out, ← HX.out, ← HY.out]⟩
        · have HE := Lib.hid (sameL_no (l := l) (m := m) (by rintro rfl; exact hxy (HX.out.trans HY.out.symm)))
          have hq := eqSg_no hxy
          obtain ⟨who, body, sig⟩ := x
          obtain ⟨who', body', sig'⟩ := y
          clear hxy
          simp only at h0 h1 h2 g0 g1 g2
          simp only [Sg.val] at hq
          go_wp2_with fail
          go_quiet (fail)
          go_wp2
          go_ret
          exact ⟨ret_bool HE.out.symm, below_drewN HB.out _⟩
      · have hd : decide ((k : Int) < (l.length : Int)) = false := by simp; omega
        have HE := Lib.hid (show sameL l m = true by rw [sameL_iff, ← List.take_of_length_le (i := k) (l := l) (by omega), HT.out]; exact List.take_of_length_le (by have := HLEN.out; omega))
        go_wp2
        go_ret
        exact ⟨ret_bool HE.out.symm, HB.out⟩
  · have hd0 : ((l.length : Int) == (m.length : Int)) = false := by simp; omega
    have HE := Lib.hid (sameL_no (l := l) (m := m) (by rintro rfl; exact hlen rfl))
    go_enter Try.func40, Try.ntmps40
    go_wp2
    go_ret
    exact ⟨ret_bool HE.out.symm, Below.refl _ _⟩
end Go.Proofs.Ytehbpjkeflcanaa
