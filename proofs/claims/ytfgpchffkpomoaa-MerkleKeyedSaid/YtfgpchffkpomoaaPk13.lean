/- Texts of this proof, several in one file; each says ahead of it what it proves. -/
import Derived.Test.YtfgpchffkpomoaaPk05
/- The document's table of kinds: which fields a body has. -/
namespace Go.Proofs.Ytfgpchffkpomoaa
set_option linter.unusedSimpArgs false
set_option linter.unusedVariables false
open Go.RowKit

/-- Does the letter c stand among the first k of s? -/
def hasN (s : ByteArray) (c : Nat) : Nat → Bool
  | 0 => false
  | k + 1 => hasN s c k || (byteAt s k == c)
def names : ByteArray := ⟨#[86, 83, 67, 84, 68, 88, 76]⟩
def okAt (fl : List Bool) (may must : ByteArray) (i : Nat) : Bool :=
  !((fl.getD i false && !hasN may (byteAt names i) may.size) || (!fl.getD i false && hasN must (byteAt names i) must.size))
def allowedN (fl : List Bool) (may must : ByteArray) : Nat → Bool
  | 0 => true
  | i + 1 => allowedN fl may must i && okAt fl may must i
def allowedB (fl : List Bool) (may must : ByteArray) : Bool := allowedN fl may must 7

theorem allowedN_no {fl : List Bool} {may must : ByteArray} {i : Nat} (h : okAt fl may must i = false) : ∀ n, i < n → allowedN fl may must n = false
  | 0, hn => by omega
  | n + 1, hn => by
    unfold allowedN
    by_cases e : i = n
    · subst e; rw [h, Bool.and_false]
    · rw [allowedN_no h n (by omega), Bool.false_and]

set_option maxHeartbeats 2000000 in
set_option maxRecDepth 100000 in
theorem allowed_calls (b : Bd) (A : Option Addr) (c : Nat) (may must : ByteArray) (w : World) (hl : b.list.length ≤ 9223372036854775807) (hmay : may.size ≤ 1000) (hmust : must.size ≤ 1000) :
    Calls Try.prog 164 #[b.val A c, .string may, .string must] w (BoolPost (allowedB b.flags may must) w) := by
  obtain ⟨kind, view, seq, client, stamp, digest, tx, list⟩ := b
  obtain ⟨fl, hfl⟩ : ∃ fl : List Bool, fl = [view != 0, seq != 0, client != 0, stamp != 0, !digest.toList.isEmpty, !tx.toList.isEmpty, decide (0 < list.length)] := ⟨_, rfl⟩
  have HE := Lib.hid (show Bd.flags ⟨kind, view, seq, client, stamp, digest, tx, list⟩ = fl by rw [hfl]; rfl)
  have HF := Lib.hid (show (fl.map Value.bool).toArray = #[.bool (view != 0), .bool (seq != 0), .bool (client != 0), .bool (stamp != 0), .bool (!digest.toList.isEmpty), .bool (!tx.toList.isEmpty), .bool (decide (0 < list.length))] by rw [hfl]; rfl)
  have HFL := Lib.hid (show fl.length = 7 by rw [hfl]; rfl)
  clear hfl
  obtain ⟨nm, hnm⟩ : ∃ nm, nm = names := ⟨_, rfl⟩
  have HNM := Lib.hid hnm
  have hns : nm.size = 7 := by rw [hnm]; rfl
  have HNS := Lib.hid hns
  have hcon : (⟨#[86, 83, 67, 84, 68, 88, 76]⟩ : ByteArray) = nm := hnm.symm
  have HCON := Lib.hid hcon
  clear hnm hns hcon
  unfold Bd.val Bd.cells
  simp only at *
  go_enter Try.func164, Try.ntmps164
  go_wp2
  rw [HCON.out]
  go_loopg [9] 7 (fun g vi wr => ∃ i : Nat, vi = .int .i64 i ∧ i ≤ 7 ∧ Hid (g + i = 7 ∧ allowedN fl may must i = true ∧ Box wr (w.heap.size + 1) (fl.map Value.bool).toArray 4 ∧ Below w.heap.size w wr))
  case atStart =>
    refine ⟨0, rfl, by omega, rfl, rfl, ?_, ((Below.refl _ _).alloc (Nat.le_refl _) _).alloc (by simp) _⟩
    have h := Box.new (w.alloc (.cells #[.int .i64 kind, .int .i64 view, .int .i64 seq, .int .i64 client, .int .i64 stamp, .string digest, .string tx, .slice A list.length c] 59)) #[.bool (view != 0), .bool (seq != 0), .bool (client != 0), .bool (stamp != 0), .bool (!digest.toList.isEmpty), .bool (!tx.toList.isEmpty), .bool (decide (0 < list.length))] 4
    simp only [World.size_alloc] at h
    rw [HF.out]
    exact h
  case round =>
    obtain ⟨i, rfl, hi, HH⟩ := hrel
    obtain ⟨hg, hok, hb, hw⟩ := HH.out
    have HOK := Lib.hid hok
    have HB := Lib.hid hb
    have HW := Lib.hid hw
    have HG := Lib.hid hg
    clear HH hg hok hb hw
    by_cases hlt : i < 7
    · have hd1 : decide ((i : Int) < 7) = true := by simp; omega
      have hin : i < nm.size := by rw [HNS.out]; exact hlt
      obtain ⟨y, hy⟩ : ∃ y, nm[i].toNat = y := ⟨_, rfl⟩
      have HY := Lib.hid (show byteAt names i = y by rw [← HNM.out, ← byteAt_eq _ _ hin]; exact hy)
      obtain ⟨f, hf⟩ : ∃ f, f = fl[i]'(by have := HFL.out; omega) := ⟨_, rfl⟩
      have HFI := Lib.hid (show fl.getD i false = f by rw [hf, List.getD_eq_getElem?_getD, List.getElem?_eq_getElem (by have := HFL.out; omega)]; rfl)
      have HCELL := Lib.hid (fun (wx : World) (hbx : Box wx (w.heap.size + 1) (fl.map Value.bool).toArray 4) => (show wx.cell? ⟨w.heap.size + 1, i, none⟩ = some (.bool f) by rw [hbx.cell i, hf]; simp [show i < fl.length by have := HFL.out; omega]))
      clear hf
      go_wp2_with fail
      go_loopg [10, 12] may.size (fun g vb vk w2 => ∃ k : Nat, vb = .bool (hasN may y k) ∧ vk = .int .i64 k ∧ k ≤ may.size ∧ Hid (g + k = may.size ∧ Box w2 (w.heap.size + 1) (fl.map Value.bool).toArray 4 ∧ Below w.heap.size w w2))
      case atStart => exact ⟨0, rfl, rfl, Nat.zero_le _, rfl, HB.out, HW.out⟩
      case round =>
        obtain ⟨k, rfl, rfl, hk, HH⟩ := hrel
        obtain ⟨hg, hbx, hw⟩ := HH.out
        have HG2 := Lib.hid hg
        have HB2 := Lib.hid hbx
        have HW2 := Lib.hid hw
        clear HH hg hbx hw
        by_cases hlk : k < may.size
        · have hd2 : decide ((k : Int) < (may.size : Int)) = true := by simp; omega
          obtain ⟨x, hx⟩ : ∃ x, may[k].toNat = x := ⟨_, rfl⟩
          have hxb : byteAt may k = x := by rw [← byteAt_eq _ _ hlk]; exact hx
          have hst : hasN may y (k + 1) = (hasN may y k || (x == y)) := by rw [hasN, hxb]
          obtain ⟨bb, hbb⟩ : ∃ bb, bb = hasN may y k := ⟨_, rfl⟩
          rw [← hbb] at hst
          rw [← hbb]
          have HST := Lib.hid hst
          clear hbb hst hxb
          cases bb with
          | true =>
            go_wp2_with fail
            go_quiet (fail)
            go_wp2
            go_roundg (may.size - (k + 1))
            case measure => have := HG2.out; omega
            case rel => exact ⟨k + 1, by rw [HST.out]; rfl, by go_num, by omega, by omega, HB2.out, ⟨HW2.out.1, HW2.out.2, HW2.out.3, HW2.out.4, HW2.out.5⟩⟩
          | false =>
            by_cases hxy : x = y
            · have hd3 : ((x : Int) == (y : Int)) = true := by simp [hxy]
              have HXY := Lib.hid hxy
              clear hxy
              go_wp2_with fail
              go_quiet (fail)
              go_wp2
              go_roundg (may.size - (k + 1))
              case measure => have := HG2.out; omega
              case rel => exact ⟨k + 1, by rw [HST.out, HXY.out]; simp, by go_num, by omega, by omega, HB2.out, ⟨HW2.out.1, HW2.out.2, HW2.out.3, HW2.out.4, HW2.out.5⟩⟩
            · have hd3 : ((x : Int) == (y : Int)) = false := by simp; omega
              have HXY := Lib.hid hxy
              clear hxy
              go_wp2_with fail
              go_quiet (fail)
              go_wp2
              go_roundg (may.size - (k + 1))
              case measure => have := HG2.out; omega
              case rel => exact ⟨k + 1, by rw [HST.out]; simp [HXY.out], by go_num, by omega, by omega, HB2.out, ⟨HW2.out.1, HW2.out.2, HW2.out.3, HW2.out.4, HW2.out.5⟩⟩
        · have hd2 : decide ((k : Int) < (may.size : Int)) = false := by simp; omega
          obtain rfl : k = may.size := by omega
          clear hk hlk
          obtain ⟨i1, hi1⟩ : ∃ i1, i1 = hasN may y may.size := ⟨_, rfl⟩
          rw [← hi1]
          have HI1 := Lib.hid hi1
          obtain ⟨wo, rfl⟩ : ∃ wo : World, wo = wr := ⟨_, rfl⟩
          have HB1 := Lib.hid HB2.out
          have HW1 := Lib.hid HW2.out
          clear hi1 HB HW HG2 hd2 HB2 HW2
          have HB := Lib.hid HB1.out
          have HW := Lib.hid HW1.out
          clear HB1 HW1
          go_wp2_with fail
          go_loopg [11, 13] must.size (fun g vb vk w2 => ∃ k : Nat, vb = .bool (hasN must y k) ∧ vk = .int .i64 k ∧ k ≤ must.size ∧ Hid (g + k = must.size ∧ Box w2 (w.heap.size + 1) (fl.map Value.bool).toArray 4 ∧ Below w.heap.size w w2))
          case atStart => exact ⟨0, rfl, rfl, Nat.zero_le _, rfl, HB.out, HW.out⟩
          case round =>
            obtain ⟨k, rfl, rfl, hk, HH⟩ := hrel
            obtain ⟨hg, hbx, hw⟩ := HH.out
            have HG2 := Lib.hid hg
            have HB2 := Lib.hid hbx
            have HW2 := Lib.hid hw
            clear HH hg hbx hw
            by_cases hlk : k < must.size
            · have hd2 : decide ((k : Int) < (must.size : Int)) = true := by simp; omega
              obtain ⟨x, hx⟩ : ∃ x, must[k].toNat = x := ⟨_, rfl⟩
              have hxb : byteAt must k = x := by rw [← byteAt_eq _ _ hlk]; exact hx
              have hst : hasN must y (k + 1) = (hasN must y k || (x == y)) := by rw [hasN, hxb]
              obtain ⟨bb, hbb⟩ : ∃ bb, bb = hasN must y k := ⟨_, rfl⟩
              rw [← hbb] at hst
              rw [← hbb]
              have HST := Lib.hid hst
              clear hbb hst hxb
              cases bb with
              | true =>
                go_wp2_with fail
                go_quiet (fail)
                go_wp2
                go_roundg (must.size - (k + 1))
                case measure => have := HG2.out; omega
                case rel => exact ⟨k + 1, by rw [HST.out]; rfl, by go_num, by omega, by omega, HB2.out, ⟨HW2.out.1, HW2.out.2, HW2.out.3, HW2.out.4, HW2.out.5⟩⟩
              | false =>
                by_cases hxy : x = y
                · have hd3 : ((x : Int) == (y : Int)) = true := by simp [hxy]
                  have HXY := Lib.hid hxy
                  clear hxy
                  go_wp2_with fail
                  go_quiet (fail)
                  go_wp2
                  go_roundg (must.size - (k + 1))
                  case measure => have := HG2.out; omega
                  case rel => exact ⟨k + 1, by rw [HST.out, HXY.out]; simp, by go_num, by omega, by omega, HB2.out, ⟨HW2.out.1, HW2.out.2, HW2.out.3, HW2.out.4, HW2.out.5⟩⟩
                · have hd3 : ((x : Int) == (y : Int)) = false := by simp; omega
                  have HXY := Lib.hid hxy
                  clear hxy
                  go_wp2_with fail
                  go_quiet (fail)
                  go_wp2
                  go_roundg (must.size - (k + 1))
                  case measure => have := HG2.out; omega
                  case rel => exact ⟨k + 1, by rw [HST.out]; simp [HXY.out], by go_num, by omega, by omega, HB2.out, ⟨HW2.out.1, HW2.out.2, HW2.out.3, HW2.out.4, HW2.out.5⟩⟩
            · have hd2 : decide ((k : Int) < (must.size : Int)) = false := by simp; omega
              obtain rfl : k = must.size := by omega
              clear hk hlk
              obtain ⟨i2, hi2⟩ : ∃ i2, i2 = hasN must y must.size := ⟨_, rfl⟩
              rw [← hi2]
              have HI2 := Lib.hid hi2
              have hcell := HCELL.out _ HB2.out
              have HOKI := Lib.hid (show okAt fl may must i = !((f && !i1) || (!f && i2)) by unfold okAt; rw [HFI.out, HY.out, ← HI1.out, ← HI2.out])
              clear hi2 hd2
              rcases f with _ | _ <;> rcases i1 with _ | _ <;> rcases i2 with _ | _
              all_goals
                have hoki := HOKI.out
                simp only [Bool.not_true, Bool.not_false, Bool.and_true, Bool.true_and, Bool.false_and, Bool.and_false, Bool.or_false, Bool.false_or, Bool.or_true, Bool.true_or] at hoki
                have HO2 := Lib.hid hoki
                clear hoki HOKI
                go_wp2
                first
                  | (go_roundg (7 - (i + 1))
                     case measure => have := HG.out; omega
                     case rel => exact ⟨i + 1, by go_num, by omega, by omega, by rw [allowedN, HOK.out, HO2.out]; rfl, HB2.out, HW2.out⟩)
                  | (go_ret
                     refine ⟨ret_bool ?_, HW2.out⟩
                     rw [HE.out]
                     exact (allowedN_no HO2.out 7 hlt).symm)
    · have hd1 : decide ((i : Int) < 7) = false := by simp; omega
      obtain rfl : i = 7 := by omega
      go_wp2
      go_ret
      refine ⟨ret_bool ?_, HW.out⟩
      rw [HE.out]
      exact HOK.out.symm
end Go.Proofs.Ytfgpchffkpomoaa
