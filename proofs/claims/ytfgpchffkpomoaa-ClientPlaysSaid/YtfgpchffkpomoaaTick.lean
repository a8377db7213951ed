/- Time goes on for a client; a request that may not be: the walks. -/
import Derived.Test.YtfgpchffkpomoaaAwake12
namespace Go.Proofs.Ytfgpchffkpomoaa
set_option linter.unusedSimpArgs false
set_option linter.unusedVariables false
open Go.RowKit

/-- What a tick does: the client behind it, and is all sent once more. -/
def tickE (y : Cl) : Cl × Bool :=
  if y.waits = false then (y, false) else ({ y with ticks := y.ticks + 1 }, decide (Int.tmod (y.ticks + 1) 4 = 0))
def TickPost (w0 : World) (x g K b t m n : Nat) (T : List ByteArray) (S : List Wd) (y' : Cl) (AA : Option Addr) (ac : Nat) (l : List Sn) (e : Ending) (w' : World) : Prop :=
  ∃ A c, e = .returned (.slice A l.length c) ∧ CS w' x g K b t m n T S y' AA ac ∧ Ch w0.heap.size (fun k => k = x) w0 w' ∧ w'.ownsRow w0.heap.size 211 2 (.slice A l.length c) l.length (l.flatMap Sn.cells)
set_option maxHeartbeats 4000000 in
set_option maxRecDepth 100000 in
theorem tick_calls (x g K b t m n : Nat) (T : List ByteArray) (S : List Wd) (y : Cl) (AA : Option Addr) (ac : Nat) (f : Nat) (w : World) (h : CS w x g K b t m n T S y AA ac) (ht : 0 ≤ y.ticks ∧ y.ticks ≤ 1000000) (hf : y.F = (f : Int)) (hf4 : f ≤ 4) :
    Calls Try.prog 89 #[.pointer (some ⟨x, 0, none⟩)] w (TickPost w x g K b t m n T S (tickE y).1 AA ac (if (tickE y).2 = true then toAll (3 * f + 1) y.asked else [])) := by
  have HM := Lib.hid (cmade_calls x g K b t m n T S y AA ac w h)
  have HH := Lib.hid h
  have k8 := h.c8
  have k9 := h.c9
  have f9 := h.free 9
  have k7 := h.c7
  have hxl := h.xl
  have hwr : IntKind.i64.wrap (y.ticks + 1) = y.ticks + 1 := wrap_near _ (by omega) (by omega)
  clear h
  cases hw : y.waits with
  | false =>
    rw [hw] at k8
    have HE := Lib.hid (show tickE y = (y, false) by unfold tickE; rw [if_pos hw])
    rw [HE.out]
    clear hw
    go_enter Try.func89, Try.ntmps89
    go_wp2_with fail
    refine HM.out.mono ?_
    rintro e wx ⟨rfl, hwx⟩
    obtain rfl := hwx.symm
    go_wp2
    go_ret
    exact ⟨none, 0, rfl, HH.out, Ch.refl _ _ _, World.ownsRow_nil _ _ _ _⟩
  | true =>
    rw [hw] at k8
    have HE := Lib.hid (show tickE y = ({ y with ticks := y.ticks + 1 }, decide (Int.tmod (y.ticks + 1) 4 = 0)) by unfold tickE; rw [if_neg (by rw [hw]; simp)])
    have HC := Lib.hid (HH.out.setC 9 (.int .i64 (y.ticks + 1)) { y with ticks := y.ticks + 1 } rfl rfl rfl)
    have HCH := Lib.hid ((Ch.refl w.heap.size (fun k => k = x) w).setCell (p := ⟨x, 9, none⟩) (.inr rfl) (.int .i64 (y.ticks + 1)))
    have HALL := Lib.hid (all_calls x g K b t m n T S { y with ticks := y.ticks + 1 } AA ac y.asked f _ HC.out hf hf4)
    rw [HE.out]
    clear hw
    obtain ⟨r, hr⟩ : ∃ r, r = Int.tmod (y.ticks + 1) 4 := ⟨_, rfl⟩
    have hr2 := hr.symm
    simp only [hr2]
    by_cases h0 : r = 0
    · subst h0
      simp only [decide_true, if_true]
      clear hr
      go_enter Try.func89, Try.ntmps89
      go_wp2_with fail
      refine HM.out.mono ?_
      rintro e wx ⟨rfl, hwx⟩
      obtain rfl := hwx.symm
      go_wp2_with fail
      refine HALL.out.mono ?_
      rintro e wa ⟨A, c, rfl, hba, hoa⟩
      have HBA := Lib.hid hba
      have HOA := Lib.hid hoa
      clear hba hoa
      go_wp2
      go_ret
      exact ⟨A, c, rfl, HC.out.below HBA.out, HCH.out.step (Ch.of_below (S := fun _ => False) HBA.out) HCH.out.size (fun _ _ e => e.elim), own_base HOA.out HCH.out.size⟩
    · have hne := bne_iff_ne.2 h0
      rw [decide_eq_false h0, if_neg (by simp)]
      clear h0 hr
      go_enter Try.func89, Try.ntmps89
      go_wp2_with fail
      refine HM.out.mono ?_
      rintro e wx ⟨rfl, hwx⟩
      obtain rfl := hwx.symm
      go_wp2
      go_ret
      exact ⟨none, 0, rfl, HC.out, HCH.out, World.ownsRow_nil _ _ _ _⟩
set_option maxRecDepth 100000 in
/-- Too long an op; one that waits. -/
theorem requestNo_calls (x g K b t m n : Nat) (T : List ByteArray) (S : List Wd) (y : Cl) (AA : Option Addr) (ac : Nat) (op : ByteArray) (w : World) (h : CS w x g K b t m n T S y AA ac) (hs : op.size ≤ maxLen) (hb : 256 < op.size ∨ y.waits = true) :
    Calls Try.prog 68 #[.pointer (some ⟨x, 0, none⟩), .string op] w (fun e w' => e = .returned (.tuple #[.slice none 0 0, .int .i64 (if 256 < op.size then 1 else 63)]) ∧ w' = w) := by
  have HM := Lib.hid (cmade_calls x g K b t m n T S y AA ac w h)
  have k8 := h.c8
  clear h
  by_cases hbig : 256 < op.size
  · have hd : decide ((256 : Int) < (op.size : Int)) = true := by simp; omega
    rw [if_pos hbig]
    clear hb hbig
    go_enter Try.func68, Try.ntmps68
    go_wp2_with fail
    refine HM.out.mono ?_
    rintro e wx ⟨rfl, hwx⟩
    obtain rfl := hwx.symm
    go_wp2
    go_ret2
    exact ⟨rfl, rfl⟩
  · have hd : decide ((256 : Int) < (op.size : Int)) = false := by simp; omega
    rw [if_neg hbig]
    rw [hb.resolve_left hbig] at k8
    clear hb hbig
    go_enter Try.func68, Try.ntmps68
    go_wp2_with fail
    refine HM.out.mono ?_
    rintro e wx ⟨rfl, hwx⟩
    obtain rfl := hwx.symm
    go_wp2
    go_ret2
    exact ⟨rfl, rfl⟩
end Go.Proofs.Ytfgpchffkpomoaa
