/- A client asks for an op, and for a key: the walks through Request and Ask. -/
import Derived.Test.YtfgpchffkpomoaaCSeal
namespace Go.Proofs.Ytfgpchffkpomoaa
set_option linter.unusedSimpArgs false
set_option linter.unusedVariables false
open Go.RowKit

section
variable {w w' : World} {x g K b t m n : Nat} {T : List ByteArray} {S : List Wd} {y : Cl} {AA : Option Addr} {ac : Nat}
theorem CS.setC (h : CS w x g K b t m n T S y AA ac) (i : Nat) (v : Value) (y' : Cl) (ht : y'.told = y.told) (ha : y'.ans = y.ans) (hy : (y.cells b g AA ac).setIfInBounds i v = y'.cells b g AA ac) : CS (w.setCell ⟨x, i, none⟩ v) x g K b t m n T S y' AA ac := by
  have hn := h.ne
  have hl := h.lt
  have hc : Ch w.heap.size (· = x) w (w.setCell ⟨x, i, none⟩ v) := (Ch.refl w.heap.size (· = x) w).setCell (.inr rfl) v
  refine ⟨h.bk.ch hc (Nat.le_refl _) (by omega), by rw [← hy]; exact h.box.set i v, by rw [ht]; exact h.told.ch hc h.told.lt (fun e => hn.1 e.symm), ?_, by have := hc.size; omega, hn⟩
  rw [ha]
  exact own_ch h.ans hc (fun k hk => ⟨(h.row hk).2, by have := (h.row hk).1; omega⟩)
theorem CS.forget (h : CS w x g K b t m n T S y AA ac) {l : List Td} (ht : ToldS w' g l) (hc : Ch w.heap.size (· = g) w w') : CS w' x g K b t m n T S { y with told := l } AA ac := by
  have hl := h.lt
  have hn := h.ne
  have hx := h.xl
  have hz := hc.size
  exact ⟨h.bk.ch hc (Nat.le_refl _) (by omega), h.box.ch hc hx (by omega), ht, own_ch h.ans hc (fun k hk => ⟨(h.row hk).2, by have := (h.row hk).1; omega⟩), by omega, hn⟩
end
/-- What a client is behind its request. -/
def askedCl (y : Cl) (s : ByteArray) : Cl := { y with stamp := y.stamp + 1, asked := s, waits := true, ticks := 0, told := [] }
def ReqPost (w0 : World) (x g K b t m n : Nat) (T : List ByteArray) (S' : List Wd) (y' : Cl) (AA : Option Addr) (ac : Nat) (l : List Sn) (e : Ending) (w' : World) : Prop :=
  ∃ A c, e = .returned (.tuple #[.slice A l.length c, .int .i64 0]) ∧ CS w' x g K b t m n T S' y' AA ac ∧ Ch w0.heap.size (fun k => k = x ∨ k = g ∨ k = n) w0 w' ∧ w'.ownsRow w0.heap.size 211 2 (.slice A l.length c) l.length (l.flatMap Sn.cells)
set_option maxHeartbeats 4000000 in
set_option maxRecDepth 100000 in
theorem request_calls (x g K b t m n : Nat) (T : List ByteArray) (S : List Wd) (y : Cl) (AA : Option Addr) (ac : Nat) (op : ByteArray) (sg : Sg) (S' : List Wd) (f : Nat) (w : World) (h : CS w x g K b t m n T S y AA ac) (hS : S.length ≤ 1000000000) (hid : 0 ≤ y.id ∧ y.id ≤ 15) (hst : 0 ≤ y.stamp ∧ y.stamp < 1099511627776) (hop : op.size ≤ 256) (hw : y.waits = false) (hf : y.F = (f : Int)) (hf4 : f ≤ 4) (he : sealE S (100 + y.id) (cliB 1 y.id (y.stamp + 1) op) = ((sg, 0), S')) (hft : fitsB sg = true) :
    Calls Try.prog 68 #[.pointer (some ⟨x, 0, none⟩), .string op] w (ReqPost w x g K b t m n T S' (askedCl y (bs (putSg sg))) AA ac (toAll (3 * f + 1) (bs (putSg sg)))) := by
  have HM := Lib.hid (cmade_calls x g K b t m n T S y AA ac w h)
  have HG := Lib.hid (fun w h => cseal_calls x g K b t m n T S y AA ac (cliB 1 y.id (y.stamp + 1) op) sg S' w h hS (by omega) rfl he hft)
  unfold SealPost2 cliB Bd.val Bd.cells at HG
  simp only [List.length_nil] at HG
  obtain ⟨out, hout⟩ : ∃ o, o = bs (putSg sg) := ⟨_, rfl⟩
  rw [← hout] at HG ⊢
  have HH := Lib.hid h
  have k8 := h.c8
  rw [hw] at k8
  have k6 := h.c6
  have hd1 : decide ((256 : Int) < (op.size : Int)) = false := by simp; omega
  have hd2 : (y.stamp == 1099511627776) = false := by rw [beq_eq_false_iff_ne]; omega
  have hwr : IntKind.i64.wrap (y.stamp + 1) = y.stamp + 1 := wrap_near _ (by omega) (by omega)
  have hlt := h.lt
  have hne := h.ne
  have hxl := h.xl
  have hgl := h.told.lt
  have hnl := h.bk.wm.lt
  have HROW := Lib.hid (fun k hk => h.row (k := k) hk)
  clear h he hft hout hw
  go_enter Try.func68, Try.ntmps68
  go_wp2_with fail
  refine HM.out.mono ?_
  rintro e wx ⟨rfl, hwx⟩
  obtain rfl := hwx.symm
  go_wp2_with fail
  have HD := Lib.hid (show CS w.drew x g K b t m n T S y AA ac from HH.out.drewN 1)
  have r4 := HD.out.c4
  have r6 := HD.out.c6
  clear k8 k6
  go_region_held3 (fun w' => w'.cell? ⟨x, 4, none⟩ = some (.int .i64 y.id) ∧ w'.cell? ⟨x, 6, none⟩ = some (.int .i64 y.stamp)) (with_reducible first | exact ⟨r4, r6⟩ | exact ⟨q4, q6⟩) (first | (go_at_call 132; with_reducible refine Calls.mono (HG.out _ HD.out) ?_; rintro e w5 ⟨rfl, hc5, hh5⟩; have HC5 := Lib.hid hc5; have HCH5 := Lib.hid (((Ch.refl w.heap.size (fun k => k = x ∨ k = g ∨ k = n) w).drew).step hh5 (Nat.le_refl _) (fun _ _ e => .inr (.inr e))); have q4 := hc5.c4; have q6 := hc5.c6; clear hc5 hh5))
  all_goals
    have hz5 := HCH5.out.size
    have S1 := Lib.hid (HC5.out.setC 6 (.int .i64 (y.stamp + 1)) { y with stamp := y.stamp + 1 } rfl rfl rfl)
    have S2 := Lib.hid (S1.out.setC 7 (.string out) { y with stamp := y.stamp + 1, asked := out } rfl rfl rfl)
    have S3 := Lib.hid (S2.out.setC 8 (.bool true) { y with stamp := y.stamp + 1, asked := out, waits := true } rfl rfl rfl)
    have S4 := Lib.hid (S3.out.setC 9 (.int .i64 0) { y with stamp := y.stamp + 1, asked := out, waits := true, ticks := 0 } rfl rfl rfl)
    obtain ⟨w9, hrun, ht9, hc9, hs9⟩ := S4.out.told.clear (T := 207) Try.underlying207
    have S5 := Lib.hid (show CS w9 x g K b t m n T S' (askedCl y out) AA ac from S4.out.forget ht9 hc9)
    have d10 := S4.out.c10
    have p6 := HC5.out.c6
    have p7 := HC5.out.c7
    have p8 := HC5.out.c8
    have p9 := HC5.out.c9
    have f6 := HC5.out.free 6
    have f7 := HC5.out.free 7
    have f8 := HC5.out.free 8
    have f9 := HC5.out.free 9
    have HCH9 := Lib.hid (((((HCH5.out.setCell (p := ⟨x, 6, none⟩) (.inr (.inl rfl)) _).setCell (p := ⟨x, 7, none⟩) (.inr (.inl rfl)) _).setCell (p := ⟨x, 8, none⟩) (.inr (.inl rfl)) _).setCell (p := ⟨x, 9, none⟩) (.inr (.inl rfl)) _).step hc9 (by simpa [World.setCell] using hz5) (fun k _ e => .inr (.inl e)))
    have hz9 := HCH9.out.size
    have HALL := Lib.hid (all_calls x g K b t m n T S' (askedCl y out) AA ac out f w9 S5.out hf hf4)
    clear ht9 hc9 hs9
    go_wp2_with fail
    refine HALL.out.mono ?_
    rintro e wa ⟨A, c, rfl, hba, hoa⟩
    have HBA := Lib.hid hba
    have HOA := Lib.hid hoa
    clear hba hoa
    go_wp2
    go_ret2
    exact ⟨A, c, rfl, S5.out.below HBA.out, HCH9.out.step (Ch.of_below (S := fun _ => False) HBA.out) hz9 (fun _ _ e => e.elim), own_base HOA.out hz9⟩
end Go.Proofs.Ytfgpchffkpomoaa
