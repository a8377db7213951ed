/- A client and the document's are asked for an op: the walk. -/
import Derived.Test.YtfgpchffkpomoaaJoin
namespace Go.Proofs.Ytfgpchffkpomoaa
set_option linter.unusedSimpArgs false
set_option linter.unusedVariables false
open Go.RowKit

section
variable {w : World} {q k R : Nat} {v0 v1 v2 : Value}
theorem keepA {c1 c2 : Value} (h1 : w.cell? ⟨q, 1, none⟩ = some c1) (h2 : w.cell? ⟨q, 2, none⟩ = some c2) (hq : q ≠ R) : (((w.setCell ⟨R, 0, none⟩ v0).setCell ⟨R, 1, none⟩ v1).setCell ⟨R, 2, none⟩ v2).cell? ⟨q, 1, none⟩ = some c1 ∧ (((w.setCell ⟨R, 0, none⟩ v0).setCell ⟨R, 1, none⟩ v1).setCell ⟨R, 2, none⟩ v2).cell? ⟨q, 2, none⟩ = some c2 := by
  have e : ∀ (p : Addr) (v : Value), p.block ≠ R → w.cell? p = some v → (((w.setCell ⟨R, 0, none⟩ v0).setCell ⟨R, 1, none⟩ v1).setCell ⟨R, 2, none⟩ v2).cell? p = some v := fun p v hp h => by
    rw [← h]
    refine World.cell?_of_block ?_
    rw [Below.heap_setCell _ _ _ _ (fun e => hp e), Below.heap_setCell _ _ _ _ (fun e => hp e), Below.heap_setCell _ _ _ _ (fun e => hp e)]
  exact ⟨e _ _ hq h1, e _ _ hq h2⟩
theorem MS.al {J : Nat} {y : Cl} {HA MA : Option Addr} {hc mc : Nat} (h : MS w q J y HA hc MA mc) (o : Obj) : (w.alloc o).cell? ⟨q, 1, none⟩ = some (.int .i64 y.id) ∧ (w.alloc o).cell? ⟨q, 2, none⟩ = some (.int .i64 y.stamp) := ⟨(h.box.alloc o).cell 1, (h.box.alloc o).cell 2⟩
theorem MS.id2 {J : Nat} {y : Cl} {HA MA : Option Addr} {hc mc : Nat} (h : MS w q J y HA hc MA mc) : w.cell? ⟨q, 1, none⟩ = some (.int .i64 y.id) ∧ w.cell? ⟨q, 2, none⟩ = some (.int .i64 y.stamp) := ⟨h.box.cell 1, h.box.cell 2⟩
end
set_option maxHeartbeats 8000000 in
set_option maxRecDepth 100000 in
theorem asks_calls (x g K b t m n : Nat) (T : List ByteArray) (S : List Wd) (y : Cl) (AA : Option Addr) (ac q J : Nat) (HA : Option Addr) (hc : Nat) (MA : Option Addr) (mc : Nat) (op : ByteArray) (f : Nat) (w : World) (h : JS w x g K b t m n T S y AA ac q J y HA hc MA mc) (hS : S.length ≤ 100000000) (hop : op.size ≤ maxLen) (hid : 0 ≤ y.id ∧ y.id ≤ 15) (hst : 0 ≤ y.stamp ∧ y.stamp ≤ 1000000) (htk : 0 ≤ y.ticks) (hf : y.F = (f : Int)) (hf4 : f ≤ 4) :
    Calls Try.prog 135 #[.pointer (some ⟨q, 0, none⟩), .pointer (some ⟨x, 0, none⟩), .pointer (some ⟨b, 0, none⟩), .string op] w (StepPost w x g K b t m n T S q J AA HA MA y) := by
  have HJ := Lib.hid h
  by_cases hno : 256 < op.size ∨ y.waits = true
  · have HR := Lib.hid (requestNo_calls x g K b t m n T S y AA ac op w h.cs hop hno)
    have k4 : w.cell? ⟨q, 4, none⟩ = some (.bool y.waits) := h.ms.box.cell 4
    have hend : StepPost w x g K b t m n T S q J AA HA MA y (.returned (.bool true)) w := ⟨true, S, y, AA, ac, HA, hc, MA, mc, rfl, Lib.hid rfl, by omega, h, Lib.hid ⟨rfl, rfl, by omega, by omega, htk, .inl (by omega), by omega, by omega⟩, Ch.refl _ _ _⟩
    have HEND := Lib.hid hend
    clear h hend
    by_cases hbig : 256 < op.size
    · have hd : decide ((256 : Int) < (op.size : Int)) = true := by simp; omega
      rw [if_pos hbig] at HR
      clear hno hbig
      go_enter Try.func135, Try.ntmps135
      go_wp2_with fail
      refine HR.out.mono ?_
      rintro e wx ⟨rfl, hwx⟩
      obtain rfl := hwx.symm
      go_wp2
      go_ret
      exact HEND.out
    · have hd : decide ((256 : Int) < (op.size : Int)) = false := by simp; omega
      rw [if_neg hbig] at HR
      rw [hno.resolve_left hbig] at k4
      clear hno hbig
      go_enter Try.func135, Try.ntmps135
      go_wp2_with fail
      refine HR.out.mono ?_
      rintro e wx ⟨rfl, hwx⟩
      obtain rfl := hwx.symm
      go_wp2
      go_ret
      exact HEND.out
  · have hop2 : op.size ≤ 256 := by omega
    have hwt : y.waits = false := by cases hh : y.waits with | false => rfl | true => exact absurd (.inr hh) hno
    have hd : decide ((256 : Int) < (op.size : Int)) = false := by simp; omega
    have hwr : IntKind.i64.wrap (y.stamp + 1) = y.stamp + 1 := wrap_near _ (by omega) (by omega)
    have hwr2 : IntKind.i64.wrap (100 + y.id) = 100 + y.id := wrap_near _ (by omega) (by omega)
    obtain ⟨sg, S4, he4, hsd4, hl4⟩ := request_said (S := S) (who := 100 + y.id) (client := y.id) (stamp := y.stamp + 1) (text := op) (by omega) hid (by omega) hop2
    have HRQ := Lib.hid (request_calls x g K b t m n T S y AA ac op sg S4 f w h.cs (by omega) hid (by omega) hop2 hwt hf hf4 he4 hsd4.fits)
    unfold ReqPost at HRQ
    simp only [toAll_len] at HRQ
    have HSL := Lib.hid (fun w hb => seal_calls b t m n T S4 (100 + y.id) (cliB 1 y.id (y.stamp + 1) op) none 0 w hb (by omega) (sgs_nil w))
    unfold SealPost at HSL
    rw [seal_again (by omega) he4] at HSL
    simp only at HSL
    have hfb := (fitsB_iff sg).1 hsd4.fits
    have HO := Lib.hid (fun w => rOne_calls sg w hfb.1 (by omega) (by omega) (by omega))
    unfold StrPost at HO
    obtain ⟨who2, body, sig⟩ := sg
    unfold Sg.val at *
    unfold cliB Bd.val Bd.cells at HSL
    simp only [List.length_nil] at *
    obtain ⟨out, hout⟩ : ∃ o, o = bs (putSg ⟨who2, body, sig⟩) := ⟨_, rfl⟩
    rw [← hout] at HO HRQ
    have k4 : w.cell? ⟨q, 4, none⟩ = some (.bool false) := by rw [← hwt]; exact h.ms.box.cell 4
    have HWT := Lib.hid hwt
    have hlt := h.cs.lt
    have hle := h.le
    clear h he4 hsd4 hfb hout hno hwt
    go_enter Try.func135, Try.ntmps135
    go_wp2_with fail
    refine HRQ.out.mono ?_
    rintro e w1 ⟨LA, lc, rfl, hc1, hh1, ho1⟩
    have HJ1 := Lib.hid (HJ.out.cl hc1 hh1 (fun k e => by rcases e with e | e | e <;> simp [e]) (fun k e => .inl e))
    have HO1 := Lib.hid ho1
    have HCH1 := Lib.hid (show Ch w.heap.size (fun k => k = x ∨ k = g ∨ k = n ∨ k = q ∨ Row AA k ∨ Row HA k ∨ Row MA k) w w1 from hh1.mono (Nat.le_refl _) (fun k _ e => by rcases e with e | e | e <;> simp [e]))
    have hz1 := hh1.size
    have k4b : w1.cell? ⟨q, 4, none⟩ = some (.bool false) := by rw [← HWT.out]; exact HJ1.out.ms.box.cell 4
    have k2 : w1.cell? ⟨q, 2, none⟩ = some (.int .i64 y.stamp) := HJ1.out.ms.box.cell 2
    have k3 : w1.cell? ⟨q, 3, none⟩ = some (.int .i64 y.ticks) := HJ1.out.ms.box.cell 3
    have k6 : w1.cell? ⟨q, 6, none⟩ = some (.slice HA y.told.length hc) := HJ1.out.ms.box.cell 6
    have f2 := HJ1.out.ms.box.free 2
    have f3 := HJ1.out.ms.box.free 3
    have f4 := HJ1.out.ms.box.free 4
    have f6 := HJ1.out.ms.box.free 6
    have HJ2 := Lib.hid ((((HJ1.out.setX 2 (.int .i64 (y.stamp + 1)) { y with stamp := y.stamp + 1 } rfl rfl rfl).setX 4 (.bool true) { y with stamp := y.stamp + 1, waits := true } rfl rfl rfl).setX 3 (.int .i64 0) { y with stamp := y.stamp + 1, waits := true, ticks := 0 } rfl rfl rfl).forget)
    have HCH2 := Lib.hid ((((HCH1.out.setCell (p := ⟨q, 2, none⟩) (.inr (.inr (.inr (.inr (.inl rfl))))) (.int .i64 (y.stamp + 1))).setCell (p := ⟨q, 4, none⟩) (.inr (.inr (.inr (.inr (.inl rfl))))) (.bool true)).setCell (p := ⟨q, 3, none⟩) (.inr (.inr (.inr (.inr (.inl rfl))))) (.int .i64 0)).setCell (p := ⟨q, 6, none⟩) (.inr (.inr (.inr (.inr (.inl rfl))))) (.slice none 0 0))
    clear hc1 hh1 ho1 k4
    go_wp2_with fail
    obtain ⟨W2, hW2⟩ : ∃ W2, W2 = (((w1.setCell ⟨q, 2, none⟩ (.int .i64 (y.stamp + 1))).setCell ⟨q, 4, none⟩ (.bool true)).setCell ⟨q, 3, none⟩ (.int .i64 0)).setCell ⟨q, 6, none⟩ (.slice none 0 0) := ⟨_, rfl⟩
    have hqw : q < w.heap.size := HJ.out.ms.ql
    have HJW := Lib.hid (show JS W2 x g K b t m n T S4 (askedCl y out) AA ac q J { y with stamp := y.stamp + 1, waits := true, ticks := 0, told := [] } none 0 MA mc by rw [hW2]; exact HJ2.out)
    have HOW := Lib.hid (show World.ownsRow W2 w.heap.size 211 2 (.slice LA (3 * f + 1) lc) (3 * f + 1) ((toAll (3 * f + 1) out).flatMap Sn.cells) by rw [hW2]; exact ownsRow_setCell_below (ownsRow_setCell_below (ownsRow_setCell_below (ownsRow_setCell_below HO1.out (a := ⟨q, 2, none⟩) hqw _) (a := ⟨q, 4, none⟩) hqw _) (a := ⟨q, 3, none⟩) hqw _) (a := ⟨q, 6, none⟩) hqw _)
    have HCW := Lib.hid (show Ch w.heap.size (fun k => k = x ∨ k = g ∨ k = n ∨ k = q ∨ Row AA k ∨ Row HA k ∨ Row MA k) w W2 by rw [hW2]; exact HCH2.out)
    have hzW := HCW.out.size
    rw [← hW2]
    clear hW2 HJ1 HO1 HCH1 HJ2 HCH2 k4b k2 k3 k6 f2 f3 f4 f6
    have HJD := Lib.hid HJW.out.drew
    have HJA := Lib.hid (show JS (W2.alloc (.cells #[.int .i64 0, .string ⟨#[]⟩, .string ⟨#[]⟩] 61)).drew x g K b t m n T S4 (askedCl y out) AA ac q J { y with stamp := y.stamp + 1, waits := true, ticks := 0, told := [] } none 0 MA mc from (HJW.out.below ((Below.refl W2.heap.size W2).alloc (Nat.le_refl _) (.cells #[.int .i64 0, .string ⟨#[]⟩, .string ⟨#[]⟩] 61))).drew)
    have HYA := Lib.hid (show Box (W2.alloc (.cells #[.int .i64 0, .string ⟨#[]⟩, .string ⟨#[]⟩] 61)).drew W2.heap.size #[.int .i64 0, .string ⟨#[]⟩, .string ⟨#[]⟩] 61 from (Box.new W2 _ _).drew)
    have HCA := Lib.hid (show Ch w.heap.size (fun k => k = x ∨ k = g ∨ k = n ∨ k = q ∨ Row AA k ∨ Row HA k ∨ Row MA k) w (W2.alloc (.cells #[.int .i64 0, .string ⟨#[]⟩, .string ⟨#[]⟩] 61)).drew from (HCW.out.alloc hzW _).drew)
    have HOD := Lib.hid (show World.ownsRow W2.drew w.heap.size 211 2 (.slice LA (3 * f + 1) lc) (3 * f + 1) ((toAll (3 * f + 1) out).flatMap Sn.cells) from own_drewN HOW.out 1)
    have HOA := Lib.hid (show World.ownsRow (W2.alloc (.cells #[.int .i64 0, .string ⟨#[]⟩, .string ⟨#[]⟩] 61)).drew w.heap.size 211 2 (.slice LA (3 * f + 1) lc) (3 * f + 1) ((toAll (3 * f + 1) out).flatMap Sn.cells) from own_drewN (HOW.out.alloc _) 1)
    have r1 := HJD.out.ms.id2.1
    have r2 := HJD.out.ms.id2.2
    have a1 := HJA.out.ms.id2.1
    have a2 := HJA.out.ms.id2.2
    have hqW : q ≠ W2.heap.size := by omega
    have hnl := HJW.out.cs.lt
    go_cut [11, 12] (fun s11 s12 wx => ∃ i, s11 = .pointer (some ⟨i, 0, none⟩) ∧ s12 = .int .i64 0 ∧ Hid (JS wx x g K b t m n T S4 (askedCl y out) AA ac q J { y with stamp := y.stamp + 1, waits := true, ticks := 0, told := [] } none 0 MA mc ∧ World.ownsRow wx w.heap.size 211 2 (.slice LA (3 * f + 1) lc) (3 * f + 1) ((toAll (3 * f + 1) out).flatMap Sn.cells) ∧ Ch w.heap.size (fun k => k = x ∨ k = g ∨ k = n ∨ k = q ∨ Row AA k ∨ Row HA k ∨ Row MA k) w wx ∧ Box wx i #[.int .i64 who2, .string body, .string sig] 61))
    case first =>
      go_region_held3 (fun w' => w'.cell? ⟨q, 1, none⟩ = some (.int .i64 y.id) ∧ w'.cell? ⟨q, 2, none⟩ = some (.int .i64 (y.stamp + 1))) (with_reducible first | exact ⟨r1, r2⟩ | exact ⟨a1, a2⟩ | exact ⟨p1, p2⟩ | exact hpa _ | exact keepA p1 p2 hqW) (first | (go_at_call 51; first | (with_reducible refine Calls.mono (HSL.out _ HJD.out.cs.bk) ?_; rintro e w5 ⟨rfl, hc5, hk5⟩; have HJ5 := Lib.hid (HJD.out.cl (HJD.out.cs.sign hc5 (Nat.le_refl _) ⟨by have := HJD.out.cs.ne; omega, by have := HJD.out.cs.ne; omega, fun k h1 h2 => by omega⟩ hk5) hc5 (fun k e => .inr (.inr (.inl e))) (fun k e => .inl e)); have HO5 := Lib.hid (own_ch HOD.out hc5 (fun k hk => ⟨(own_row HOD.out hk).2, by have := (own_row HOD.out hk).1; omega⟩)); have HC5 := Lib.hid (HCW.out.drew.step hc5 (by simpa using hzW) (fun _ _ e => .inr (.inr (.inl e)))); clear hc5 hk5; have p1 := HJ5.out.ms.id2.1; have p2 := HJ5.out.ms.id2.2; have hpa := MS.al HJ5.out.ms) | (with_reducible refine Calls.mono (HSL.out _ HJA.out.cs.bk) ?_; rintro e w5 ⟨rfl, hc5, hk5⟩; have HJ5 := Lib.hid (HJA.out.cl (HJA.out.cs.sign hc5 (Nat.le_refl _) ⟨by have := HJA.out.cs.ne; omega, by have := HJA.out.cs.ne; omega, fun k h1 h2 => by omega⟩ hk5) hc5 (fun k e => .inr (.inr (.inl e))) (fun k e => .inl e)); have HO5 := Lib.hid (own_ch HOA.out hc5 (fun k hk => ⟨(own_row HOA.out hk).2, by have := (own_row HOA.out hk).1; omega⟩)); have HC5 := Lib.hid (HCA.out.step hc5 HCA.out.size (fun _ _ e => .inr (.inr (.inl e)))); have HY5 := Lib.hid (Box.ch HYA.out hc5 HYA.out.lt (by omega)); clear hc5 hk5; have p1 := HJ5.out.ms.id2.1; have p2 := HJ5.out.ms.id2.2; obtain ⟨j0, j1, j2, i0, i1, i2⟩ := HY5.out.facts3))
      )
      all_goals go_wp2_with fail
      all_goals go_meet
      all_goals have hz5 := HC5.out.size
      · exact ⟨w5.heap.size, rfl, rfl, HJ5.out.below ((Below.refl w5.heap.size w5).alloc (Nat.le_refl _) _), HO5.out.alloc _, HC5.out.alloc hz5 _, Box.new w5 _ _⟩
      · have hc3 : Ch w5.heap.size (· = W2.heap.size) w5 (((w5.setCell ⟨W2.heap.size, 0, none⟩ (.int .i64 who2)).setCell ⟨W2.heap.size, 1, none⟩ (.string body)).setCell ⟨W2.heap.size, 2, none⟩ (.string sig)) :=
          (((Ch.refl w5.heap.size (· = W2.heap.size) w5).setCell (p := ⟨W2.heap.size, 0, none⟩) (.inr rfl) _).setCell (p := ⟨W2.heap.size, 1, none⟩) (.inr rfl) _).setCell (p := ⟨W2.heap.size, 2, none⟩) (.inr rfl) _
        exact ⟨W2.heap.size, rfl, rfl, HJ5.out.off hc3 (by omega) hqW (fun k hk => by have := (HJW.out.cs.row hk).2; omega) (fun k hk => by cases hk) (fun k hk => by have := (own_row HJW.out.ms.ans hk).2; omega), own_ch HO5.out hc3 (fun k hk => ⟨(own_row HO5.out hk).2, by have := (own_row HOW.out hk).2; omega⟩), HC5.out.step hc3 hz5 (fun k h1 e => by omega), ((HY5.out.set 0 _).set 1 _).set 2 _⟩
    case rest =>
      obtain ⟨i, rfl, rfl, HZ⟩ := hcut
      obtain ⟨hjz, hoz, hcz, hbz⟩ := HZ.out
      have HJZ := Lib.hid hjz
      have HOZ := Lib.hid hoz
      have HCZ := Lib.hid hcz
      have hzz := hcz.size
      obtain ⟨j0, j1, j2, -⟩ := Box.facts3 hbz
      clear HZ hjz hoz hcz hbz r1 r2 a1 a2 HJD HJA HYA HCA HOD HOA
      go_wp2_with fail
      refine (HO.out _).mono ?_
      rintro e w7 ⟨rfl, hb7⟩
      have HJ7 := Lib.hid (HJZ.out.below hb7)
      have HO7 := Lib.hid (own_ch HOZ.out (Ch.of_below (S := fun _ => False) hb7) (fun k hk => ⟨(own_row HOZ.out hk).2, fun e => e⟩))
      have HC7 := Lib.hid (HCZ.out.step (Ch.of_below (S := fun _ => False) hb7) hzz (fun _ _ e => e.elim))
      have k5 : w7.cell? ⟨q, 5, none⟩ = some (.string y.asked) := HJ7.out.ms.box.cell 5
      have f5 := HJ7.out.ms.box.free 5
      clear hb7 j0 j1 j2
      go_wp2_with fail
      obtain ⟨W8, hW8⟩ : ∃ W8, W8 = w7.setCell ⟨q, 5, none⟩ (.string out) := ⟨_, rfl⟩
      have HJ8 := Lib.hid (show JS W8 x g K b t m n T S4 (askedCl y out) AA ac q J (askedCl y out) none 0 MA mc by rw [hW8]; exact HJ7.out.setX 5 (.string out) (askedCl y out) rfl rfl rfl)
      have HO8 := Lib.hid (show World.ownsRow W8 w.heap.size 211 2 (.slice LA (3 * f + 1) lc) (3 * f + 1) ((toAll (3 * f + 1) out).flatMap Sn.cells) by rw [hW8]; exact ownsRow_setCell_below HO7.out (a := ⟨q, 5, none⟩) hqw _)
      have HC8 := Lib.hid (show Ch w.heap.size (fun k => k = x ∨ k = g ∨ k = n ∨ k = q ∨ Row AA k ∨ Row HA k ∨ Row MA k) w W8 by rw [hW8]; exact HC7.out.setCell (p := ⟨q, 5, none⟩) (.inr (.inr (.inr (.inr (.inl rfl))))) _)
      rw [← hW8]
      clear hW8 k5 f5
      have k0 : W8.cell? ⟨q, 0, none⟩ = some (.int .i64 (f : Int)) := by rw [← hf]; exact HJ8.out.ms.box.cell 0
      have k5 : W8.cell? ⟨q, 5, none⟩ = some (.string out) := HJ8.out.ms.box.cell 5
      have HSN := Lib.hid (fun k => sent_calls LA lc w.heap.size f out (W8.drewN k) (own_drewN HO8.out k) hf4)
      go_quiet (first | (go_at_call 76; exact Calls.quiet_of_same (HSN.out _)))
      go_wp2
      go_ret
      exact ⟨true, S4, askedCl y out, AA, ac, none, 0, MA, mc, rfl, Lib.hid rfl, hl4, HJ8.out.below (below_dN (Below.refl _ _) _), Lib.hid ⟨rfl, rfl, by show y.stamp ≤ y.stamp + 1; omega, Int.le_refl _, Int.le_refl _, .inr (Int.le_refl _), by show (0 : Nat) ≤ _; omega, by show y.ans.length ≤ _; omega⟩, HC8.out.drewN _⟩
end Go.Proofs.Ytfgpchffkpomoaa
