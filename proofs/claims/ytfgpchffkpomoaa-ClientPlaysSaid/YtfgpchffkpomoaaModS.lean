/- An act of a client and of the document's: the walk. -/
import Derived.Test.YtfgpchffkpomoaaModA
import Derived.Test.YtfgpchffkpomoaaROfSg
namespace Go.Proofs.Ytfgpchffkpomoaa
set_option linter.unusedSimpArgs false
set_option linter.unusedVariables false
open Go.RowKit

theorem StepPost.from {w w1 : World} {x g K b t m n : Nat} {T : List ByteArray} {S : List Wd} {q J : Nat} {AA HA MA : Option Addr} {y : Cl} {e : Ending} {w' : World} (hb : Below w.heap.size w w1) (h : StepPost w1 x g K b t m n T S q J AA HA MA y e w') : StepPost w x g K b t m n T S q J AA HA MA y e w' := by
  obtain ⟨v, S', y', AA', ac', HA', hc', MA', mc', h1, h2, h3, h4, h5, h6⟩ := h
  exact ⟨v, S', y', AA', ac', HA', hc', MA', mc', h1, h2, h3, h4, h5, (Ch.of_below hb).step h6 hb.size (fun _ _ e => e)⟩
theorem step_keep {w w' : World} {x g K b t m n : Nat} {T : List ByteArray} {S : List Wd} {q J : Nat} {AA HA MA : Option Addr} {ac hc mc : Nat} {y : Cl} (h : JS w' x g K b t m n T S y AA ac q J y HA hc MA mc) (hb : Below w.heap.size w w') (htk : 0 ≤ y.ticks) : StepPost w x g K b t m n T S q J AA HA MA y (.returned (.bool true)) w' :=
  ⟨true, S, y, AA, ac, HA, hc, MA, mc, rfl, Lib.hid rfl, by omega, h, Lib.hid ⟨rfl, rfl, by omega, by omega, htk, .inl (by omega), by omega, by omega⟩, Ch.of_below hb⟩
/-- Bytes that nobody signed are not taken. -/
theorem recv_not {S : List Wd} {y : Cl} {s : ByteArray} (h : (ofSg s).2 ≠ 0 ∨ checkE S (ofSg s).1.who (ofSg s).1.body (ofSg s).1.sig = false) : recvE S y s = (false, y) := by
  unfold recvE
  by_cases h1 : y.waits = false
  · rw [if_pos h1]
  · rw [if_neg h1]
    by_cases h2 : (ofSg s).2 ≠ 0 ∨ 3 * y.F < (ofSg s).1.who
    · rw [if_pos h2]
    · rw [if_neg h2]
      have h3 := h.resolve_left (fun e => h2 (.inl e))
      rw [if_pos]
      unfold openE
      rw [if_neg (by rw [h3]; simp)]
      decide
theorem hear_bounds (y : Cl) (who client stamp : Int) (text : ByteArray) : (hears y who client stamp text).2.F = y.F ∧ (hears y who client stamp text).2.id = y.id ∧ (hears y who client stamp text).2.stamp = y.stamp ∧ (hears y who client stamp text).2.ticks = y.ticks ∧ (hears y who client stamp text).2.told.length ≤ y.told.length + 1 ∧ (hears y who client stamp text).2.ans.length ≤ y.ans.length + 1 := by
  unfold hears
  split
  · exact ⟨rfl, rfl, rfl, rfl, by simp, by simp⟩
  · unfold hearE
    split
    · exact ⟨rfl, rfl, rfl, rfl, by simp, by simp⟩
    · split
      · exact ⟨rfl, rfl, rfl, rfl, by simp, by simp⟩
      · split
        · exact ⟨rfl, rfl, rfl, rfl, by simp, by simp⟩
        · exact ⟨rfl, rfl, rfl, rfl, by simp, by simp⟩

set_option maxHeartbeats 16000000 in
set_option maxRecDepth 100000 in
theorem step_calls' (x g K b t m n : Nat) (T : List ByteArray) (S : List Wd) (y : Cl) (AA : Option Addr) (ac q J : Nat) (HA : Option Addr) (hc : Nat) (MA : Option Addr) (mc : Nat) (kind who stp : Int) (text : ByteArray) (f : Nat) (w : World) (h : JS w x g K b t m n T S y AA ac q J y HA hc MA mc) (hS : S.length ≤ 10000000) (htx : text.size ≤ maxLen) (hid : 0 ≤ y.id ∧ y.id ≤ 15) (hst : 0 ≤ y.stamp ∧ y.stamp ≤ 1000) (htk : 0 ≤ y.ticks ∧ y.ticks ≤ 1000) (hf : y.F = (f : Int)) (hf4 : f ≤ 4) (htl : y.told.length ≤ 900) (hal : y.ans.length ≤ 900) :
    Calls Try.prog 74 #[.pointer (some ⟨q, 0, none⟩), .pointer (some ⟨x, 0, none⟩), .pointer (some ⟨b, 0, none⟩), .agg #[.int .i64 kind, .int .i64 who, .int .i64 stp, .string text]] w (StepPost w x g K b t m n T S q J AA HA MA y) := by
  have hA := (Below.refl w.heap.size w).alloc (Nat.le_refl _) (.cells #[.int .i64 kind, .int .i64 who, .int .i64 stp, .string text] 113)
  obtain ⟨W, hW⟩ : ∃ W, W = w.alloc (.cells #[.int .i64 kind, .int .i64 who, .int .i64 stp, .string text] 113) := ⟨_, rfl⟩
  have HB := Lib.hid (show Below w.heap.size w W by rw [hW]; exact hA)
  have HJ := Lib.hid (show JS W x g K b t m n T S y AA ac q J y HA hc MA mc by rw [hW]; exact h.below hA)
  have HX := Lib.hid (show Box W w.heap.size #[.int .i64 kind, .int .i64 who, .int .i64 stp, .string text] 113 by rw [hW]; exact Box.new w _ _)
  have HWW := Lib.hid hW
  have HAR := Lib.hid (fun w => around12_calls kind 5 w (by decide) (by decide))
  unfold RndPost at HAR
  have hr := rnd_lt kind (m := 5) (by decide)
  obtain ⟨r, hrr⟩ : ∃ r, r = rnd kind 5 := ⟨_, rfl⟩
  rw [← hrr] at HAR hr
  have hqw : q < w.heap.size := h.ms.ql
  have hKw := h.cs.lt
  have hwW : w.heap.size < W.heap.size := HX.out.lt
  have HRH := Lib.hid (show ∀ k, (Row AA k ∨ Row HA k ∨ Row MA k) → k < w.heap.size from fun k hk => by
    rcases hk with hk | hk | hk
    · exact (h.cs.row hk).2
    · exact (own_row h.ms.heard hk).2
    · exact (own_row h.ms.ans hk).2)
  obtain ⟨k0, k1, k2, k3, -⟩ := Box.facts4 HX.out
  clear h hA hW hrr
  have hr4 : r = 0 ∨ r = 1 ∨ r = 4 ∨ (r = 2 ∨ r = 3) := by omega
  rcases hr4 with rfl | rfl | rfl | h23
  · have HAS := Lib.hid (asks_calls x g K b t m n T S y AA ac q J HA hc MA mc text f W HJ.out (by omega) htx hid (by omega) htk.1 hf hf4)
    go_enter Try.func74, Try.ntmps74
    go_wp2_with fail
    rw [← HWW.out]
    refine (HAR.out _).mono ?_
    rintro e wx ⟨rfl, hwx⟩
    obtain rfl := hwx
    go_wp2_with fail
    refine HAS.out.mono ?_
    rintro e w2 ⟨v, S', y', AA', ac', HA', hc', MA', mc', rfl, hv, h3, h4, h5, h6⟩
    obtain rfl : v = true := hv.out
    have HEND := Lib.hid (StepPost.from HB.out ⟨true, S', y', AA', ac', HA', hc', MA', mc', rfl, Lib.hid rfl, h3, h4, h5, h6⟩)
    clear h3 h4 h5 h6 hv
    go_wp2
    go_ret
    exact HEND.out
  · have HTK := Lib.hid (tick_calls x g K b t m n T S y AA ac f W HJ.out.cs (by omega) hf hf4)
    cases hw : y.waits with
    | false =>
      have HE := Lib.hid (show tickE y = (y, false) by unfold tickE; rw [if_pos hw])
      rw [HE.out] at HTK
      have HWT := Lib.hid hw
      clear hw
      go_enter Try.func74, Try.ntmps74
      go_wp2_with fail
      rw [← HWW.out]
      refine (HAR.out _).mono ?_
      rintro e wx ⟨rfl, hwx⟩
      obtain rfl := hwx
      go_wp2_with fail
      refine HTK.out.mono ?_
      rintro e w2 ⟨LA, lc, rfl, hc2, hh2, -⟩
      have HJ2 := Lib.hid (HJ.out.cl hc2 hh2 (fun k e => .inl e) (fun k e => .inl e))
      have HC2 := Lib.hid ((Ch.of_below (S := fun k => k = x ∨ k = g ∨ k = n ∨ k = q ∨ Row AA k ∨ Row HA k ∨ Row MA k) HB.out).step hh2 HB.out.size (fun k _ e => .inl e))
      have j4 : w2.cell? ⟨q, 4, none⟩ = some (.bool false) := by rw [← HWT.out]; exact HJ2.out.ms.box.cell 4
      clear hc2 hh2 k0 k1 k2 k3
      go_wp2
      go_ret
      exact ⟨true, S, y, AA, ac, HA, hc, MA, mc, rfl, Lib.hid rfl, by omega, HJ2.out, Lib.hid ⟨rfl, rfl, by omega, by omega, htk.1, .inl (by omega), by omega, by omega⟩, HC2.out⟩
    | true =>
      obtain ⟨rr, hrr⟩ : ∃ rr, rr = Int.tmod (y.ticks + 1) 4 := ⟨_, rfl⟩
      have hr2 := hrr.symm
      have HE := Lib.hid (show tickE y = ({ y with ticks := y.ticks + 1 }, decide (rr = 0)) by unfold tickE; rw [if_neg (by rw [hw]; simp), hrr])
      rw [HE.out] at HTK
      have HWT := Lib.hid hw
      have hwr : IntKind.i64.wrap (y.ticks + 1) = y.ticks + 1 := wrap_near _ (by omega) (by omega)
      clear hw hrr
      by_cases h0 : rr = 0
      · subst h0
        simp only [decide_true, if_true, toAll_len] at HTK
        unfold TickPost at HTK
        simp only [toAll_len] at HTK
        go_enter Try.func74, Try.ntmps74
        go_wp2_with fail
        rw [← HWW.out]
        refine (HAR.out _).mono ?_
        rintro e wx ⟨rfl, hwx⟩
        obtain rfl := hwx
        go_wp2_with fail
        refine HTK.out.mono ?_
        rintro e w2 ⟨LA, lc, rfl, hc2, hh2, ho2⟩
        have HJ2 := Lib.hid (HJ.out.cl hc2 hh2 (fun k e => .inl e) (fun k e => .inl e))
        have HO2 := Lib.hid ho2
        have HC2 := Lib.hid ((Ch.of_below (S := fun k => k = x ∨ k = g ∨ k = n ∨ k = q ∨ Row AA k ∨ Row HA k ∨ Row MA k) HB.out).step hh2 HB.out.size (fun k _ e => .inl e))
        have j4 : w2.cell? ⟨q, 4, none⟩ = some (.bool true) := by rw [← HWT.out]; exact HJ2.out.ms.box.cell 4
        have j3 : w2.cell? ⟨q, 3, none⟩ = some (.int .i64 y.ticks) := HJ2.out.ms.box.cell 3
        have j0 : w2.cell? ⟨q, 0, none⟩ = some (.int .i64 (f : Int)) := by rw [← hf]; exact HJ2.out.ms.box.cell 0
        have j5 : w2.cell? ⟨q, 5, none⟩ = some (.string y.asked) := HJ2.out.ms.box.cell 5
        have jf := HJ2.out.ms.box.free 3
        have HJ3 := Lib.hid (HJ2.out.setX 3 (.int .i64 (y.ticks + 1)) { y with ticks := y.ticks + 1 } rfl rfl rfl)
        have HC3 := Lib.hid (HC2.out.setCell (p := ⟨q, 3, none⟩) (.inr (.inr (.inr (.inr (.inl rfl))))) (.int .i64 (y.ticks + 1)))
        have hqW : q < W.heap.size := by omega
        have HO3 := Lib.hid (ownsRow_setCell_below HO2.out (a := ⟨q, 3, none⟩) hqW (.int .i64 (y.ticks + 1)))
        have HSN := Lib.hid (fun k => sent_calls LA lc W.heap.size f y.asked ((w2.setCell ⟨q, 3, none⟩ (.int .i64 (y.ticks + 1))).drewN k) (own_drewN HO3.out k) hf4)
        have HEND := Lib.hid (fun k => (show StepPost w x g K b t m n T S q J AA HA MA y (.returned (.bool true)) ((w2.setCell ⟨q, 3, none⟩ (.int .i64 (y.ticks + 1))).drewN k) from ⟨true, S, { y with ticks := y.ticks + 1 }, AA, ac, HA, hc, MA, mc, rfl, Lib.hid rfl, by omega, HJ3.out.below (below_dN (Below.refl _ _) _), Lib.hid ⟨rfl, rfl, by show y.stamp ≤ y.stamp; omega, by show y.stamp ≤ y.stamp + 1; omega, by show 0 ≤ y.ticks + 1; omega, .inl (Int.le_refl _), by show y.told.length ≤ y.told.length + 1; omega, by show y.ans.length ≤ y.ans.length + 1; omega⟩, HC3.out.drewN _⟩))
        clear hc2 hh2 ho2 k0 k1 k2 k3
        go_wp2_with fail
        go_quiet (first | (go_at_call 76; exact Calls.quiet_of_same (HSN.out _)))
        go_wp2
        go_ret
        exact HEND.out _
      · have hne := bne_iff_ne.2 h0
        rw [decide_eq_false h0] at HTK
        simp only [Bool.false_eq_true, if_false] at HTK
        clear h0
        go_enter Try.func74, Try.ntmps74
        go_wp2_with fail
        rw [← HWW.out]
        refine (HAR.out _).mono ?_
        rintro e wx ⟨rfl, hwx⟩
        obtain rfl := hwx
        go_wp2_with fail
        refine HTK.out.mono ?_
        rintro e w2 ⟨LA, lc, rfl, hc2, hh2, -⟩
        have HJ2 := Lib.hid (HJ.out.cl hc2 hh2 (fun k e => .inl e) (fun k e => .inl e))
        have HC2 := Lib.hid ((Ch.of_below (S := fun k => k = x ∨ k = g ∨ k = n ∨ k = q ∨ Row AA k ∨ Row HA k ∨ Row MA k) HB.out).step hh2 HB.out.size (fun k _ e => .inl e))
        have j4 : w2.cell? ⟨q, 4, none⟩ = some (.bool true) := by rw [← HWT.out]; exact HJ2.out.ms.box.cell 4
        have j3 : w2.cell? ⟨q, 3, none⟩ = some (.int .i64 y.ticks) := HJ2.out.ms.box.cell 3
        have jf := HJ2.out.ms.box.free 3
        have HJ3 := Lib.hid (HJ2.out.setX 3 (.int .i64 (y.ticks + 1)) { y with ticks := y.ticks + 1 } rfl rfl rfl)
        have HC3 := Lib.hid (HC2.out.setCell (p := ⟨q, 3, none⟩) (.inr (.inr (.inr (.inr (.inl rfl))))) (.int .i64 (y.ticks + 1)))
        clear hc2 hh2 k0 k1 k2 k3
        go_wp2
        go_ret
        exact ⟨true, S, { y with ticks := y.ticks + 1 }, AA, ac, HA, hc, MA, mc, rfl, Lib.hid rfl, by omega, HJ3.out, Lib.hid ⟨rfl, rfl, by show y.stamp ≤ y.stamp; omega, by show y.stamp ≤ y.stamp + 1; omega, by show 0 ≤ y.ticks + 1; omega, .inl (Int.le_refl _), by show y.told.length ≤ y.told.length + 1; omega, by show y.ans.length ≤ y.ans.length + 1; omega⟩, HC3.out⟩
  · have HROS := Lib.hid (rofSg_calls text W htx)
    unfold OfSgPost at HROS
    have HRV := Lib.hid (fun w1 h1 => recv_calls x g K b t m n T S y AA ac text f w1 h1 (by omega) htx hf hf4 (by omega) (by omega))
    have HNO := Lib.hid (fun h => recv_not (S := S) (y := y) (s := text) h)
    have hfm := (fitsB_iff _).1 (ofSg_fits text)
    obtain ⟨⟨m1, e1⟩, hr1⟩ : ∃ r, ofSg text = r := ⟨_, rfl⟩
    rw [hr1] at HROS HNO hfm
    obtain ⟨who1, body1, sig1⟩ := m1
    unfold Sg.val at HROS
    simp only at HROS HNO hfm
    have HCK := Lib.hid (fun w hb => check_calls b t m n T S who1 body1 sig1 w hb (by omega) (by have := hfm.2.2.1; simp only [maxLen]; omega))
    obtain ⟨ck, hck⟩ : ∃ ck, ck = checkE S who1 body1 sig1 := ⟨_, rfl⟩
    rw [← hck] at HCK HNO
    have HREND := Lib.hid (fun (w1 : World) (hb1 : Below w.heap.size w w1) (hj1 : JS w1 x g K b t m n T S y AA ac q J y HA hc MA mc) (hn : recvE S y text = (false, y)) (e : Ending) (w' : World) (hp : RecvPost w1 x g K b t m n T S AA (recvE S y text) e w') => (show e = .returned (.bool false) ∧ StepPost w x g K b t m n T S q J AA HA MA y (.returned (.bool true)) w' by
      rw [hn] at hp
      obtain ⟨AA', ac', rfl, hcs, hch, hrw⟩ := hp
      refine ⟨rfl, true, S, y, AA', ac', HA, hc, MA, mc, rfl, Lib.hid rfl, by omega, hj1.cl hcs hch (fun k e => by rcases e with e | e | e <;> simp [e]) hrw, Lib.hid ⟨rfl, rfl, by omega, by omega, htk.1, .inl (by omega), by omega, by omega⟩, (Ch.of_below hb1).step hch hb1.size (fun k _ e => by rcases e with e | e | e <;> simp [e])⟩))
    clear hr1 hck
    go_enter Try.func74, Try.ntmps74
    go_wp2_with fail
    rw [← HWW.out]
    refine (HAR.out _).mono ?_
    rintro e wx ⟨rfl, hwx⟩
    obtain rfl := hwx
    go_wp2_with fail
    refine HROS.out.mono ?_
    rintro e w2 ⟨rfl, hb2⟩
    have hal := (Below.refl w2.heap.size w2).alloc (Nat.le_refl _) (.cells #[.int .i64 who1, .string body1, .string sig1] 61)
    obtain ⟨W2, hW2⟩ : ∃ W2, W2 = w2.alloc (.cells #[.int .i64 who1, .string body1, .string sig1] 61) := ⟨_, rfl⟩
    have HB2 := Lib.hid (show Below w.heap.size w W2 by rw [hW2]; exact (HB.out.trans (hb2.mono HB.out.size)).trans (hal.mono (by have := hb2.size; have := HB.out.size; omega)))
    have HJ2 := Lib.hid (show JS W2 x g K b t m n T S y AA ac q J y HA hc MA mc by rw [hW2]; exact (HJ.out.below hb2).below hal)
    have HX2 := Lib.hid (show Box W2 w.heap.size #[.int .i64 kind, .int .i64 who, .int .i64 stp, .string text] 113 by rw [hW2]; exact (HX.out.call hb2).alloc _)
    have HM2 := Lib.hid (show Box W2 w2.heap.size #[.int .i64 who1, .string body1, .string sig1] 61 by rw [hW2]; exact Box.new w2 _ _)
    have HWW2 := Lib.hid hW2
    clear hb2 hal k0 k1 k2 k3
    obtain ⟨k0, k1, k2, k3, -⟩ := Box.facts4 HX2.out
    obtain ⟨m0, m1, m2, -⟩ := Box.facts3 HM2.out
    rw [hW2] at k0 k1 k2 k3 m0 m1 m2
    clear hW2
    by_cases h1 : e1 = 0
    · subst h1
      go_wp2_with fail
      rw [← HWW2.out] at *
      refine (HCK.out _ HJ2.out.cs.bk).mono ?_
      rintro e w3 ⟨rfl, hb3⟩
      have HB3 := Lib.hid (HB2.out.trans (hb3.mono HB2.out.size))
      have HJ3 := Lib.hid (HJ2.out.below hb3)
      have HX3 := Lib.hid (HX2.out.call hb3)
      clear hb3 k0 k1 k2 k3 m0 m1 m2
      obtain ⟨k0, k1, k2, k3, -⟩ := Box.facts4 HX3.out
      cases ck with
      | true =>
        go_wp2
        go_ret
        exact step_keep HJ3.out HB3.out htk.1
      | false =>
        have HN := Lib.hid (HNO.out (.inr rfl))
        go_wp2_with fail
        refine (HRV.out _ HJ3.out.cs).mono ?_
        intro e w4 hp
        obtain ⟨rfl, hend⟩ := HREND.out w3 HB3.out HJ3.out HN.out e w4 hp
        have HEND := Lib.hid hend
        clear hp hend
        go_wp2
        go_ret
        exact HEND.out
    · have hne : (e1 == 0) = false := by rw [beq_eq_false_iff_ne]; exact h1
      have HN := Lib.hid (HNO.out (.inl h1))
      clear h1
      go_wp2_with fail
      rw [← HWW2.out] at *
      refine (HRV.out _ HJ2.out.cs).mono ?_
      intro e w4 hp
      obtain ⟨rfl, hend⟩ := HREND.out W2 HB2.out HJ2.out HN.out e w4 hp
      have HEND := Lib.hid hend
      clear hp hend
      go_wp2
      go_ret
      exact HEND.out
  · have hd0 : ((r : Int) == 0) = false := by rw [beq_eq_false_iff_ne]; omega
    have hd1 : ((r : Int) == 1) = false := by rw [beq_eq_false_iff_ne]; omega
    have hd4 : ((r : Int) == 4) = false := by rw [beq_eq_false_iff_ne]; omega
    have hr3 := rnd_lt stp (m := 3) (by decide)
    have HAR3 := Lib.hid (fun w => (show Calls Try.prog 71 #[.int .i64 stp, .int .i64 3] w (fun e w' => e = .returned (.int .i64 (rnd stp 3 : Nat)) ∧ w' = w) from (around12_calls stp 3 w (by decide) (by decide)).mono (fun e w' h => ⟨h.1, h.2.symm⟩)))
    obtain ⟨r3, hrr3⟩ : ∃ r3, r3 = rnd stp 3 := ⟨_, rfl⟩
    rw [← hrr3] at HAR3 hr3
    have hwr : IntKind.i64.wrap (y.stamp + (r3 : Int)) = y.stamp + (r3 : Int) := wrap_near _ (by omega) (by omega)
    have hwr2 : IntKind.i64.wrap (y.stamp + (r3 : Int) - 1) = y.stamp + (r3 : Int) - 1 := wrap_near _ (by omega) (by omega)
    have j2 : W.cell? ⟨q, 2, none⟩ = some (.int .i64 y.stamp) := HJ.out.ms.box.cell 2
    clear hrr3
    go_enter Try.func74, Try.ntmps74
    go_wp2_with fail
    rw [← HWW.out]
    refine (HAR.out _).mono ?_
    rintro e wx ⟨rfl, hwx⟩
    obtain rfl := hwx
    go_wp2_with fail
    go_quiet (first | (go_at_call 71; exact Calls.quiet_of_same (HAR3.out _)))
    obtain ⟨W2, hW2⟩ : ∃ W2, W2 = W.drewN nq := ⟨_, rfl⟩
    have HB2 := Lib.hid (show Below w.heap.size w W2 by rw [hW2]; exact below_dN HB.out _)
    have HJ2 := Lib.hid (show JS W2 x g K b t m n T S y AA ac q J y HA hc MA mc by rw [hW2]; exact HJ.out.below (below_dN (Below.refl _ _) _))
    have HX2 := Lib.hid (show Box W2 w.heap.size #[.int .i64 kind, .int .i64 who, .int .i64 stp, .string text] 113 by rw [hW2]; exact HX.out.drewN _)
    rw [← hW2]
    clear hW2 k0 k1 k2 k3 j2
    obtain ⟨k0, k1, k2, k3, -⟩ := Box.facts4 HX2.out
    obtain ⟨st, hst2⟩ : ∃ st, st = y.stamp + (r3 : Int) - 1 := ⟨_, rfl⟩
    rw [← hst2]
    by_cases hbad : st < 1 ∨ who < 0 ∨ 255 < who ∨ 256 < text.size
    · have hb4 : st < 1 ∨ (¬ st < 1 ∧ who < 0) ∨ (¬ st < 1 ∧ ¬ who < 0 ∧ 255 < who) ∨ (¬ st < 1 ∧ ¬ who < 0 ∧ ¬ 255 < who ∧ 256 < text.size) := by omega
      clear hbad hst2
      rcases hb4 with h1 | ⟨h1, h2⟩ | ⟨h1, h2, h3⟩ | ⟨h1, h2, h3, h4⟩
      · have e1 : decide (st < 1) = true := by simpa using h1
        clear h1
        go_wp2
        go_ret
        exact step_keep HJ2.out HB2.out htk.1
      · have e1 : decide (st < 1) = false := by simpa using h1
        have e2 : decide (who < 0) = true := by simpa using h2
        clear h1 h2
        go_wp2
        go_ret
        exact step_keep HJ2.out HB2.out htk.1
      · have e1 : decide (st < 1) = false := by simpa using h1
        have e2 : decide (who < 0) = false := by simpa using h2
        have e3 : decide (255 < who) = true := by simpa using h3
        clear h1 h2 h3
        go_wp2
        go_ret
        exact step_keep HJ2.out HB2.out htk.1
      · have e1 : decide (st < 1) = false := by simpa using h1
        have e2 : decide (who < 0) = false := by simpa using h2
        have e3 : decide (255 < who) = false := by simpa using h3
        have e4 : decide ((256 : Int) < (text.size : Int)) = true := by simp; omega
        clear h1 h2 h3 h4
        go_wp2
        go_ret
        exact step_keep HJ2.out HB2.out htk.1
    · have e1 : decide (st < 1) = false := by simp; omega
      have e2 : decide (who < 0) = false := by simp; omega
      have e3 : decide (255 < who) = false := by simp; omega
      have e4 : decide ((256 : Int) < (text.size : Int)) = false := by simp; omega
      have hst1 : 1 ≤ st ∧ st ≤ 1099511627776 := by omega
      have hwho : 0 ≤ who ∧ who ≤ 255 := by omega
      have htx2 : text.size ≤ 256 := by omega
      clear hbad hst2
      go_wp2_with fail
      have HJD := Lib.hid HJ2.out.drew
      have HXD := Lib.hid (show Box W2.drew w.heap.size #[.int .i64 kind, .int .i64 who, .int .i64 stp, .string text] 113 from HX2.out.drew)
      have HBD := Lib.hid (show Below w.heap.size w W2.drew from HB2.out.drew)
      obtain ⟨s1, S1, hl1, hR, hV⟩ := hear_both x g K b t m n T S y AA ac who y.id st text f W2.drew HJD.out.cs (by omega) hwho hid hst1 htx2 hf hf4 (by omega) (by omega)
      have HR := Lib.hid hR
      have HV := Lib.hid hV
      have HMH := Lib.hid (fun w h => mhears_calls q J y HA hc MA mc who st text f w h hf hf4 hwho.1 (by omega) (by omega))
      have HBND := Lib.hid (hear_bounds y who y.id st text)
      obtain ⟨⟨v, y'⟩, hy'⟩ : ∃ R, R = hears y who y.id st text := ⟨_, rfl⟩
      rw [← hy'] at HV HMH HBND
      simp only at HBND
      clear hR hV hy'
      have d1 : W2.drew.cell? ⟨w.heap.size, 1, none⟩ = some (.int .i64 who) := HXD.out.cell 1
      have d3 : W2.drew.cell? ⟨w.heap.size, 3, none⟩ = some (.string text) := HXD.out.cell 3
      have dq : W2.drew.cell? ⟨q, 1, none⟩ = some (.int .i64 y.id) := HJD.out.ms.box.cell 1
      have hwq : w.heap.size ≠ q := by omega
      go_region_held3 (fun w' => w'.cell? ⟨w.heap.size, 1, none⟩ = some (.int .i64 who) ∧ w'.cell? ⟨w.heap.size, 3, none⟩ = some (.string text) ∧ w'.cell? ⟨q, 1, none⟩ = some (.int .i64 y.id)) (with_reducible first | exact ⟨d1, d3, dq⟩ | exact ⟨p1, p3, pq⟩ | exact ⟨q1, q3, qq⟩ | exact ⟨s1', s3', sq'⟩) (first | (go_at_call 70; refine HR.out.mono ?_; rintro e w5 ⟨rfl, hc5, ch5⟩; have HJ5 := Lib.hid (HJD.out.cl hc5 ch5 (fun k e => .inr (.inr (.inl e))) (fun k e => .inl e)); have HX5 := Lib.hid (Box.ch HXD.out ch5 HXD.out.lt (by omega)); have HC5 := Lib.hid ((Ch.of_below (S := fun k => k = x ∨ k = g ∨ k = n ∨ k = q ∨ Row AA k ∨ Row HA k ∨ Row MA k) HBD.out).step ch5 HBD.out.size (fun k _ e => .inr (.inr (.inl e)))); have hz5 := HC5.out.size; obtain ⟨-, p1, -, p3, -⟩ := Box.facts4 HX5.out; have pq := HJ5.out.ms.id2.1; clear hc5 ch5) | (go_at_call 69; refine (HV.out _ HJ5.out.cs).mono ?_; rintro e w6 ⟨A6, c6, rfl, hc6, ch6, hr6⟩; have HJ6 := Lib.hid (HJ5.out.cl hc6 ch6 (fun k e => (by rcases e with e | e | e <;> simp [e])) hr6); have HX6 := Lib.hid (Box.ch HX5.out ch6 HX5.out.lt (fun e => (by rcases e with e | e | e <;> first | omega | (have := HRH.out _ (.inl e); omega)))); have HC6 := Lib.hid (HC5.out.step ch6 hz5 (fun k _ e => (by rcases e with e | e | e <;> simp [e]))); have hz6 := HC6.out.size; obtain ⟨-, q1, -, q3, -⟩ := Box.facts4 HX6.out; have qq := HJ6.out.ms.id2.1; clear hc6 ch6 hr6) | (go_at_call 136; refine (HMH.out _ HJ6.out.ms).mono ?_; rintro e w7 ⟨v2, H7, h7, M7, m7, rfl, hv2, hm7, ch7, hh7, hk7⟩; obtain rfl : v2 = v := hv2; have HJ7 := Lib.hid (HJ6.out.md hm7 ch7 hh7 hk7); have HX7 := Lib.hid (Box.ch HX6.out ch7 HX6.out.lt (fun e => (by rcases e with e | e | e <;> first | omega | (have := HRH.out _ (.inr (.inl e)); omega) | (have := HRH.out _ (.inr (.inr e)); omega)))); have HC7 := Lib.hid (HC6.out.step ch7 hz6 (fun k _ e => (by rcases e with e | e | e <;> simp [e]))); obtain ⟨-, s1', -, s3', -⟩ := Box.facts4 HX7.out; have sq' := (show w7.cell? ⟨q, 1, none⟩ = some (.int .i64 y.id) from by have h1 := HJ7.out.ms.id2.1; rw [HBND.out.2.1] at h1; exact h1); clear hm7 ch7 hh7 hk7))
      all_goals
        go_wp2
        go_ret
        obtain ⟨b1, b2, b3, b4, b5, b6⟩ := HBND.out
        exact ⟨true, S1, y', A6, c6, H7, h7, M7, m7, rfl, Lib.hid rfl, hl1, HJ7.out, Lib.hid ⟨b1, b2, by omega, by omega, by omega, .inl (by omega), b5, b6⟩, HC7.out⟩
end Go.Proofs.Ytfgpchffkpomoaa
