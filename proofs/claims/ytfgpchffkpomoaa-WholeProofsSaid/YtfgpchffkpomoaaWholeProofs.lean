/- A proof of any key that is laid as bytes, sealed, sent, opened and read there tells what there is: the walk. -/
import Derived.Test.YtfgpchffkpomoaaWhole4
import Derived.Test.YtfgpchffkpomoaaPk28
namespace Go.Proofs.Ytfgpchffkpomoaa
set_option linter.unusedSimpArgs false
set_option linter.unusedVariables false
open Go.RowKit

theorem truth_parts {l : List Rc} {key v : ByteArray} {has : Bool} (h : truthP l key v has = true) : (atP l key = none → has = false ∧ v = ⟨#[]⟩) ∧ ∀ x, atP l key = some x → has = true ∧ v = x.val := by
  unfold truthP at h
  constructor
  · intro hn
    rw [hn] at h
    simpa using h
  · intro x hx
    rw [hx] at h
    simpa using h

set_option maxHeartbeats 8000000 in
set_option maxRecDepth 100000 in
theorem wholeProofs_cut (A : Option Addr) (c : Nat) (L : List Rc) (n0 : Nat) (key : ByteArray) (who : Int) (W : World) (hs : RcS W A c L) (hl : L.length ≤ 60) (hn : (n0 = L.length ∧ n0 ≤ 60) ∨ (60 < n0 ∧ L.length = 60 ∧ n0 ≤ c)) (hnf : n0 ≤ 9223372036854775807) (hA : n0 = 0 ∨ ∃ a, A = some a) (hw0 : -9223372036854775808 ≤ who) (hw1 : who ≤ 9223372036854775807) :
    Calls Try.prog 33 #[.slice A n0 c, .string key, .int .i64 who] W fun e w' => e = .returned (.bool true) ∧ Below W.heap.size W w' := by
  have HN := Lib.hid (newBook_calls W)
  have HSL := Lib.hid hs
  have hl2 : L.length ≤ 200 := by omega
  have HAR := Lib.hid (fun w => around256_calls who w hw0 hw1)
  have HAW := Lib.hid (fun w => works_calls w)
  have HFT := Lib.hid (fun w => rfits4_calls key w)
  have HRI := Lib.hid (fun w hs => rrise_calls A c L w hs)
  have HAT := Lib.hid (fun w hs => at_calls A c L key w hs (by omega))
  have hfit := hs.fits
  obtain ⟨cd, hcd⟩ : ∃ cd, cd = riseE L := ⟨_, rfl⟩
  rw [← hcd] at HRI
  have HCD := Lib.hid hcd
  clear hs hcd
  have HREST : ∀ (w1 : World) (b t m n : Nat), Below W.heap.size W w1 → Bk w1 b t m n [] [] → W.heap.size ≤ m → W.heap.size ≤ n → True := fun _ _ _ _ _ _ _ _ _ => trivial
  clear HREST
  rcases hn with ⟨rfl, hn⟩ | ⟨hn, hL6, hnc⟩
  · have hd6 : decide ((60 : Int) < (L.length : Int)) = false := by simp; omega
    go_enter Try.func33, Try.ntmps33
    go_wp2_with fail
    refine HN.out.mono ?_
    rintro e w1 ⟨b, t, m, n, rfl, hb1, hk1, hb, ht, hm, hn'⟩
    have hz1 := hb1.size
    have HB1 := Lib.hid hb1
    have HSL1 := Lib.hid (HSL.out.below HB1.out)
    have HO := Lib.hid (off_new (m := m) HSL.out (by omega))
    have HROW := Lib.hid (fun h0 => HSL.out.row_lt h0)
    have HON := Lib.hid (off_new (m := n) HSL.out (by omega))
    have HRT := Lib.hid (mRoot_calls b t m n [] [] A c L w1 hk1 (by decide) HSL1.out HO.out)
    have hml := hk1.all_lt.2.2.1
    have hnl := hk1.all_lt.2.2.2
    clear hk1 hb1 hb ht
    go_wp2_with fail
    refine HRT.out.mono ?_
    rintro e w2 ⟨T2, x2, rfl, hx2, e2, l2, ch2, k2⟩
    have HSL2 := Lib.hid (HSL1.out.off ch2 HO.out)
    have HC2 := Lib.hid ((Ch.of_below (S := fun _ => False) HB1.out).step ch2 (by omega) (fun i hi e => by omega))
    have hz2 := HC2.out.size
    have hz12 := ch2.size
    have HPV := Lib.hid (mProve_calls b t m n T2 [] A c L key w2 k2 (by simp at l2; omega) HSL2.out HO.out)
    have HX2 := Lib.hid hx2.out
    rw [← HCD.out]
    clear ch2 k2 hx2
    go_wp2_with fail
    refine HPV.out.mono ?_
    rintro e w3 ⟨T3, A3, c3, ps, cnt, cd2, rfl, hpv, e3, l3, ch3, k3, p3, r3⟩
    have hz3 := ch3.size
    have HC3 := Lib.hid (HC2.out.step ch3 hz2 (fun i hi e => by omega))
    have HSL3 := Lib.hid (HSL2.out.off ch3 HO.out)
    have hal := (Below.refl w3.heap.size w3).alloc (Nat.le_refl _) (.cells #[.int .i64 cnt, .slice A3 ps.length c3] 35)
    have HBX3 := Lib.hid (Box.new w3 #[.int .i64 cnt, .slice A3 ps.length c3] 35)
    have HC4 := Lib.hid (HC3.out.alloc (by omega) (.cells #[.int .i64 cnt, .slice A3 ps.length c3] 35))
    have HSL4 := Lib.hid (HSL3.out.below hal)
    have HPM := Lib.hid (p3.below hal)
    have HK4 := Lib.hid (k3.alloc (.cells #[.int .i64 cnt, .slice A3 ps.length c3] 35))
    have HOP := Lib.hid (show Off A3 ps.length n from fun _ k hk => by have := r3.1 k hk; omega)
    have HOX := Lib.hid (show ∀ x ∈ ps, Off x.A x.sides.length n from fun x hx _ k hk => by have := r3.2.1 x hx k hk; omega)
    have hpfit := p3.1.fits
    have HPVV := Lib.hid hpv.out
    have hfar : w3.heap.size + 1 ≠ b ∧ w3.heap.size + 1 ≠ t ∧ w3.heap.size + 1 ≠ m ∧ w3.heap.size + 1 ≠ n := by have := k3.all_lt; omega
    clear ch3 k3 p3 r3 hal hpv
    obtain ⟨x0, x1, y0, y1⟩ := HBX3.out.facts2
    by_cases hr : riseE L = 0
    · have hcd0 : cd = 0 := by rw [HCD.out, hr]
      subst hcd0
      by_cases hf : fitK key = true
      · obtain ⟨rfl, rfl, hps, hli, hsi⟩ := HPVV.out.1 hr hf
        obtain ⟨hxa, hxb⟩ := HX2.out.1 hr
        have hx8 : x2.size = 8 := by rw [hxa]; exact hh_size _ _
        have hpk : pfOk ((L.length : Nat) : Int) (ps.map Pm.pt) = true := by rw [hps]; exact (verify_honest (T := T3) hr hf).1
        have HPX := Lib.hid (fun T' (he : Ext T3 T') => (hps.trans (proof_ext he hli hsi).symm : ps.map Pm.pt = proofP (hh T') L key))
        have HRX := Lib.hid (fun T' (he : Ext T3 T') => ((hxa.trans (hxb.ext (e3.trans he)).2.symm : x2 = rootP (hh T') L)))
        have HRB := Lib.hid (fun T' (he : Ext T3 T') => (hxb.ext (e3.trans he)).1)
        have HR := Lib.hid hr
        have HFK := Lib.hid hf
        have HCR := Lib.hid (fun r w hk hp h0 h1 => carried_calls b t m n T3 r x2 L.length A3 c3 ps w hk ⟨h0, h1⟩ hx8 hp hpk HOP.out HOX.out)
        clear hps hli hsi hxa hxb hr hf hpk
        have hbz := Box.new (w3.alloc (.cells #[.int .i64 L.length, .slice A3 ps.length c3] 35)) #[.int .i64 0, .slice none 0 0] 35
        simp only [World.size_alloc] at hbz
        have HBZ := Lib.hid hbz
        clear hbz
        go_wp2_with fail
        go_cut [12, 13, 14] (fun s12 s13 s14 wx => ∃ q B bc ms S', s12 = .string x2 ∧ s13 = .pointer (some ⟨q, 0, none⟩) ∧ s14 = .bool true ∧ Hid (ms.map Pm.pt = ps.map Pm.pt ∧ Ch W.heap.size (fun _ => False) W wx ∧ Bk wx b t m n T3 S' ∧ Box wx q #[.int .i64 L.length, .slice B ms.length bc] 35 ∧ PmS wx B bc ms ∧ Off B ms.length m ∧ (∀ x ∈ ms, Off x.A x.sides.length m) ∧ (∀ x ∈ ms, x.sides.length ≤ x.c) ∧ RcS wx A c L))
        case first =>
          have hbk := HK4.out.drew
          have hbx := HBX3.out.drew
          have hbkA := (HK4.out.alloc (.cells #[.int .i64 0, .slice none 0 0] 35)).drew
          have hbxA := (HBX3.out.alloc (.cells #[.int .i64 0, .slice none 0 0] 35)).drew
          have hqq : w3.heap.size ≠ w3.heap.size + 1 := by omega
          have hpm : PmS (w3.alloc (.cells #[.int .i64 L.length, .slice A3 ps.length c3] 35)).drew A3 c3 ps := ⟨⟨HPM.out.1.len, HPM.out.1.fits, HPM.out.1.at_⟩, fun x hx => (HPM.out.2 x hx).drew⟩
          have hpm0 := HPM.out.below ((Below.refl (w3.alloc (.cells #[.int .i64 L.length, .slice A3 ps.length c3] 35)).heap.size (w3.alloc (.cells #[.int .i64 L.length, .slice A3 ps.length c3] 35))).alloc (Nat.le_refl _) (.cells #[.int .i64 0, .slice none 0 0] 35))
          have hpmA : PmS ((w3.alloc (.cells #[.int .i64 L.length, .slice A3 ps.length c3] 35)).alloc (.cells #[.int .i64 0, .slice none 0 0] 35)).drew A3 c3 ps := ⟨⟨hpm0.1.len, hpm0.1.fits, hpm0.1.at_⟩, fun x hx => (hpm0.2 x hx).drew⟩
          go_region_held3 (fun w' => w'.cell? ⟨w3.heap.size, 0, none⟩ = some (.int .i64 L.length) ∧ w'.cell? ⟨w3.heap.size, 1, none⟩ = some (.slice A3 ps.length c3)) (first | exact ⟨hbx5.cell 0, hbx5.cell 1⟩ | exact ⟨(hbx5.alloc _).cell 0, (hbx5.alloc _).cell 1⟩ | exact ⟨keep2 (hbx5.cell 0) hqq, keep2 (hbx5.cell 1) hqq⟩ | exact ⟨hbxA.cell 0, hbxA.cell 1⟩ | exact ⟨hbx.cell 0, hbx.cell 1⟩) (first | (go_at_call 95; refine (HAR.out _).mono ?_; rintro e wx ⟨rr, rfl, hr0, hr1, hwx⟩; subst hwx) | (go_at_call 94; first | (refine (HCR.out _ _ hbk hpm hr0 hr1).mono ?_; rintro e w5 ⟨B, bc, ms, S', rfl, hms, ch5, k5, po⟩; have hbx5 := hbx.ch ch5 hbx.lt (by omega)) | (refine (HCR.out _ _ hbkA hpmA hr0 hr1).mono ?_; rintro e w5 ⟨B, bc, ms, S', rfl, hms, ch5, k5, po⟩; have hbx5 := hbxA.ch ch5 hbxA.lt (by omega); obtain ⟨j0, j1, i0, i1⟩ := (HBZ.out.drew.ch ch5 HBZ.out.lt (by omega)).facts2)))
          all_goals go_wp2_with fail
          all_goals go_meet
          all_goals
            have hz5 : w3.heap.size + 1 ≤ w5.heap.size := by have := ch5.size; simp at this; omega
            first
              | exact ⟨w5.heap.size, B, bc, ms, S', rfl, rfl, rfl, hms, (HC4.out.drew.step ch5 (by simp; omega) (fun i hi e => by omega)).alloc (by omega) _, k5.alloc _, Box.new w5 #[.int .i64 L.length, .slice B ms.length bc] 35, po.pm.below ((Below.refl w5.heap.size w5).alloc (Nat.le_refl _) (.cells #[.int .i64 L.length, .slice B ms.length bc] 35)), own_off po.row (by simp; omega), fun x hx => own_off (po.sides x hx) (by simp; omega), fun x hx => own_cap (po.sides x hx), (RcS.off (w := (w3.alloc (.cells #[.int .i64 L.length, .slice A3 ps.length c3] 35)).drew) (HSL4.out.drewN 1) ch5 HON.out).below ((Below.refl w5.heap.size w5).alloc (Nat.le_refl _) (.cells #[.int .i64 L.length, .slice B ms.length bc] 35))⟩
              | exact ⟨w3.heap.size + 1, B, bc, ms, S', rfl, rfl, rfl, hms, (((HC4.out.alloc (by simp; omega) (.cells #[.int .i64 0, .slice none 0 0] 35)).drew.step ch5 (by simp; omega) (fun i hi e => by omega)).setCell (p := ⟨w3.heap.size + 1, 0, none⟩) (.inl (by simp only; omega)) _).setCell (p := ⟨w3.heap.size + 1, 1, none⟩) (.inl (by simp only; omega)) _, (k5.setCell (p := ⟨w3.heap.size + 1, 0, none⟩) hfar _).setCell (p := ⟨w3.heap.size + 1, 1, none⟩) hfar _, box_fill2 (HBZ.out.drew.ch ch5 HBZ.out.lt (by omega)), ((po.set (b := w3.heap.size + 1) (i := 0) (by simp) _).set (b := w3.heap.size + 1) (i := 1) (by simp) _).pm, own_off po.row (by simp; omega), fun x hx => own_off (po.sides x hx) (by simp; omega), fun x hx => own_cap (po.sides x hx), RcS.keep (q := w3.heap.size + 1) (RcS.off (w := ((w3.alloc (.cells #[.int .i64 L.length, .slice A3 ps.length c3] 35)).alloc (.cells #[.int .i64 0, .slice none 0 0] 35)).drew) (RcS.drewN (HSL4.out.below ((Below.refl (w3.alloc (.cells #[.int .i64 L.length, .slice A3 ps.length c3] 35)).heap.size (w3.alloc (.cells #[.int .i64 L.length, .slice A3 ps.length c3] 35))).alloc (Nat.le_refl _) (.cells #[.int .i64 0, .slice none 0 0] 35))) 1) ch5 HON.out) (((Ch.refl w5.heap.size (· = w3.heap.size + 1) w5).setCell (p := ⟨w3.heap.size + 1, 0, none⟩) (.inr rfl) _).setCell (p := ⟨w3.heap.size + 1, 1, none⟩) (.inr rfl) _) (fun h0 j hj => by have := HROW.out h0 j hj; omega)⟩
        case rest =>
          obtain ⟨q, B, bc, ms, S', rfl, rfl, rfl, HH⟩ := hcut
          obtain ⟨hms, hch, hbk, hbq, hpq, ho1, ho2, ho3, hrq⟩ := HH.out
          have HMS := Lib.hid hms
          have HCH := Lib.hid hch
          have HBQ := Lib.hid hbq
          have HRQ := Lib.hid hrq
          have hmf := hpq.1.fits
          have hql := hbq.lt
          have HV := Lib.hid (mVerify_calls b t m n T3 S' x2 key L.length B bc ms _ hbk (by simp at l2; omega) hpq ho3 ho1 ho2)
          skip
          clear HH hms hch hbk hbq hpq ho1 ho2 ho3 hrq
          obtain ⟨z0, z1, _⟩ := HBQ.out.facts2
          go_wp2_with fail
          refine HV.out.mono ?_
          rintro e w6 ⟨T6, v, has, cd6, rfl, hv, hvi, e6, l6, ch6, k6⟩
          have hv1 : (v, has, cd6) = verifyP (hh T6) (rootP (hh T6) L) key L.length (proofP (hh T6) L key) := by rw [hv.out, HMS.out, HPX.out T6 e6, HRX.out T6 e6]
          have h0 := (verify_honest (T := T6) HR.out HFK.out).2
          have hvn := hvi.out (by rw [← hv1] at h0; exact h0)
          rw [HMS.out, HPX.out T6 e6] at hvn
          have htr := verify_sound (T := T6) (by simp at l2; omega) (HRB.out T6 e6) HR.out (key := key) (count := L.length) (ps := proofP (hh T6) L key) hvn h0
          rw [← hv1] at h0 htr
          simp only at h0 htr
          subst h0
          obtain ⟨ht1, ht2⟩ := truth_parts htr
          have HC6 := Lib.hid (HCH.out.step ch6 HCH.out.size (fun i hi e => by omega))
          have hz6 := HC6.out.size
          have hrs6 := HRQ.out.off ch6 HO.out
          have HRS6 := Lib.hid hrs6
          have HATT := Lib.hid (HAT.out w6 hrs6)
          clear hv1 hvn hv hvi ch6 k6 htr hrs6 z0 z1
          go_wp2_with fail
          refine HATT.out.mono ?_
          rintro e wx ⟨r, rfl, hw, hrr⟩
          subst hw
          rcases hrr.out with ⟨rfl, hn0⟩ | ⟨i, x, rfl, hx, hn0⟩
          · obtain ⟨rfl, rfl⟩ := ht1 hn0
            clear ht1 ht2 hrr hn0
            go_wp2_with fail
            refine (HAW.out _).mono ?_
            rintro e w7 ⟨rfl, hb7⟩
            go_wp2
            go_ret
            exact ⟨rfl, (HC6.out.step (Ch.of_below (S := fun _ => False) hb7) hz6 (fun _ _ e => e)).below (fun _ _ e => e)⟩
          · obtain ⟨rfl, rfl⟩ := ht2 x hn0
            have hi := (List.getElem?_eq_some_iff.1 hx).1
            obtain ⟨a2, ha2, e0, e1⟩ := HRS6.out.elem i hi
            obtain rfl := ha2
            have hxe := (List.getElem?_eq_some_iff.1 hx).2
            rw [hxe] at e0 e1
            have hge : decide ((0 : Int) ≤ (i : Int)) = true := by simp
            have hlt0 : decide ((i : Int) < 0) = false := by simp
            have hi0 : (0 : Int) ≤ (i : Int) := by omega
            have hi1 : (i : Int) < (L.length : Int) := by omega
            obtain ⟨xk, xv⟩ := x
            simp only at e0 e1 ⊢
            clear ht1 ht2 hrr hn0 hx hxe
            skip
            go_wp2_with fail
            refine (HAW.out _).mono ?_
            rintro e w7 ⟨rfl, hb7⟩
            go_wp2
            go_ret
            exact ⟨rfl, (HC6.out.step (Ch.of_below (S := fun _ => False) hb7) hz6 (fun _ _ e => e)).below (fun _ _ e => e)⟩
      · have hf2 : fitK key = false := by simpa using hf
        obtain ⟨rfl, rfl, rfl⟩ := HPVV.out.2.1 hr hf2
        have HFT2 := Lib.hid (fun w => HFT.out w)
        rw [hf2] at HFT2
        have hz4 := HC4.out.size
        clear hf hf2 hr
        go_wp2_with fail
        refine (HRI.out _ HSL4.out).mono ?_
        rintro e w5 ⟨rfl, hb5⟩
        have HC5 := Lib.hid (HC4.out.step (Ch.of_below (S := fun _ => False) hb5) HC4.out.size (fun i hi e => e))
        have hz5 := HC5.out.size
        go_wp2_with fail
        refine (HFT2.out _).mono ?_
        rintro e wx ⟨rfl, hw⟩
        subst hw
        go_wp2_with fail
        refine (HAW.out _).mono ?_
        rintro e w6 ⟨rfl, hb6⟩
        go_wp2
        go_ret
        exact ⟨rfl, (HC5.out.step (Ch.of_below (S := fun _ => False) hb6) hz5 (fun _ _ e => e)).below (fun _ _ e => e)⟩
    · have hd0 : (cd == 0) = false := by rw [beq_eq_false_iff_ne, HCD.out]; exact hr
      have hd1 : (cd != 0) = true := by rw [bne, hd0]; rfl
      obtain ⟨rfl, rfl, rfl⟩ := HPVV.out.2.2 hr
      rw [← HCD.out]
      clear hr
      go_wp2_with fail
      refine (HRI.out _ HSL4.out).mono ?_
      rintro e w5 ⟨rfl, hb5⟩
      have HC5 := Lib.hid (HC4.out.step (Ch.of_below (S := fun _ => False) hb5) HC4.out.size (fun i hi e => e))
      have hz5 := HC5.out.size
      go_wp2_with fail
      refine (HAW.out _).mono ?_
      rintro e w6 ⟨rfl, hb6⟩
      go_wp2
      go_ret
      exact ⟨rfl, (HC5.out.step (Ch.of_below (S := fun _ => False) hb6) hz5 (fun _ _ e => e)).below (fun _ _ e => e)⟩
  · have hd6 : decide ((60 : Int) < (n0 : Int)) = true := by simp; omega
    obtain ⟨a, rfl⟩ : ∃ a, A = some a := by rcases hA with h | h; omega; exact h
    have h1 : (60 : Int) ≤ (n0 : Int) := by omega
    have h2 : (60 : Int) ≤ (c : Int) := by omega
    rw [hL6] at HRI HAT
    have H6 := Lib.hid hL6
    clear hL6
    go_enter Try.func33, Try.ntmps33
    go_wp2_with fail
    refine HN.out.mono ?_
    rintro e w1 ⟨b, t, m, n, rfl, hb1, hk1, hb, ht, hm, hn'⟩
    have hz1 := hb1.size
    have HB1 := Lib.hid hb1
    have HSL1 := Lib.hid (HSL.out.below HB1.out)
    have HO := Lib.hid (off_new (m := m) HSL.out (by omega))
    have HROW := Lib.hid (fun h0 => HSL.out.row_lt h0)
    have HON := Lib.hid (off_new (m := n) HSL.out (by omega))
    have HRT := Lib.hid (mRoot_calls b t m n [] [] (some a) c L w1 hk1 (by decide) HSL1.out HO.out)
    rw [H6.out] at HRT
    have hml := hk1.all_lt.2.2.1
    have hnl := hk1.all_lt.2.2.2
    clear hk1 hb1 hb ht
    go_wp2_with fail
    refine HRT.out.mono ?_
    rintro e w2 ⟨T2, x2, rfl, hx2, e2, l2, ch2, k2⟩
    have HSL2 := Lib.hid (HSL1.out.off ch2 HO.out)
    have HC2 := Lib.hid ((Ch.of_below (S := fun _ => False) HB1.out).step ch2 (by omega) (fun i hi e => by omega))
    have hz2 := HC2.out.size
    have hz12 := ch2.size
    have HPV := Lib.hid (mProve_calls b t m n T2 [] (some a) c L key w2 k2 (by simp at l2; omega) HSL2.out HO.out)
    rw [H6.out] at HPV
    have HX2 := Lib.hid hx2.out
    rw [← HCD.out]
    clear ch2 k2 hx2
    go_wp2_with fail
    refine HPV.out.mono ?_
    rintro e w3 ⟨T3, A3, c3, ps, cnt, cd2, rfl, hpv, e3, l3, ch3, k3, p3, r3⟩
    have hz3 := ch3.size
    have HC3 := Lib.hid (HC2.out.step ch3 hz2 (fun i hi e => by omega))
    have HSL3 := Lib.hid (HSL2.out.off ch3 HO.out)
    have hal := (Below.refl w3.heap.size w3).alloc (Nat.le_refl _) (.cells #[.int .i64 cnt, .slice A3 ps.length c3] 35)
    have HBX3 := Lib.hid (Box.new w3 #[.int .i64 cnt, .slice A3 ps.length c3] 35)
    have HC4 := Lib.hid (HC3.out.alloc (by omega) (.cells #[.int .i64 cnt, .slice A3 ps.length c3] 35))
    have HSL4 := Lib.hid (HSL3.out.below hal)
    have HPM := Lib.hid (p3.below hal)
    have HK4 := Lib.hid (k3.alloc (.cells #[.int .i64 cnt, .slice A3 ps.length c3] 35))
    have HOP := Lib.hid (show Off A3 ps.length n from fun _ k hk => by have := r3.1 k hk; omega)
    have HOX := Lib.hid (show ∀ x ∈ ps, Off x.A x.sides.length n from fun x hx _ k hk => by have := r3.2.1 x hx k hk; omega)
    have hpfit := p3.1.fits
    have HPVV := Lib.hid hpv.out
    have hfar : w3.heap.size + 1 ≠ b ∧ w3.heap.size + 1 ≠ t ∧ w3.heap.size + 1 ≠ m ∧ w3.heap.size + 1 ≠ n := by have := k3.all_lt; omega
    clear ch3 k3 p3 r3 hal hpv
    obtain ⟨x0, x1, y0, y1⟩ := HBX3.out.facts2
    by_cases hr : riseE L = 0
    · have hcd0 : cd = 0 := by rw [HCD.out, hr]
      subst hcd0
      by_cases hf : fitK key = true
      · obtain ⟨rfl, rfl, hps, hli, hsi⟩ := HPVV.out.1 hr hf
        obtain ⟨hxa, hxb⟩ := HX2.out.1 hr
        have hx8 : x2.size = 8 := by rw [hxa]; exact hh_size _ _
        have hpk : pfOk ((L.length : Nat) : Int) (ps.map Pm.pt) = true := by rw [hps]; exact (verify_honest (T := T3) hr hf).1
        have HPX := Lib.hid (fun T' (he : Ext T3 T') => (hps.trans (proof_ext he hli hsi).symm : ps.map Pm.pt = proofP (hh T') L key))
        have HRX := Lib.hid (fun T' (he : Ext T3 T') => ((hxa.trans (hxb.ext (e3.trans he)).2.symm : x2 = rootP (hh T') L)))
        have HRB := Lib.hid (fun T' (he : Ext T3 T') => (hxb.ext (e3.trans he)).1)
        have HR := Lib.hid hr
        have HFK := Lib.hid hf
        have HCR := Lib.hid (fun r w hk hp h0 h1 => carried_calls b t m n T3 r x2 L.length A3 c3 ps w hk ⟨h0, h1⟩ hx8 hp hpk HOP.out HOX.out)
        clear hps hli hsi hxa hxb hr hf hpk
        have hbz := Box.new (w3.alloc (.cells #[.int .i64 L.length, .slice A3 ps.length c3] 35)) #[.int .i64 0, .slice none 0 0] 35
        simp only [World.size_alloc] at hbz
        have HBZ := Lib.hid hbz
        clear hbz
        go_wp2_with fail
        go_cut [12, 13, 14] (fun s12 s13 s14 wx => ∃ q B bc ms S', s12 = .string x2 ∧ s13 = .pointer (some ⟨q, 0, none⟩) ∧ s14 = .bool true ∧ Hid (ms.map Pm.pt = ps.map Pm.pt ∧ Ch W.heap.size (fun _ => False) W wx ∧ Bk wx b t m n T3 S' ∧ Box wx q #[.int .i64 L.length, .slice B ms.length bc] 35 ∧ PmS wx B bc ms ∧ Off B ms.length m ∧ (∀ x ∈ ms, Off x.A x.sides.length m) ∧ (∀ x ∈ ms, x.sides.length ≤ x.c) ∧ RcS wx (some a) c L))
        case first =>
          have hbk := HK4.out.drew
          have hbx := HBX3.out.drew
          have hbkA := (HK4.out.alloc (.cells #[.int .i64 0, .slice none 0 0] 35)).drew
          have hbxA := (HBX3.out.alloc (.cells #[.int .i64 0, .slice none 0 0] 35)).drew
          have hqq : w3.heap.size ≠ w3.heap.size + 1 := by omega
          have hpm : PmS (w3.alloc (.cells #[.int .i64 L.length, .slice A3 ps.length c3] 35)).drew A3 c3 ps := ⟨⟨HPM.out.1.len, HPM.out.1.fits, HPM.out.1.at_⟩, fun x hx => (HPM.out.2 x hx).drew⟩
          have hpm0 := HPM.out.below ((Below.refl (w3.alloc (.cells #[.int .i64 L.length, .slice A3 ps.length c3] 35)).heap.size (w3.alloc (.cells #[.int .i64 L.length, .slice A3 ps.length c3] 35))).alloc (Nat.le_refl _) (.cells #[.int .i64 0, .slice none 0 0] 35))
          have hpmA : PmS ((w3.alloc (.cells #[.int .i64 L.length, .slice A3 ps.length c3] 35)).alloc (.cells #[.int .i64 0, .slice none 0 0] 35)).drew A3 c3 ps := ⟨⟨hpm0.1.len, hpm0.1.fits, hpm0.1.at_⟩, fun x hx => (hpm0.2 x hx).drew⟩
          go_region_held3 (fun w' => w'.cell? ⟨w3.heap.size, 0, none⟩ = some (.int .i64 L.length) ∧ w'.cell? ⟨w3.heap.size, 1, none⟩ = some (.slice A3 ps.length c3)) (first | exact ⟨hbx5.cell 0, hbx5.cell 1⟩ | exact ⟨(hbx5.alloc _).cell 0, (hbx5.alloc _).cell 1⟩ | exact ⟨keep2 (hbx5.cell 0) hqq, keep2 (hbx5.cell 1) hqq⟩ | exact ⟨hbxA.cell 0, hbxA.cell 1⟩ | exact ⟨hbx.cell 0, hbx.cell 1⟩) (first | (go_at_call 95; refine (HAR.out _).mono ?_; rintro e wx ⟨rr, rfl, hr0, hr1, hwx⟩; subst hwx) | (go_at_call 94; first | (refine (HCR.out _ _ hbk hpm hr0 hr1).mono ?_; rintro e w5 ⟨B, bc, ms, S', rfl, hms, ch5, k5, po⟩; have hbx5 := hbx.ch ch5 hbx.lt (by omega)) | (refine (HCR.out _ _ hbkA hpmA hr0 hr1).mono ?_; rintro e w5 ⟨B, bc, ms, S', rfl, hms, ch5, k5, po⟩; have hbx5 := hbxA.ch ch5 hbxA.lt (by omega); obtain ⟨j0, j1, i0, i1⟩ := (HBZ.out.drew.ch ch5 HBZ.out.lt (by omega)).facts2)))
          all_goals go_wp2_with fail
          all_goals go_meet
          all_goals
            have hz5 : w3.heap.size + 1 ≤ w5.heap.size := by have := ch5.size; simp at this; omega
            first
              | exact ⟨w5.heap.size, B, bc, ms, S', rfl, rfl, rfl, hms, (HC4.out.drew.step ch5 (by simp; omega) (fun i hi e => by omega)).alloc (by omega) _, k5.alloc _, Box.new w5 #[.int .i64 L.length, .slice B ms.length bc] 35, po.pm.below ((Below.refl w5.heap.size w5).alloc (Nat.le_refl _) (.cells #[.int .i64 L.length, .slice B ms.length bc] 35)), own_off po.row (by simp; omega), fun x hx => own_off (po.sides x hx) (by simp; omega), fun x hx => own_cap (po.sides x hx), (RcS.off (w := (w3.alloc (.cells #[.int .i64 L.length, .slice A3 ps.length c3] 35)).drew) (HSL4.out.drewN 1) ch5 HON.out).below ((Below.refl w5.heap.size w5).alloc (Nat.le_refl _) (.cells #[.int .i64 L.length, .slice B ms.length bc] 35))⟩
              | exact ⟨w3.heap.size + 1, B, bc, ms, S', rfl, rfl, rfl, hms, (((HC4.out.alloc (by simp; omega) (.cells #[.int .i64 0, .slice none 0 0] 35)).drew.step ch5 (by simp; omega) (fun i hi e => by omega)).setCell (p := ⟨w3.heap.size + 1, 0, none⟩) (.inl (by simp only; omega)) _).setCell (p := ⟨w3.heap.size + 1, 1, none⟩) (.inl (by simp only; omega)) _, (k5.setCell (p := ⟨w3.heap.size + 1, 0, none⟩) hfar _).setCell (p := ⟨w3.heap.size + 1, 1, none⟩) hfar _, box_fill2 (HBZ.out.drew.ch ch5 HBZ.out.lt (by omega)), ((po.set (b := w3.heap.size + 1) (i := 0) (by simp) _).set (b := w3.heap.size + 1) (i := 1) (by simp) _).pm, own_off po.row (by simp; omega), fun x hx => own_off (po.sides x hx) (by simp; omega), fun x hx => own_cap (po.sides x hx), RcS.keep (q := w3.heap.size + 1) (RcS.off (w := ((w3.alloc (.cells #[.int .i64 L.length, .slice A3 ps.length c3] 35)).alloc (.cells #[.int .i64 0, .slice none 0 0] 35)).drew) (RcS.drewN (HSL4.out.below ((Below.refl (w3.alloc (.cells #[.int .i64 L.length, .slice A3 ps.length c3] 35)).heap.size (w3.alloc (.cells #[.int .i64 L.length, .slice A3 ps.length c3] 35))).alloc (Nat.le_refl _) (.cells #[.int .i64 0, .slice none 0 0] 35))) 1) ch5 HON.out) (((Ch.refl w5.heap.size (· = w3.heap.size + 1) w5).setCell (p := ⟨w3.heap.size + 1, 0, none⟩) (.inr rfl) _).setCell (p := ⟨w3.heap.size + 1, 1, none⟩) (.inr rfl) _) (fun h0 j hj => by have := HROW.out h0 j hj; omega)⟩
        case rest =>
          obtain ⟨q, B, bc, ms, S', rfl, rfl, rfl, HH⟩ := hcut
          obtain ⟨hms, hch, hbk, hbq, hpq, ho1, ho2, ho3, hrq⟩ := HH.out
          have HMS := Lib.hid hms
          have HCH := Lib.hid hch
          have HBQ := Lib.hid hbq
          have HRQ := Lib.hid hrq
          have hmf := hpq.1.fits
          have hql := hbq.lt
          have HV := Lib.hid (mVerify_calls b t m n T3 S' x2 key L.length B bc ms _ hbk (by simp at l2; omega) hpq ho3 ho1 ho2)
          skip
          clear HH hms hch hbk hbq hpq ho1 ho2 ho3 hrq
          obtain ⟨z0, z1, _⟩ := HBQ.out.facts2
          go_wp2_with fail
          refine HV.out.mono ?_
          rintro e w6 ⟨T6, v, has, cd6, rfl, hv, hvi, e6, l6, ch6, k6⟩
          have hv1 : (v, has, cd6) = verifyP (hh T6) (rootP (hh T6) L) key L.length (proofP (hh T6) L key) := by rw [hv.out, HMS.out, HPX.out T6 e6, HRX.out T6 e6]
          have h0 := (verify_honest (T := T6) HR.out HFK.out).2
          have hvn := hvi.out (by rw [← hv1] at h0; exact h0)
          rw [HMS.out, HPX.out T6 e6] at hvn
          have htr := verify_sound (T := T6) (by simp at l2; omega) (HRB.out T6 e6) HR.out (key := key) (count := L.length) (ps := proofP (hh T6) L key) hvn h0
          rw [← hv1] at h0 htr
          simp only at h0 htr
          subst h0
          obtain ⟨ht1, ht2⟩ := truth_parts htr
          have HC6 := Lib.hid (HCH.out.step ch6 HCH.out.size (fun i hi e => by omega))
          have hz6 := HC6.out.size
          have hrs6 := HRQ.out.off ch6 HO.out
          have HRS6 := Lib.hid hrs6
          have HATT := Lib.hid (HAT.out w6 hrs6)
          clear hv1 hvn hv hvi ch6 k6 htr hrs6 z0 z1
          go_wp2_with fail
          refine HATT.out.mono ?_
          rintro e wx ⟨r, rfl, hw, hrr⟩
          subst hw
          rcases hrr.out with ⟨rfl, hn0⟩ | ⟨i, x, rfl, hx, hn0⟩
          · obtain ⟨rfl, rfl⟩ := ht1 hn0
            clear ht1 ht2 hrr hn0
            go_wp2_with fail
            refine (HAW.out _).mono ?_
            rintro e w7 ⟨rfl, hb7⟩
            go_wp2
            go_ret
            exact ⟨rfl, (HC6.out.step (Ch.of_below (S := fun _ => False) hb7) hz6 (fun _ _ e => e)).below (fun _ _ e => e)⟩
          · obtain ⟨rfl, rfl⟩ := ht2 x hn0
            have hi := (List.getElem?_eq_some_iff.1 hx).1
            obtain ⟨a2, ha2, e0, e1⟩ := HRS6.out.elem i hi
            obtain rfl : a = a2 := by simpa using ha2
            have hxe := (List.getElem?_eq_some_iff.1 hx).2
            rw [hxe] at e0 e1
            have hge : decide ((0 : Int) ≤ (i : Int)) = true := by simp
            have hlt0 : decide ((i : Int) < 0) = false := by simp
            have hi0 : (0 : Int) ≤ (i : Int) := by omega
            have hi1 : (i : Int) < (L.length : Int) := by omega
            obtain ⟨xk, xv⟩ := x
            simp only at e0 e1 ⊢
            clear ht1 ht2 hrr hn0 hx hxe
            rw [H6.out] at hi1
            go_wp2_with fail
            refine (HAW.out _).mono ?_
            rintro e w7 ⟨rfl, hb7⟩
            go_wp2
            go_ret
            exact ⟨rfl, (HC6.out.step (Ch.of_below (S := fun _ => False) hb7) hz6 (fun _ _ e => e)).below (fun _ _ e => e)⟩
      · have hf2 : fitK key = false := by simpa using hf
        obtain ⟨rfl, rfl, rfl⟩ := HPVV.out.2.1 hr hf2
        have HFT2 := Lib.hid (fun w => HFT.out w)
        rw [hf2] at HFT2
        have hz4 := HC4.out.size
        clear hf hf2 hr
        go_wp2_with fail
        refine (HRI.out _ HSL4.out).mono ?_
        rintro e w5 ⟨rfl, hb5⟩
        have HC5 := Lib.hid (HC4.out.step (Ch.of_below (S := fun _ => False) hb5) HC4.out.size (fun i hi e => e))
        have hz5 := HC5.out.size
        go_wp2_with fail
        refine (HFT2.out _).mono ?_
        rintro e wx ⟨rfl, hw⟩
        subst hw
        go_wp2_with fail
        refine (HAW.out _).mono ?_
        rintro e w6 ⟨rfl, hb6⟩
        go_wp2
        go_ret
        exact ⟨rfl, (HC5.out.step (Ch.of_below (S := fun _ => False) hb6) hz5 (fun _ _ e => e)).below (fun _ _ e => e)⟩
    · have hd0 : (cd == 0) = false := by rw [beq_eq_false_iff_ne, HCD.out]; exact hr
      have hd1 : (cd != 0) = true := by rw [bne, hd0]; rfl
      obtain ⟨rfl, rfl, rfl⟩ := HPVV.out.2.2 hr
      rw [← HCD.out]
      clear hr
      go_wp2_with fail
      refine (HRI.out _ HSL4.out).mono ?_
      rintro e w5 ⟨rfl, hb5⟩
      have HC5 := Lib.hid (HC4.out.step (Ch.of_below (S := fun _ => False) hb5) HC4.out.size (fun i hi e => e))
      have hz5 := HC5.out.size
      go_wp2_with fail
      refine (HAW.out _).mono ?_
      rintro e w6 ⟨rfl, hb6⟩
      go_wp2
      go_ret
      exact ⟨rfl, (HC5.out.step (Ch.of_below (S := fun _ => False) hb6) hz5 (fun _ _ e => e)).below (fun _ _ e => e)⟩
theorem wholeProofs_calls (A : Option Addr) (c : Nat) (l : List Rc) (key : ByteArray) (who : Int) (W : World) (hs : RcS W A c l) (hc : l.length ≤ c) (hw0 : -9223372036854775808 ≤ who) (hw1 : who ≤ 9223372036854775807) :
    Calls Try.prog 33 #[.slice A l.length c, .string key, .int .i64 who] W fun e w' => e = .returned (.bool true) ∧ Below W.heap.size W w' := by
  refine wholeProofs_cut A c (l.take 60) l.length key who W (hs.take 60) (by simp; omega) ?_ hs.fits ?_ hw0 hw1
  · rcases Nat.lt_or_ge 60 l.length with h | h
    · exact .inr ⟨h, by simp; omega, hc⟩
    · exact .inl ⟨by simp; omega, h⟩
  · rcases Nat.eq_zero_or_pos l.length with h | h
    · exact .inl h
    · obtain ⟨a, rfl, _⟩ := hs.elem 0 h
      exact .inr ⟨a, rfl⟩
end Go.Proofs.Ytfgpchffkpomoaa
