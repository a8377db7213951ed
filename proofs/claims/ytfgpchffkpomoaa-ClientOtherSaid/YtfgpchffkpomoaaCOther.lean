/- A proof of one key, or of other records, tells nothing untrue of a key: the walk. -/
import Derived.Test.YtfgpchffkpomoaaLight4
import Derived.Test.YtfgpchffkpomoaaCLight
import Derived.Test.YtfgpchffkpomoaaPast
namespace Go.Proofs.Ytfgpchffkpomoaa
set_option linter.unusedSimpArgs false
set_option linter.unusedVariables false
open Go.RowKit

set_option maxHeartbeats 16000000 in
set_option maxRecDepth 100000 in
theorem clientOther_few (fl : Int) (A : Option Addr) (c : Nat) (L : List Rc) (B : Option Addr) (d : Nat) (M : List Rc) (sq certs spoil : Int) (key asked : ByteArray) (W : World) (hs : RcS W A c L) (hs2 : RcS W B d M) (hl : L.length ≤ 60) (hl2 : M.length ≤ 60) (hsq : -9223372036854775808 ≤ sq ∧ sq ≤ 9223372036854775807) (hce : -9223372036854775808 ≤ certs ∧ certs ≤ 9223372036854775807) :
    Calls Try.prog 32 #[.int .i64 fl, .agg #[.slice A L.length c, .int .i64 sq, .int .i64 certs, .int .i64 spoil], .slice B M.length d, .string key, .string asked] W fun e w' => e = .returned (.bool true) ∧ Below W.heap.size W w' := by
  have hd6 : decide ((60 : Int) < (L.length : Int)) = false := by simp; omega
  have hd7 : decide ((60 : Int) < (M.length : Int)) = false := by simp; omega
  have HN := Lib.hid (fun w => newBook_calls w)
  unfold NewPost at HN
  have HCF := Lib.hid (fun w => config_calls fl w)
  have hF := faultsN_le fl
  obtain ⟨F, hFF⟩ : ∃ F, F = faultsN fl := ⟨_, rfl⟩
  rw [← hFF] at HCF hF
  have HAW := Lib.hid (fun w => awake12_calls w)
  have HSL := Lib.hid hs
  have HSM := Lib.hid hs2
  have HCE := Lib.hid hce
  have hA0 := (Below.refl W.heap.size W).alloc (Nat.le_refl _) (.cells #[.slice A L.length c, .int .i64 sq, .int .i64 certs, .int .i64 spoil] 157)
  obtain ⟨W0, hW0⟩ : ∃ W0, W0 = W.alloc (.cells #[.slice A L.length c, .int .i64 sq, .int .i64 certs, .int .i64 spoil] 157) := ⟨_, rfl⟩
  have HB0 := Lib.hid (show Below W.heap.size W W0 by rw [hW0]; exact hA0)
  have HX0 := Lib.hid (show Box W0 W.heap.size #[.slice A L.length c, .int .i64 sq, .int .i64 certs, .int .i64 spoil] 157 by rw [hW0]; exact Box.new W _ _)
  have HWW := Lib.hid hW0
  have hz0 := HB0.out.size
  have hW0z : W.heap.size < W0.heap.size := HX0.out.lt
  clear hs hs2 hce hA0 hW0 hFF
  go_enter Try.func32, Try.ntmps32
  go_wp2_with fail
  rw [← HWW.out]
  refine (HN.out _).mono ?_
  rintro e w1 ⟨b, t, m, n, rfl, hb1, hk1, hb, ht, hm, hn'⟩
  have HB1 := Lib.hid (HB0.out.trans (hb1.mono hz0))
  have hz1 := HB1.out.size
  have HK1 := Lib.hid hk1
  have HX1 := Lib.hid (HX0.out.call hb1)
  clear hb1 hk1
  go_wp2_with fail
  refine (HCF.out _).mono ?_
  rintro e w2 ⟨rfl, hb2⟩
  have hal := (Below.refl w2.heap.size w2).alloc (Nat.le_refl _) (.cells #[.int .i64 (F : Int), .int .i64 3, .int .i64 2, .int .i64 5] 104)
  have hz12 := hb2.size
  obtain ⟨W2, hW2⟩ : ∃ W2, W2 = w2.alloc (.cells #[.int .i64 (F : Int), .int .i64 3, .int .i64 2, .int .i64 5] 104) := ⟨_, rfl⟩
  have HB2 := Lib.hid (show Below W.heap.size W W2 by rw [hW2]; exact (HB1.out.trans (hb2.mono hz1)).trans (hal.mono (by omega)))
  have HK2 := Lib.hid (show Bk W2 b t m n [] [] by rw [hW2]; exact (HK1.out.below hb2).below hal)
  have HX2 := Lib.hid (show Box W2 W.heap.size #[.slice A L.length c, .int .i64 sq, .int .i64 certs, .int .i64 spoil] 157 by rw [hW2]; exact (HX1.out.call hb2).alloc _)
  have HG2 := Lib.hid (show Box W2 w2.heap.size #[.int .i64 (F : Int), .int .i64 3, .int .i64 2, .int .i64 5] 104 by rw [hW2]; exact Box.new w2 _ _)
  have hz2 := HB2.out.size
  have hm2 := (HK1.out.below hb2).tm.lt
  have hn2 := (HK1.out.below hb2).wm.lt
  have hWw2 : W.heap.size < w2.heap.size := by omega
  have HW2 := Lib.hid hW2
  have HSH := Lib.hid (shown12_calls b t m n F A c L sq certs spoil key W2 hF HK2.out (HSL.out.below HB2.out) hl (off_nw HSL.out (by omega)) hsq HCE.out)
  have HKM := Lib.hid (show m < w2.heap.size ∧ n < w2.heap.size from by have := (HK1.out.below hb2).tm.lt; have := (HK1.out.below hb2).wm.lt; omega)
  have HMN := Lib.hid (show W.heap.size ≤ m ∧ W.heap.size ≤ n from ⟨by omega, by omega⟩)
  have HOM := Lib.hid (off_nw (m := m) HSL.out (by omega))
  have HON := Lib.hid (off_nw (m := m) HSM.out (by omega))
  obtain ⟨x0, x1, x2, x3, -⟩ := Box.facts4 HX2.out
  obtain ⟨k0, k1, k2, k3, -⟩ := Box.facts4 HG2.out
  rw [hW2] at x0 x1 x2 x3 k0 k1 k2 k3
  clear hb2 hal hW2
  go_wp2_with fail
  rw [← HW2.out] at *
  refine HSH.out.mono ?_
  rintro e w4 ⟨T, S, out, good, ok, rfl, hsh, hT, hS, ch4, hk4⟩
  have HSHN := Lib.hid hsh.out
  have HC4 := Lib.hid ((Ch.of_below (S := fun _ => False) HB2.out).step ch4 HB2.out.size (fun i hi e => by have := HMN.out; omega))
  have HK4 := Lib.hid hk4
  have HX4 := Lib.hid (Box.ch HX2.out ch4 HX2.out.lt (by have := HMN.out; have := HX2.out.lt; omega))
  have HG4 := Lib.hid (Box.ch HG2.out ch4 HG2.out.lt (by have := HKM.out; omega))
  have hz4 := HC4.out.size
  have hw24 : w2.heap.size < w4.heap.size := HG4.out.lt
  have HRS4 := Lib.hid (HSL.out.below (HC4.out.below (fun _ _ e => e)))
  have HRM4 := Lib.hid (HSM.out.below (HC4.out.below (fun _ _ e => e)))
  clear hsh ch4 hk4 x0 x1 x2 x3 k0 k1 k2 k3 HSH
  obtain ⟨x0, x1, x2, x3, -⟩ := Box.facts4 HX4.out
  obtain ⟨k0, k1, k2, k3, -⟩ := Box.facts4 HG4.out
  cases ok with
  | false =>
    go_wp2_with fail
    refine (HAW.out _).mono ?_
    rintro e w5 ⟨rfl, hb5⟩
    go_wp2
    go_ret
    exact ⟨rfl, (HC4.out.step (Ch.of_below (S := fun _ => False) hb5) hz4 (fun _ _ e => e)).below (fun _ _ e => e)⟩
  | true =>
    obtain ⟨g, rfl, hg3, hsn⟩ := HSHN.out rfl
    obtain ⟨sg, tt, l, hpt⟩ := hsn.part
    have HSN := Lib.hid hsn
    have HPT := Lib.hid hpt
    have hos := hpt.size
    clear hsn hpt HSHN
    have HV1 := Lib.hid (verify_told F 3 2 5 b t m n T T S L asked out sg _ (L.length : Nat) (proofP (hh T) L key) w4 HK4.out (by omega) (by omega) hos (by unfold fitsC; simp; omega) hF.2 HPT.out.reads HPT.out.ok.opens rfl HPT.out.proof (Ext.refl T) HSN.out.root HSN.out.rise rfl)
    have HAT := Lib.hid (fun w hs => at_calls A c L asked w hs (by omega))
    go_wp2_with fail
    refine HV1.out.mono ?_
    rintro e w5 ⟨xx, v, has, cd, T5, rfl, htr, e5, l5, ch5, hk5⟩
    obtain ⟨W5, hW5⟩ : ∃ W5, W5 = w5.alloc (.cells #[.int .i64 xx, .string v, .bool has] 149) := ⟨_, rfl⟩
    have hz45 := ch5.size
    have HC5 := Lib.hid (show Ch W.heap.size (fun _ => False) W W5 by rw [hW5]; exact (HC4.out.step ch5 hz4 (fun i hi e => by have := HMN.out; omega)).alloc (by omega) _)
    have hz5 := HC5.out.size
    have HX5 := Lib.hid (show Box W5 W.heap.size #[.slice A L.length c, .int .i64 sq, .int .i64 certs, .int .i64 spoil] 157 by rw [hW5]; exact (Box.ch HX4.out ch5 HX4.out.lt (by have := HMN.out; omega)).alloc _)
    have HG5 := Lib.hid (show Box W5 w2.heap.size #[.int .i64 (F : Int), .int .i64 3, .int .i64 2, .int .i64 5] 104 by rw [hW5]; exact (Box.ch HG4.out ch5 HG4.out.lt (by have := HKM.out; omega)).alloc _)
    have HL5 := Lib.hid (show Box W5 w5.heap.size #[.int .i64 xx, .string v, .bool has] 149 by rw [hW5]; exact Box.new w5 _ _)
    have HK5 := Lib.hid (show Bk W5 b t m n T5 S by rw [hW5]; exact hk5.alloc _)
    have HRS5 := Lib.hid (HSL.out.below (HC5.out.below (fun _ _ e => e)))
    have HRM5 := Lib.hid (HSM.out.below (HC5.out.below (fun _ _ e => e)))
    have HATT := Lib.hid (HAT.out W5 HRS5.out)
    have HTR := Lib.hid htr.out
    have HE5 := Lib.hid e5
    have hWW5 := Lib.hid hW5
    have hw25 : w2.heap.size < w5.heap.size := by omega
    clear ch5 hk5 e5 htr x0 x1 x2 x3 k0 k1 k2 k3
    obtain ⟨x0, x1, x2, x3, -⟩ := Box.facts4 HX5.out
    obtain ⟨l0, l1, l2, -⟩ := Box.facts3 HL5.out
    rw [hW5] at x0 x1 x2 x3 l0 l1 l2
    clear hW5
    go_wp2_with fail
    rw [← hWW5.out] at *
    refine HATT.out.mono ?_
    rintro e wx ⟨r, rfl, hw, hrr⟩
    subst hw
    have HRR := Lib.hid hrr.out
    clear hrr
    go_wp2_with fail
    go_cut [88] (fun s88 wq => ∃ nq, s88 = .bool false ∧ wq = wx.drewN nq)
    case first =>
      by_cases hcd : cd = 0
      · subst hcd
        obtain ⟨ht1, ht2⟩ := truth_split (HTR.out rfl)
        rcases HRR.out with ⟨rfl, hn0⟩ | ⟨i, xr, rfl, hxr, hn0⟩
        · obtain ⟨rfl, rfl⟩ := ht1 hn0
          clear ht1 ht2 hn0
          go_quiet (fail)
          go_wp2_with fail
          go_meet
          exact ⟨_, rfl, rfl⟩
        · obtain ⟨rfl, rfl⟩ := ht2 xr hn0
          have hi := (List.getElem?_eq_some_iff.1 hxr).1
          obtain ⟨a2, ha2, e0, e1⟩ := HRS5.out.elem i hi
          obtain rfl := ha2
          have hxe := (List.getElem?_eq_some_iff.1 hxr).2
          rw [hxe] at e0 e1
          have hge : decide ((0 : Int) ≤ (i : Int)) = true := by simp
          have hi0 : (0 : Int) ≤ (i : Int) := by omega
          have hi1 : (i : Int) < (L.length : Int) := by omega
          obtain ⟨xk, xv⟩ := xr
          simp only at e0 e1 l0 l1 l2
          clear ht1 ht2 hn0 hxr hxe
          go_quiet (fail)
          go_wp2_with fail
          go_meet
          exact ⟨_, rfl, rfl⟩
      · have hne : (cd == 0) = false := by rw [beq_eq_false_iff_ne]; exact hcd
        clear hcd
        go_quiet (fail)
        go_wp2_with fail
        go_meet
        exact ⟨_, rfl, rfl⟩
    case rest =>
      obtain ⟨nq, rfl, rfl⟩ := hcut
      have HPV := Lib.hid (mProve_calls b t m n T5 S B d M asked (wx.drewN nq) (HK5.out.drewN nq) (by omega) (HRM5.out.drewN nq) HON.out)
      have HXq := Lib.hid (HX5.out.drewN nq)
      have HGq := Lib.hid (HG5.out.drewN nq)
      have HLq := Lib.hid (HL5.out.drewN nq)
      have HCq := Lib.hid (HC5.out.drewN nq)
      have hzq := HCq.out.size
      have hlq := HLq.out.lt
      obtain ⟨Wq, hWq⟩ : ∃ Wq, Wq = wx.drewN nq := ⟨_, rfl⟩
      rw [← hWq] at HPV HXq HGq HLq HCq hzq hlq ⊢
      clear hWq x0 x1 x2 x3 l0 l1 l2
      go_wp2_with fail
      refine HPV.out.mono ?_
      rintro e w6 ⟨T6, A6, c6, ps, cnt, cd6, rfl, hpv, e6, l6, ch6, hk6, p6, r6⟩
      have hal := (Below.refl w6.heap.size w6).alloc (Nat.le_refl _) (.cells #[.int .i64 cnt, .slice A6 ps.length c6] 35)
      obtain ⟨W6, hW6⟩ : ∃ W6, W6 = w6.alloc (.cells #[.int .i64 cnt, .slice A6 ps.length c6] 35) := ⟨_, rfl⟩
      rw [← hW6] at hal
      have hz56 := ch6.size
      have HC6 := Lib.hid (show Ch W.heap.size (fun _ => False) W W6 by rw [hW6]; exact (HCq.out.step ch6 hzq (fun i hi e => by have := HMN.out; omega)).alloc (by omega) _)
      have hz6 := HC6.out.size
      have HX6 := Lib.hid ((Box.ch HXq.out ch6 HXq.out.lt (by have := HMN.out; omega)).call hal)
      have HG6 := Lib.hid ((Box.ch HGq.out ch6 HGq.out.lt (by have := HKM.out; omega)).call hal)
      have HL6 := Lib.hid ((Box.ch HLq.out ch6 HLq.out.lt (by have := HKM.out; omega)).call hal)
      have HP6 := Lib.hid (show Box W6 w6.heap.size #[.int .i64 cnt, .slice A6 ps.length c6] 35 by rw [hW6]; exact Box.new w6 _ _)
      have HK6 := Lib.hid (hk6.below hal)
      have HPM := Lib.hid (p6.below hal)
      have HPVV := Lib.hid hpv.out
      have HE6 := Lib.hid (HE5.out.trans e6)
      have hl6 : T6.length ≤ 60000 := by omega
      have hw56 : w5.heap.size < w6.heap.size := by omega
      have hw6l := HP6.out.lt
      have HOS := Lib.hid (fun w => rofSg_calls out w hos)
      unfold OfSgPost at HOS
      rw [HPT.out.reads] at HOS
      simp only at HOS
      have hWW6 := Lib.hid hW6
      clear hal ch6 hk6 p6 r6 hpv e6 hW6
      go_wp2_with fail
      rw [← hWW6.out] at *
      refine (HOS.out _).mono ?_
      rintro e w7 ⟨rfl, hb7⟩
      have hfm := (fitsB_iff _).1 HPT.out.ok.fits
      have hob := of_open HPT.out.ok.opens
      have HOB := Lib.hid (fun w => rOf_calls sg.body w (by simp only [maxLen]; omega))
      unfold OfPost at HOB
      rw [hob] at HOB
      obtain ⟨who1, body1, sig1⟩ := sg
      unfold Sg.val showB Bd.val Bd.cells at *
      simp only at *
      obtain ⟨W7, hW7⟩ : ∃ W7, W7 = w7.alloc (.cells #[.int .i64 who1, .string body1, .string sig1] 61) := ⟨_, rfl⟩
      have hz67 := hb7.size
      have HC7 := Lib.hid (show Ch W.heap.size (fun _ => False) W W7 by rw [hW7]; exact (HC6.out.step (Ch.of_below (S := fun _ => False) hb7) hz6 (fun _ _ e => e)).alloc (by omega) _)
      have hz7 := HC7.out.size
      have hal7 := (Below.refl w7.heap.size w7).alloc (Nat.le_refl _) (.cells #[.int .i64 who1, .string body1, .string sig1] 61)
      rw [← hW7] at hal7
      have HX7 := Lib.hid ((HX6.out.call hb7).call hal7)
      have HG7 := Lib.hid ((HG6.out.call hb7).call hal7)
      have HL7 := Lib.hid ((HL6.out.call hb7).call hal7)
      have HP7 := Lib.hid ((HP6.out.call hb7).call hal7)
      have HK7 := Lib.hid ((HK6.out.below hb7).below hal7)
      have HPM7 := Lib.hid ((HPM.out.below hb7).below hal7)
      have HM7 := Lib.hid (show Box W7 w7.heap.size #[.int .i64 who1, .string body1, .string sig1] 61 by rw [hW7]; exact Box.new w7 _ _)
      have hw7l := HM7.out.lt
      have hWW7 := Lib.hid hW7
      clear hb7 hal7
      obtain ⟨m0, m1, m2, -⟩ := Box.facts3 HM7.out
      rw [hW7] at m0 m1 m2
      clear hW7
      go_wp2_with fail
      rw [← hWW7.out] at *
      refine (HOB.out _).mono ?_
      rintro e w8 ⟨A8, c8, rfl, hb8, ho8⟩
      have hz78 := hb8.size
      have hSl8 := Sl.of_own ho8
      obtain ⟨seq, hseq⟩ : ∃ q : Int, q = 4 * (1 + (rnd sq 100 : Nat)) := ⟨_, rfl⟩
      rw [← hseq] at *
      generalize hroot : rootP (hh T) L = root at *
      have HROOT := Lib.hid hroot.symm
      clear hseq hroot
      obtain ⟨W8, hW8⟩ : ∃ W8, W8 = w8.alloc (.cells #[.int .i64 13, .int .i64 0, .int .i64 seq, .int .i64 0, .int .i64 0, .string root, .string tt, .slice A8 l.length c8] 59) := ⟨_, rfl⟩
      have hal8 := (Below.refl w8.heap.size w8).alloc (Nat.le_refl _) (.cells #[.int .i64 13, .int .i64 0, .int .i64 seq, .int .i64 0, .int .i64 0, .string root, .string tt, .slice A8 l.length c8] 59)
      rw [← hW8] at hal8
      have HC8 := Lib.hid (show Ch W.heap.size (fun _ => False) W W8 by rw [hW8]; exact (HC7.out.step (Ch.of_below (S := fun _ => False) hb8) hz7 (fun _ _ e => e)).alloc (by omega) _)
      have hz8 := HC8.out.size
      have HX8 := Lib.hid ((HX7.out.call hb8).call hal8)
      have HG8 := Lib.hid ((HG7.out.call hb8).call hal8)
      have HL8 := Lib.hid ((HL7.out.call hb8).call hal8)
      have HP8 := Lib.hid ((HP7.out.call hb8).call hal8)
      have HK8 := Lib.hid ((HK7.out.below hb8).below hal8)
      have HPM8 := Lib.hid ((HPM7.out.below hb8).below hal8)
      have HY8 := Lib.hid (show Box W8 w8.heap.size #[.int .i64 13, .int .i64 0, .int .i64 seq, .int .i64 0, .int .i64 0, .string root, .string tt, .slice A8 l.length c8] 59 by rw [hW8]; exact Box.new w8 _ _)
      have HS8 := Lib.hid (show SgS w8 A8 c8 l from hSl8)
      have HB88 := Lib.hid hal8
      have hw8l := HY8.out.lt
      have hWW8 := Lib.hid hW8
      clear hb8 hal8 ho8 hSl8 m0 m1 m2
      obtain ⟨p0, p1, -⟩ := HP8.out.facts2
      obtain ⟨y0, y1, y2, y3, y4, y5, y6, y7, z0, z1, z2, z3, z4, z5, z6, z7⟩ := HY8.out.facts8
      rw [hW8] at p0 p1 y0 y1 y2 y3 y4 y5 y6 y7 z6
      clear z0 z1 z2 z3 z4 z5 z7
      by_cases hcd6 : cd6 = 0
      rotate_left
      · have hne : (cd6 != 0) = true := bne_iff_ne.2 hcd6
        have hne2 : (cd6 == 0) = false := by rw [beq_eq_false_iff_ne]; exact hcd6
        clear hcd6 hW8
        go_wp2_with fail
        rw [← hWW8.out] at *
        refine (HAW.out _).mono ?_
        rintro e wb ⟨rfl, hbb⟩
        go_wp2
        go_ret
        exact ⟨rfl, (HC8.out.step (Ch.of_below (S := fun _ => False) hbb) hz8 (fun _ _ e => e)).below (fun _ _ e => e)⟩
      · subst hcd6
        have hMr : riseE M = 0 := by
          by_cases h : riseE M = 0
          · exact h
          · exact absurd (HPVV.out.2.2 h).1.symm h
        have hMk : fitK asked = true := by
          by_cases h : fitK asked = true
          · exact h
          · exact absurd (HPVV.out.2.1 hMr (by simpa using h)).1 (by decide)
        obtain ⟨-, rfl, hps, -, -⟩ := HPVV.out.1 hMr hMk
        have hpk : pfOk ((M.length : Nat) : Int) (ps.map Pm.pt) = true := by rw [hps]; exact (verify_honest (T := T6) hMr hMk).1
        have hpe : proofE ((M.length : Nat) : Int) (ps.map Pm.pt) = (bs (putPf ((M.length : Nat) : Int) (ps.map Pm.pt)), 0) := by unfold proofE; rw [if_pos hpk]
        have HRP := Lib.hid (rproof_calls ((M.length : Nat) : Int) A6 c6 ps W8 HPM8.out)
        unfold StrErr at HRP
        have hbk := (proof_back hpe).1
        rw [hpe] at HRP
        obtain ⟨tt2, htt2⟩ : ∃ q, q = bs (putPf ((M.length : Nat) : Int) (ps.map Pm.pt)) := ⟨_, rfl⟩
        rw [← htt2] at HRP hbk
        simp only at HRP
        have HBK := Lib.hid hbk
        clear hMr hMk hps hpk hpe hbk htt2 hW8
        have hfit6 := HPM8.out.1.fits
        go_wp2_with fail
        rw [← hWW8.out] at *
        refine HRP.out.mono ?_
        rintro e w9 ⟨rfl, hb9⟩
        have hz89 := hb9.size
        obtain ⟨W9, hW9⟩ : ∃ W9, W9 = w9.setCell ⟨w8.heap.size, 6, none⟩ (.string tt2) := ⟨_, rfl⟩
        have hsz9 : W9.heap.size = w9.heap.size := by rw [hW9]; simp
        have HC9 := Lib.hid (show Ch W.heap.size (fun _ => False) W W9 by rw [hW9]; exact (HC8.out.step (Ch.of_below (S := fun _ => False) hb9) hz8 (fun _ _ e => e)).setCell (p := ⟨w8.heap.size, 6, none⟩) (.inl (by simp only; omega)) _)
        have hz9 := HC9.out.size
        have HX9 := Lib.hid (show Box W9 W.heap.size #[.slice A L.length c, .int .i64 sq, .int .i64 certs, .int .i64 spoil] 157 by rw [hW9]; exact (HX8.out.call hb9).other (a := ⟨w8.heap.size, 6, none⟩) (by simp only; omega) _)
        have HG9 := Lib.hid (show Box W9 w2.heap.size #[.int .i64 (F : Int), .int .i64 3, .int .i64 2, .int .i64 5] 104 by rw [hW9]; exact (HG8.out.call hb9).other (a := ⟨w8.heap.size, 6, none⟩) (by simp only; omega) _)
        have HL9 := Lib.hid (show Box W9 w5.heap.size #[.int .i64 xx, .string v, .bool has] 149 by rw [hW9]; exact (HL8.out.call hb9).other (a := ⟨w8.heap.size, 6, none⟩) (by simp only; omega) _)
        have HY9 := Lib.hid (show Box W9 w8.heap.size #[.int .i64 13, .int .i64 0, .int .i64 seq, .int .i64 0, .int .i64 0, .string root, .string tt2, .slice A8 l.length c8] 59 by rw [hW9]; exact (HY8.out.call hb9).set 6 (.string tt2))
        have HK9 := Lib.hid (show Bk W9 b t m n T6 S by rw [hW9]; exact (HK8.out.below hb9).setCell (p := ⟨w8.heap.size, 6, none⟩) (by have := HK8.out.all_lt; have := HKM.out; have := HK7.out.all_lt; simp only; omega) _)
        have HS9 := Lib.hid (HS8.out.below (show Below w8.heap.size w8 W9 by rw [hW9]; exact (HB88.out.trans (hb9.mono (by omega))).setCell (Nat.le_refl _) _))
        obtain ⟨u0, u1, u2, u3, u4, u5, u6, u7, -, -, -, -, -, -, zz6, -⟩ := (HY8.out.call hb9).facts8
        have hseal := seal_calls b t m n T6 S 1 (showB seq root tt2 l) A8 c8 W9 HK9.out (by omega) HS9.out
        obtain ⟨⟨⟨sg2, e2⟩, S2⟩, hse⟩ : ∃ r, sealE S 1 (showB seq root tt2 l) = r := ⟨_, rfl⟩
        rw [hse] at hseal
        have HSD := Lib.hid (fun (h : e2 = 0) => sealed_said (S := S) (S' := S2) (who := 1) (b := showB seq root tt2 l) (sg := sg2) (by decide) (by rw [hse, h]))
        obtain ⟨who2, body2, sig2⟩ := sg2
        unfold SealPost Sg.val showB Bd.val Bd.cells at hseal
        simp only at hseal
        have HSE := Lib.hid hseal
        have hWW9 := Lib.hid hW9
        clear hseal hse hb9 p0 p1 y0 y1 y2 y3 y4 y5 y6 y7 z6
        clear hW9
        go_wp2_with fail
        rw [← hWW9.out] at *
        refine HSE.out.mono ?_
        rintro e w10 ⟨rfl, hc10, hk10⟩
        have hz910 := hc10.size
        obtain ⟨W10, hW10⟩ : ∃ W10, W10 = w10.alloc (.cells #[.int .i64 who2, .string body2, .string sig2] 61) := ⟨_, rfl⟩
        have hal10 := (Below.refl w10.heap.size w10).alloc (Nat.le_refl _) (.cells #[.int .i64 who2, .string body2, .string sig2] 61)
        rw [← hW10] at hal10
        have HC10 := Lib.hid (show Ch W.heap.size (fun _ => False) W W10 by rw [hW10]; exact (HC9.out.step hc10 hz9 (fun i hi e => by have := HMN.out; omega)).alloc (by omega) _)
        have hz10 := HC10.out.size
        have HX10 := Lib.hid ((Box.ch HX9.out hc10 HX9.out.lt (by have := HMN.out; omega)).call hal10)
        have HG10 := Lib.hid ((Box.ch HG9.out hc10 HG9.out.lt (by have := HKM.out; omega)).call hal10)
        have HL10 := Lib.hid ((Box.ch HL9.out hc10 HL9.out.lt (by have := HKM.out; omega)).call hal10)
        have HK10 := Lib.hid (hk10.below hal10)
        have HM10 := Lib.hid (show Box W10 w10.heap.size #[.int .i64 who2, .string body2, .string sig2] 61 by rw [hW10]; exact Box.new w10 _ _)
        have hw10l := HM10.out.lt
        have hWW10 := Lib.hid hW10
        have hw810 : w8.heap.size < w10.heap.size := by omega
        clear hc10 hk10 hal10 u0 u1 u2 u3 u4 u5 u6 u7 zz6
        by_cases he2 : e2 = 0
        rotate_left
        · have hne : (e2 != 0) = true := bne_iff_ne.2 he2
          clear he2 hW10
          go_wp2_with fail
          rw [← hWW10.out] at *
          refine (HAW.out _).mono ?_
          rintro e wb ⟨rfl, hbb⟩
          go_wp2
          go_ret
          exact ⟨rfl, (HC10.out.step (Ch.of_below (S := fun _ => False) hbb) hz10 (fun _ _ e => e)).below (fun _ _ e => e)⟩
        · subst he2
          obtain ⟨hsd, hS2⟩ := HSD.out rfl
          have hfb := (fitsB_iff _).1 hsd.fits
          have hpl := putSg_len hsd.fits
          have HO := Lib.hid (fun w => rOne_calls ⟨who2, body2, sig2⟩ w hfb.1 (by omega) (by omega) (by omega))
          unfold StrPost Sg.val at HO
          simp only at HO hfb hpl
          obtain ⟨out2, hout⟩ : ∃ o, o = bs (putSg ⟨who2, body2, sig2⟩) := ⟨_, rfl⟩
          have hos2 : out2.size ≤ maxLen := by rw [hout, bs_size]; simp only [maxLen]; omega
          have hrd := hsd.reads
          rw [← hout] at HO hrd
          have HVT := Lib.hid (fun w hb => verify_told F 3 2 5 b t m n T T6 S2 L asked out2 _ _ ((M.length : Nat) : Int) (ps.map Pm.pt) w hb (by omega) (by omega) hos2 (by unfold fitsC; simp; omega) hF.2 hrd hsd.opens rfl HBK.out HE6.out HSN.out.root HSN.out.rise HROOT.out)
          unfold ToldPost at HVT
          clear hsd hfb hpl hout hrd hW10
          go_wp2_with fail
          rw [← hWW10.out] at *
          have hKD := HK10.out.drew
          have hGD := HG10.out.drew
          have hMD := HM10.out.drew
          have hLD := HL10.out.drew
          have hXD := HX10.out.drew
          have hn3 : w2.heap.size ≠ w5.heap.size := by omega
          have hn6 : w10.heap.size ≠ w5.heap.size := by omega
          have hn0 : W.heap.size ≠ w5.heap.size := by omega
          obtain ⟨d0, d1, d2, d3, -⟩ := Box.facts4 hGD
          obtain ⟨m0, m1, m2, -⟩ := Box.facts3 hMD
          go_region_held3 (fun w' => w'.cell? ⟨w2.heap.size, 0, none⟩ = some (.int .i64 (F : Int)) ∧ w'.cell? ⟨w2.heap.size, 1, none⟩ = some (.int .i64 3) ∧ w'.cell? ⟨w2.heap.size, 2, none⟩ = some (.int .i64 2) ∧ w'.cell? ⟨w2.heap.size, 3, none⟩ = some (.int .i64 5) ∧ w'.cell? ⟨w10.heap.size, 0, none⟩ = some (.int .i64 who2) ∧ w'.cell? ⟨w10.heap.size, 1, none⟩ = some (.string body2) ∧ w'.cell? ⟨w10.heap.size, 2, none⟩ = some (.string sig2)) (with_reducible first | exact ⟨d0, d1, d2, d3, m0, m1, m2⟩ | exact ⟨p0, p1, p2, p3, q0, q1, q2⟩ | exact ⟨r0, r1, r2, r3, s0, s1, s2⟩ | exact ⟨keep3 r0 hn3, keep3 r1 hn3, keep3 r2 hn3, keep3 r3 hn3, keep3 s0 hn6, keep3 s1 hn6, keep3 s2 hn6⟩) (first | (go_at_call 77; refine (HO.out _).mono ?_; rintro e w11 ⟨rfl, hb11⟩; have HK11 := Lib.hid (hKD.below hb11); have HG11 := Lib.hid (hGD.call hb11); have HM11 := Lib.hid (hMD.call hb11); have HL11 := Lib.hid (hLD.call hb11); have HX11 := Lib.hid (hXD.call hb11); have HC11 := Lib.hid (HC10.out.drew.step (Ch.of_below (S := fun _ => False) hb11) (by simpa using hz10) (fun _ _ e => e)); have hz11 := HC11.out.size; obtain ⟨p0, p1, p2, p3, -⟩ := Box.facts4 HG11.out; obtain ⟨q0, q1, q2, -⟩ := Box.facts3 HM11.out; clear hb11) | (go_at_call 87; refine (HVT.out _ HK11.out).mono ?_; rintro e w12 ⟨xx2, v2, has2, cd2, T12, rfl, htr2, e12, l12, ch12, hk12⟩; have HG12 := Lib.hid (Box.ch HG11.out ch12 HG11.out.lt (by have := HKM.out; omega)); have HM12 := Lib.hid (Box.ch HM11.out ch12 HM11.out.lt (by have := HKM.out; omega)); have HL12 := Lib.hid (Box.ch HL11.out ch12 HL11.out.lt (by have := HKM.out; omega)); have HX12 := Lib.hid (Box.ch HX11.out ch12 HX11.out.lt (by have := HMN.out; omega)); have HC12 := Lib.hid (HC11.out.step ch12 hz11 (fun i hi e => by have := HMN.out; omega)); have hz12 := HC12.out.size; have HTR2 := Lib.hid htr2.out; obtain ⟨r0, r1, r2, r3, -⟩ := Box.facts4 HG12.out; obtain ⟨s0, s1, s2, -⟩ := Box.facts3 HM12.out; obtain ⟨l0, l1, l2, g0, g1, g2⟩ := Box.facts3 HL12.out; clear ch12 hk12 e12 htr2))
          all_goals
            obtain ⟨WN, hWN⟩ : ∃ WN, WN = ((w12.setCell ⟨w5.heap.size, 0, none⟩ (.int .i64 xx2)).setCell ⟨w5.heap.size, 1, none⟩ (.string v2)).setCell ⟨w5.heap.size, 2, none⟩ (.bool has2) := ⟨_, rfl⟩
            have HCN := Lib.hid (show Ch W.heap.size (fun _ => False) W WN by rw [hWN]; exact ((HC12.out.setCell (p := ⟨w5.heap.size, 0, none⟩) (.inl (by simp only; omega)) _).setCell (p := ⟨w5.heap.size, 1, none⟩) (.inl (by simp only; omega)) _).setCell (p := ⟨w5.heap.size, 2, none⟩) (.inl (by simp only; omega)) _)
            have hLN : Box WN w5.heap.size #[.int .i64 xx2, .string v2, .bool has2] 149 := by rw [hWN]; exact ((HL12.out.set 0 _).set 1 _).set 2 _
            have hXN : Box WN W.heap.size #[.slice A L.length c, .int .i64 sq, .int .i64 certs, .int .i64 spoil] 157 := by rw [hWN]; exact ((HX12.out.other (a := ⟨w5.heap.size, 0, none⟩) (by simp only; omega) _).other (a := ⟨w5.heap.size, 1, none⟩) (by simp only; omega) _).other (a := ⟨w5.heap.size, 2, none⟩) (by simp only; omega) _
            have hzN := HCN.out.size
            have HRSN := Lib.hid (HSL.out.below (HCN.out.below (fun _ _ e => e)))
            rw [← hWN]
            clear hWN r0 r1 r2 r3 s0 s1 s2 l0 l1 l2 g0 g1 g2 p0 p1 p2 p3 q0 q1 q2 d0 d1 d2 d3 m0 m1 m2
            go_wp2_with fail
            obtain ⟨p0, p1, p2, -⟩ := Box.facts3 hLN.drew
            obtain ⟨y0, -⟩ := Box.facts4 hXN.drew
            by_cases hcd2 : cd2 = 0
            rotate_left
            · have hne : (cd2 != 0) = true := bne_iff_ne.2 hcd2
              clear hcd2
              refine AnyP.start [] (fun _ => True) (by kernel_rfl) trivial (n := 28) (listed := #[false, false, false, false, false, false, false, false, false, false, false, false, false, false, false, false, false, false, false, false, false, false, false, false, false, false, false, false]) (by kernel_rfl) (by kernel_rfl) (fun hHeld => ?_)
              refine AnyP.take (i := 0) (fuel := 27) (d := some 142) (listed' := #[true, false, false, false, false, false, false, false, false, false, false, false, false, false, false, false, false, false, false, false, false, false, false, false, false, false, false, false]) (oi := _) (v := ?v0e) rfl (by kernel_rfl) (by kernel_rfl) (by kernel_rfl) (fun _ _ _ h => h) (Or.inl ⟨by rfl, ?hy0e⟩) (by rfl) (by rfl) ?rest0e
              case hy0e => intro w; go_simp; try with_reducible rfl
              try simp only [Act.put, List.setIfInBounds_toArray, List.set_cons_zero, List.set_cons_succ]
              refine AnyP.take (i := 1) (fuel := 26) (d := some 143) (listed' := #[true, true, false, false, false, false, false, false, false, false, false, false, false, false, false, false, false, false, false, false, false, false, false, false, false, false, false, false]) (oi := _) (v := ?v1e) rfl (by kernel_rfl) (by kernel_rfl) (by kernel_rfl) (fun _ _ _ h => h) (Or.inl ⟨by rfl, ?hy1e⟩) (by rfl) (by rfl) ?rest1e
              case hy1e => intro w; go_simp; try with_reducible rfl
              try simp only [Act.put, List.setIfInBounds_toArray, List.set_cons_zero, List.set_cons_succ]
              refine AnyP.take (i := 2) (fuel := 25) (d := some 144) (listed' := #[true, true, true, false, false, false, false, false, false, false, false, false, false, false, false, false, false, false, false, false, false, false, false, false, false, false, false, false]) (oi := _) (v := ?v2e) rfl (by kernel_rfl) (by kernel_rfl) (by kernel_rfl) (fun _ _ _ h => h) (Or.inl ⟨by rfl, ?hy2e⟩) (by rfl) (by rfl) ?rest2e
              case hy2e => intro w; go_simp; try with_reducible rfl
              try simp only [Act.put, List.setIfInBounds_toArray, List.set_cons_zero, List.set_cons_succ]
              refine AnyP.take (i := 3) (fuel := 24) (d := some 145) (listed' := #[true, true, true, true, false, false, false, false, false, false, false, false, false, false, false, false, false, false, false, false, false, false, false, false, false, false, false, false]) (oi := _) (v := undef) rfl (by kernel_rfl) (by kernel_rfl) (by kernel_rfl) (fun _ _ _ h => h) (Or.inr ⟨by rfl, rfl⟩) (by rfl) (by rfl) ?rest3e
              try simp only [Act.put, List.setIfInBounds_toArray, List.set_cons_zero, List.set_cons_succ]
              refine AnyP.take (i := 4) (fuel := 23) (d := some 146) (listed' := #[true, true, true, true, true, false, false, false, false, false, false, false, false, false, false, false, false, false, false, false, false, false, false, false, false, false, false, false]) (oi := _) (v := undef) rfl (by kernel_rfl) (by kernel_rfl) (by kernel_rfl) (fun _ _ _ h => h) (Or.inr ⟨by rfl, rfl⟩) (by rfl) (by rfl) ?rest4e
              try simp only [Act.put, List.setIfInBounds_toArray, List.set_cons_zero, List.set_cons_succ]
              refine AnyP.take (i := 5) (fuel := 22) (d := some 147) (listed' := #[true, true, true, true, true, true, false, false, false, false, false, false, false, false, false, false, false, false, false, false, false, false, false, false, false, false, false, false]) (oi := _) (v := undef) rfl (by kernel_rfl) (by kernel_rfl) (by kernel_rfl) (fun _ _ _ h => h) (Or.inr ⟨by rfl, rfl⟩) (by rfl) (by rfl) ?rest5e
              try simp only [Act.put, List.setIfInBounds_toArray, List.set_cons_zero, List.set_cons_succ]
              refine AnyP.take (i := 6) (fuel := 21) (d := some 148) (listed' := #[true, true, true, true, true, true, true, false, false, false, false, false, false, false, false, false, false, false, false, false, false, false, false, false, false, false, false, false]) (oi := _) (v := undef) rfl (by kernel_rfl) (by kernel_rfl) (by kernel_rfl) (fun _ _ _ h => h) (Or.inr ⟨by rfl, rfl⟩) (by rfl) (by rfl) ?rest6e
              try simp only [Act.put, List.setIfInBounds_toArray, List.set_cons_zero, List.set_cons_succ]
              refine AnyP.take (i := 7) (fuel := 20) (d := some 149) (listed' := #[true, true, true, true, true, true, true, true, false, false, false, false, false, false, false, false, false, false, false, false, false, false, false, false, false, false, false, false]) (oi := _) (v := undef) rfl (by kernel_rfl) (by kernel_rfl) (by kernel_rfl) (fun _ _ _ h => h) (Or.inr ⟨by rfl, rfl⟩) (by rfl) (by rfl) ?rest7e
              try simp only [Act.put, List.setIfInBounds_toArray, List.set_cons_zero, List.set_cons_succ]
              refine AnyP.take (i := 8) (fuel := 19) (d := some 150) (listed' := #[true, true, true, true, true, true, true, true, true, false, false, false, false, false, false, false, false, false, false, false, false, false, false, false, false, false, false, false]) (oi := _) (v := undef) rfl (by kernel_rfl) (by kernel_rfl) (by kernel_rfl) (fun _ _ _ h => h) (Or.inr ⟨by rfl, rfl⟩) (by rfl) (by rfl) ?rest8e
              try simp only [Act.put, List.setIfInBounds_toArray, List.set_cons_zero, List.set_cons_succ]
              refine AnyP.take (i := 9) (fuel := 18) (d := some 151) (listed' := #[true, true, true, true, true, true, true, true, true, true, false, false, false, false, false, false, false, false, false, false, false, false, false, false, false, false, false, false]) (oi := _) (v := undef) rfl (by kernel_rfl) (by kernel_rfl) (by kernel_rfl) (fun _ _ _ h => h) (Or.inr ⟨by rfl, rfl⟩) (by rfl) (by rfl) ?rest9e
              try simp only [Act.put, List.setIfInBounds_toArray, List.set_cons_zero, List.set_cons_succ]
              refine AnyP.take (i := 10) (fuel := 17) (d := some 152) (listed' := #[true, true, true, true, true, true, true, true, true, true, true, false, false, false, false, false, false, false, false, false, false, false, false, false, false, false, false, false]) (oi := _) (v := undef) rfl (by kernel_rfl) (by kernel_rfl) (by kernel_rfl) (fun _ _ _ h => h) (Or.inr ⟨by rfl, rfl⟩) (by rfl) (by rfl) ?rest10e
              try simp only [Act.put, List.setIfInBounds_toArray, List.set_cons_zero, List.set_cons_succ]
              refine AnyP.take (i := 11) (fuel := 16) (d := some 153) (listed' := #[true, true, true, true, true, true, true, true, true, true, true, true, false, false, false, false, false, false, false, false, false, false, false, false, false, false, false, false]) (oi := _) (v := undef) rfl (by kernel_rfl) (by kernel_rfl) (by kernel_rfl) (fun _ _ _ h => h) (Or.inr ⟨by rfl, rfl⟩) (by rfl) (by rfl) ?rest11e
              try simp only [Act.put, List.setIfInBounds_toArray, List.set_cons_zero, List.set_cons_succ]
              refine AnyP.take (i := 12) (fuel := 15) (d := some 154) (listed' := #[true, true, true, true, true, true, true, true, true, true, true, true, true, false, false, false, false, false, false, false, false, false, false, false, false, false, false, false]) (oi := _) (v := undef) rfl (by kernel_rfl) (by kernel_rfl) (by kernel_rfl) (fun _ _ _ h => h) (Or.inr ⟨by rfl, rfl⟩) (by rfl) (by rfl) ?rest12e
              try simp only [Act.put, List.setIfInBounds_toArray, List.set_cons_zero, List.set_cons_succ]
              refine AnyP.take (i := 13) (fuel := 14) (d := some 155) (listed' := #[true, true, true, true, true, true, true, true, true, true, true, true, true, true, false, false, false, false, false, false, false, false, false, false, false, false, false, false]) (oi := _) (v := undef) rfl (by kernel_rfl) (by kernel_rfl) (by kernel_rfl) (fun _ _ _ h => h) (Or.inr ⟨by rfl, rfl⟩) (by rfl) (by rfl) ?rest13e
              try simp only [Act.put, List.setIfInBounds_toArray, List.set_cons_zero, List.set_cons_succ]
              refine AnyP.take (i := 14) (fuel := 13) (d := some 156) (listed' := #[true, true, true, true, true, true, true, true, true, true, true, true, true, true, true, false, false, false, false, false, false, false, false, false, false, false, false, false]) (oi := _) (v := undef) rfl (by kernel_rfl) (by kernel_rfl) (by kernel_rfl) (fun _ _ _ h => h) (Or.inr ⟨by rfl, rfl⟩) (by rfl) (by rfl) ?rest14e
              try simp only [Act.put, List.setIfInBounds_toArray, List.set_cons_zero, List.set_cons_succ]
              refine AnyP.take (i := 15) (fuel := 12) (d := some 157) (listed' := #[true, true, true, true, true, true, true, true, true, true, true, true, true, true, true, true, false, false, false, false, false, false, false, false, false, false, false, false]) (oi := _) (v := undef) rfl (by kernel_rfl) (by kernel_rfl) (by kernel_rfl) (fun _ _ _ h => h) (Or.inr ⟨by rfl, rfl⟩) (by rfl) (by rfl) ?rest15e
              try simp only [Act.put, List.setIfInBounds_toArray, List.set_cons_zero, List.set_cons_succ]
              refine AnyP.take (i := 16) (fuel := 11) (d := some 158) (listed' := #[true, true, true, true, true, true, true, true, true, true, true, true, true, true, true, true, true, false, false, false, false, false, false, false, false, false, false, false]) (oi := _) (v := undef) rfl (by kernel_rfl) (by kernel_rfl) (by kernel_rfl) (fun _ _ _ h => h) (Or.inr ⟨by rfl, rfl⟩) (by rfl) (by rfl) ?rest16e
              try simp only [Act.put, List.setIfInBounds_toArray, List.set_cons_zero, List.set_cons_succ]
              refine AnyP.take (i := 17) (fuel := 10) (d := some 159) (listed' := #[true, true, true, true, true, true, true, true, true, true, true, true, true, true, true, true, true, true, false, false, false, false, false, false, false, false, false, false]) (oi := _) (v := undef) rfl (by kernel_rfl) (by kernel_rfl) (by kernel_rfl) (fun _ _ _ h => h) (Or.inr ⟨by rfl, rfl⟩) (by rfl) (by rfl) ?rest17e
              try simp only [Act.put, List.setIfInBounds_toArray, List.set_cons_zero, List.set_cons_succ]
              refine AnyP.take (i := 18) (fuel := 9) (d := some 160) (listed' := #[true, true, true, true, true, true, true, true, true, true, true, true, true, true, true, true, true, true, true, false, false, false, false, false, false, false, false, false]) (oi := _) (v := undef) rfl (by kernel_rfl) (by kernel_rfl) (by kernel_rfl) (fun _ _ _ h => h) (Or.inr ⟨by rfl, rfl⟩) (by rfl) (by rfl) ?rest18e
              try simp only [Act.put, List.setIfInBounds_toArray, List.set_cons_zero, List.set_cons_succ]
              refine AnyP.take (i := 19) (fuel := 8) (d := some 161) (listed' := #[true, true, true, true, true, true, true, true, true, true, true, true, true, true, true, true, true, true, true, true, false, false, false, false, false, false, false, false]) (oi := _) (v := undef) rfl (by kernel_rfl) (by kernel_rfl) (by kernel_rfl) (fun _ _ _ h => h) (Or.inr ⟨by rfl, rfl⟩) (by rfl) (by rfl) ?rest19e
              try simp only [Act.put, List.setIfInBounds_toArray, List.set_cons_zero, List.set_cons_succ]
              refine AnyP.take (i := 20) (fuel := 7) (d := some 162) (listed' := #[true, true, true, true, true, true, true, true, true, true, true, true, true, true, true, true, true, true, true, true, true, false, false, false, false, false, false, false]) (oi := _) (v := undef) rfl (by kernel_rfl) (by kernel_rfl) (by kernel_rfl) (fun _ _ _ h => h) (Or.inr ⟨by rfl, rfl⟩) (by rfl) (by rfl) ?rest20e
              try simp only [Act.put, List.setIfInBounds_toArray, List.set_cons_zero, List.set_cons_succ]
              refine AnyP.take (i := 21) (fuel := 6) (d := some 163) (listed' := #[true, true, true, true, true, true, true, true, true, true, true, true, true, true, true, true, true, true, true, true, true, true, false, false, false, false, false, false]) (oi := _) (v := undef) rfl (by kernel_rfl) (by kernel_rfl) (by kernel_rfl) (fun _ _ _ h => h) (Or.inr ⟨by rfl, rfl⟩) (by rfl) (by rfl) ?rest21e
              try simp only [Act.put, List.setIfInBounds_toArray, List.set_cons_zero, List.set_cons_succ]
              refine AnyP.take (i := 22) (fuel := 5) (d := some 164) (listed' := #[true, true, true, true, true, true, true, true, true, true, true, true, true, true, true, true, true, true, true, true, true, true, true, false, false, false, false, false]) (oi := _) (v := undef) rfl (by kernel_rfl) (by kernel_rfl) (by kernel_rfl) (fun _ _ _ h => h) (Or.inr ⟨by rfl, rfl⟩) (by rfl) (by rfl) ?rest22e
              try simp only [Act.put, List.setIfInBounds_toArray, List.set_cons_zero, List.set_cons_succ]
              refine AnyP.take (i := 23) (fuel := 4) (d := some 165) (listed' := #[true, true, true, true, true, true, true, true, true, true, true, true, true, true, true, true, true, true, true, true, true, true, true, true, false, false, false, false]) (oi := _) (v := ?v23e) rfl (by kernel_rfl) (by kernel_rfl) (by kernel_rfl) (fun _ _ _ h => h) (Or.inl ⟨by rfl, ?hy23e⟩) (by rfl) (by rfl) ?rest23e
              case hy23e => intro w; go_simp; try with_reducible rfl
              try simp only [Act.put, List.setIfInBounds_toArray, List.set_cons_zero, List.set_cons_succ]
              refine AnyP.take (i := 24) (fuel := 3) (d := some 166) (listed' := #[true, true, true, true, true, true, true, true, true, true, true, true, true, true, true, true, true, true, true, true, true, true, true, true, true, false, false, false]) (oi := _) (v := ?v24e) rfl (by kernel_rfl) (by kernel_rfl) (by kernel_rfl) (fun _ _ _ h => h) (Or.inl ⟨by rfl, ?hy24e⟩) (by rfl) (by rfl) ?rest24e
              case hy24e => intro w; go_simp; try with_reducible rfl
              try simp only [Act.put, List.setIfInBounds_toArray, List.set_cons_zero, List.set_cons_succ]
              refine AnyP.one (i := 25) (o := ?o25e) (fuel := 2) (listed' := #[true, true, true, true, true, true, true, true, true, true, true, true, true, true, true, true, true, true, true, true, true, true, true, true, true, true, false, false]) (by kernel_rfl) ?ho25e (by rfl) (fun K' hK' => ?step25e)
              case ho25e => simp only [List.getElem?_toArray, List.getElem?_cons_succ, List.getElem?_cons_zero]; rfl
              go_simp
              go_at_call 67
              refine (HAW.out _).mono ?_
              rintro e wb ⟨rfl, hbb⟩
              go_wp2_with fail
              refine hK'.out _ _ (fun _ => trivial) (fun hHeld => ?_)
              clear hK' K'
              try simp only [Act.put, List.setIfInBounds_toArray, List.set_cons_zero, List.set_cons_succ]
              refine AnyP.take (i := 26) (fuel := 1) (d := some 168) (listed' := #[true, true, true, true, true, true, true, true, true, true, true, true, true, true, true, true, true, true, true, true, true, true, true, true, true, true, true, false]) (oi := _) (v := ?v26e) rfl (by kernel_rfl) (by kernel_rfl) (by kernel_rfl) (fun _ _ _ h => h) (Or.inl ⟨by rfl, ?hy26e⟩) (by rfl) (by rfl) ?rest26e
              case hy26e => intro w; go_simp; try with_reducible rfl
              try simp only [Act.put, List.setIfInBounds_toArray, List.set_cons_zero, List.set_cons_succ]
              refine AnyP.take (i := 27) (fuel := 0) (d := some 10) (listed' := #[true, true, true, true, true, true, true, true, true, true, true, true, true, true, true, true, true, true, true, true, true, true, true, true, true, true, true, true]) (oi := _) (v := ?v27e) rfl (by kernel_rfl) (by kernel_rfl) (by kernel_rfl) (fun _ _ _ h => h) (Or.inl ⟨by rfl, ?hy27e⟩) (by rfl) (by rfl) ?rest27e
              case hy27e => intro w; go_simp; try with_reducible rfl
              try simp only [Act.put, List.setIfInBounds_toArray, List.set_cons_zero, List.set_cons_succ]
              refine AnyP.done (by kernel_rfl) ?_ _
              go_wp2
              go_ret
              exact ⟨rfl, (HCN.out.drew.step (Ch.of_below (S := fun _ => False) hbb) (by simpa using hzN) (fun _ _ e => e)).below (fun _ _ e => e)⟩
            · subst hcd2
              obtain ⟨ht1, ht2⟩ := truth_split (HTR2.out rfl)
              rcases HRR.out with ⟨rfl, hn0⟩ | ⟨i, xr, rfl, hxr, hn0⟩
              · obtain ⟨rfl, rfl⟩ := ht1 hn0
                clear ht1 ht2 hn0
                refine AnyP.start [] (fun w' => w'.cell? ⟨w5.heap.size, 2, none⟩ = some (.bool false)) (by kernel_rfl) p2 (n := 28) (listed := #[false, false, false, false, false, false, false, false, false, false, false, false, false, false, false, false, false, false, false, false, false, false, false, false, false, false, false, false]) (by kernel_rfl) (by kernel_rfl) (fun hHeld => ?_)
                refine AnyP.take (i := 0) (fuel := 27) (d := some 142) (listed' := #[true, false, false, false, false, false, false, false, false, false, false, false, false, false, false, false, false, false, false, false, false, false, false, false, false, false, false, false]) (oi := _) (v := ?v0n) rfl (by kernel_rfl) (by kernel_rfl) (by kernel_rfl) (fun _ _ _ h => h) (Or.inl ⟨by rfl, ?hy0n⟩) (by rfl) (by rfl) ?rest0n
                case hy0n => intro w; go_simp; try with_reducible rfl
                try simp only [Act.put, List.setIfInBounds_toArray, List.set_cons_zero, List.set_cons_succ]
                refine AnyP.take (i := 1) (fuel := 26) (d := some 143) (listed' := #[true, true, false, false, false, false, false, false, false, false, false, false, false, false, false, false, false, false, false, false, false, false, false, false, false, false, false, false]) (oi := _) (v := ?v1n) rfl (by kernel_rfl) (by kernel_rfl) (by kernel_rfl) (fun _ _ _ h => h) (Or.inl ⟨by rfl, ?hy1n⟩) (by rfl) (by rfl) ?rest1n
                case hy1n => intro w; go_simp; try with_reducible rfl
                try simp only [Act.put, List.setIfInBounds_toArray, List.set_cons_zero, List.set_cons_succ]
                refine AnyP.take (i := 2) (fuel := 25) (d := some 144) (listed' := #[true, true, true, false, false, false, false, false, false, false, false, false, false, false, false, false, false, false, false, false, false, false, false, false, false, false, false, false]) (oi := _) (v := ?v2n) rfl (by kernel_rfl) (by kernel_rfl) (by kernel_rfl) (fun _ _ _ h => h) (Or.inl ⟨by rfl, ?hy2n⟩) (by rfl) (by rfl) ?rest2n
                case hy2n => intro w; go_simp; try with_reducible rfl
                try simp only [Act.put, List.setIfInBounds_toArray, List.set_cons_zero, List.set_cons_succ]
                refine AnyP.take (i := 3) (fuel := 24) (d := some 145) (listed' := #[true, true, true, true, false, false, false, false, false, false, false, false, false, false, false, false, false, false, false, false, false, false, false, false, false, false, false, false]) (oi := _) (v := ?v3n) rfl (by kernel_rfl) (by kernel_rfl) (by kernel_rfl) (fun _ _ _ h => h) (Or.inl ⟨by rfl, ?hy3n⟩) (by rfl) (by rfl) ?rest3n
                case hy3n => intro w; go_simp; try with_reducible rfl
                try simp only [Act.put, List.setIfInBounds_toArray, List.set_cons_zero, List.set_cons_succ]
                refine AnyP.load (i := 4) (fuel := 23) (d := some 146) (listed' := #[true, true, true, true, true, false, false, false, false, false, false, false, false, false, false, false, false, false, false, false, false, false, false, false, false, false, false, false]) (oi := _) (v := ?v4n) [] rfl (by kernel_rfl) (by kernel_rfl) (by kernel_rfl) (by kernel_rfl) (by kernel_rfl) (by kernel_rfl) (fun _ _ _ h => h) (Or.inl ⟨by rfl, ?hy4n⟩) hHeld (by rfl) (by rfl) ?rest4n
                case hy4n => intro w hSw; (try dsimp only at hSw); go_simp; try with_reducible rfl
                try simp only [Act.put, List.setIfInBounds_toArray, List.set_cons_zero, List.set_cons_succ]
                refine AnyP.take (i := 5) (fuel := 22) (d := some 147) (listed' := #[true, true, true, true, true, true, false, false, false, false, false, false, false, false, false, false, false, false, false, false, false, false, false, false, false, false, false, false]) (oi := _) (v := ?v5n) rfl (by kernel_rfl) (by kernel_rfl) (by kernel_rfl) (fun _ _ _ h => h) (Or.inl ⟨by rfl, ?hy5n⟩) (by rfl) (by rfl) ?rest5n
                case hy5n => intro w; go_simp; try with_reducible rfl
                try simp only [Act.put, List.setIfInBounds_toArray, List.set_cons_zero, List.set_cons_succ]
                refine AnyP.take (i := 6) (fuel := 21) (d := some 148) (listed' := #[true, true, true, true, true, true, true, false, false, false, false, false, false, false, false, false, false, false, false, false, false, false, false, false, false, false, false, false]) (oi := _) (v := ?v6n) rfl (by kernel_rfl) (by kernel_rfl) (by kernel_rfl) (fun _ _ _ h => h) (Or.inl ⟨by rfl, ?hy6n⟩) (by rfl) (by rfl) ?rest6n
                case hy6n => intro w; go_simp; try with_reducible rfl
                try simp only [Act.put, List.setIfInBounds_toArray, List.set_cons_zero, List.set_cons_succ]
                refine AnyP.take (i := 7) (fuel := 20) (d := some 149) (listed' := #[true, true, true, true, true, true, true, true, false, false, false, false, false, false, false, false, false, false, false, false, false, false, false, false, false, false, false, false]) (oi := _) (v := ?v7n) rfl (by kernel_rfl) (by kernel_rfl) (by kernel_rfl) (fun _ _ _ h => h) (Or.inl ⟨by rfl, ?hy7n⟩) (by rfl) (by rfl) ?rest7n
                case hy7n => intro w; go_simp; try with_reducible rfl
                try simp only [Act.put, List.setIfInBounds_toArray, List.set_cons_zero, List.set_cons_succ]
                refine AnyP.take (i := 8) (fuel := 19) (d := some 150) (listed' := #[true, true, true, true, true, true, true, true, true, false, false, false, false, false, false, false, false, false, false, false, false, false, false, false, false, false, false, false]) (oi := _) (v := ?v8n) rfl (by kernel_rfl) (by kernel_rfl) (by kernel_rfl) (fun _ _ _ h => h) (Or.inl ⟨by rfl, ?hy8n⟩) (by rfl) (by rfl) ?rest8n
                case hy8n => intro w; go_simp; try with_reducible rfl
                try simp only [Act.put, List.setIfInBounds_toArray, List.set_cons_zero, List.set_cons_succ]
                refine AnyP.take (i := 9) (fuel := 18) (d := some 151) (listed' := #[true, true, true, true, true, true, true, true, true, true, false, false, false, false, false, false, false, false, false, false, false, false, false, false, false, false, false, false]) (oi := _) (v := ?v9n) rfl (by kernel_rfl) (by kernel_rfl) (by kernel_rfl) (fun _ _ _ h => h) (Or.inl ⟨by rfl, ?hy9n⟩) (by rfl) (by rfl) ?rest9n
                case hy9n => intro w; go_simp; try with_reducible rfl
                try simp only [Act.put, List.setIfInBounds_toArray, List.set_cons_zero, List.set_cons_succ]
                refine AnyP.take (i := 10) (fuel := 17) (d := some 152) (listed' := #[true, true, true, true, true, true, true, true, true, true, true, false, false, false, false, false, false, false, false, false, false, false, false, false, false, false, false, false]) (oi := _) (v := ?v10n) rfl (by kernel_rfl) (by kernel_rfl) (by kernel_rfl) (fun _ _ _ h => h) (Or.inl ⟨by rfl, ?hy10n⟩) (by rfl) (by rfl) ?rest10n
                case hy10n => intro w; go_simp; try with_reducible rfl
                try simp only [Act.put, List.setIfInBounds_toArray, List.set_cons_zero, List.set_cons_succ]
                refine AnyP.take (i := 11) (fuel := 16) (d := some 153) (listed' := #[true, true, true, true, true, true, true, true, true, true, true, true, false, false, false, false, false, false, false, false, false, false, false, false, false, false, false, false]) (oi := _) (v := ?v11n) rfl (by kernel_rfl) (by kernel_rfl) (by kernel_rfl) (fun _ _ _ h => h) (Or.inl ⟨by rfl, ?hy11n⟩) (by rfl) (by rfl) ?rest11n
                case hy11n => intro w; go_simp; try with_reducible rfl
                try simp only [Act.put, List.setIfInBounds_toArray, List.set_cons_zero, List.set_cons_succ]
                refine AnyP.take (i := 12) (fuel := 15) (d := some 154) (listed' := #[true, true, true, true, true, true, true, true, true, true, true, true, true, false, false, false, false, false, false, false, false, false, false, false, false, false, false, false]) (oi := _) (v := undef) rfl (by kernel_rfl) (by kernel_rfl) (by kernel_rfl) (fun _ _ _ h => h) (Or.inr ⟨by rfl, rfl⟩) (by rfl) (by rfl) ?rest12n
                try simp only [Act.put, List.setIfInBounds_toArray, List.set_cons_zero, List.set_cons_succ]
                refine AnyP.take (i := 13) (fuel := 14) (d := some 155) (listed' := #[true, true, true, true, true, true, true, true, true, true, true, true, true, true, false, false, false, false, false, false, false, false, false, false, false, false, false, false]) (oi := _) (v := undef) rfl (by kernel_rfl) (by kernel_rfl) (by kernel_rfl) (fun _ _ _ h => h) (Or.inr ⟨by rfl, rfl⟩) (by rfl) (by rfl) ?rest13n
                try simp only [Act.put, List.setIfInBounds_toArray, List.set_cons_zero, List.set_cons_succ]
                refine AnyP.take (i := 14) (fuel := 13) (d := some 156) (listed' := #[true, true, true, true, true, true, true, true, true, true, true, true, true, true, true, false, false, false, false, false, false, false, false, false, false, false, false, false]) (oi := _) (v := undef) rfl (by kernel_rfl) (by kernel_rfl) (by kernel_rfl) (fun _ _ _ h => h) (Or.inr ⟨by rfl, rfl⟩) (by rfl) (by rfl) ?rest14n
                try simp only [Act.put, List.setIfInBounds_toArray, List.set_cons_zero, List.set_cons_succ]
                refine AnyP.take (i := 15) (fuel := 12) (d := some 157) (listed' := #[true, true, true, true, true, true, true, true, true, true, true, true, true, true, true, true, false, false, false, false, false, false, false, false, false, false, false, false]) (oi := _) (v := undef) rfl (by kernel_rfl) (by kernel_rfl) (by kernel_rfl) (fun _ _ _ h => h) (Or.inr ⟨by rfl, rfl⟩) (by rfl) (by rfl) ?rest15n
                try simp only [Act.put, List.setIfInBounds_toArray, List.set_cons_zero, List.set_cons_succ]
                refine AnyP.take (i := 16) (fuel := 11) (d := some 158) (listed' := #[true, true, true, true, true, true, true, true, true, true, true, true, true, true, true, true, true, false, false, false, false, false, false, false, false, false, false, false]) (oi := _) (v := undef) rfl (by kernel_rfl) (by kernel_rfl) (by kernel_rfl) (fun _ _ _ h => h) (Or.inr ⟨by rfl, rfl⟩) (by rfl) (by rfl) ?rest16n
                try simp only [Act.put, List.setIfInBounds_toArray, List.set_cons_zero, List.set_cons_succ]
                refine AnyP.take (i := 17) (fuel := 10) (d := some 159) (listed' := #[true, true, true, true, true, true, true, true, true, true, true, true, true, true, true, true, true, true, false, false, false, false, false, false, false, false, false, false]) (oi := _) (v := undef) rfl (by kernel_rfl) (by kernel_rfl) (by kernel_rfl) (fun _ _ _ h => h) (Or.inr ⟨by rfl, rfl⟩) (by rfl) (by rfl) ?rest17n
                try simp only [Act.put, List.setIfInBounds_toArray, List.set_cons_zero, List.set_cons_succ]
                refine AnyP.take (i := 18) (fuel := 9) (d := some 160) (listed' := #[true, true, true, true, true, true, true, true, true, true, true, true, true, true, true, true, true, true, true, false, false, false, false, false, false, false, false, false]) (oi := _) (v := undef) rfl (by kernel_rfl) (by kernel_rfl) (by kernel_rfl) (fun _ _ _ h => h) (Or.inr ⟨by rfl, rfl⟩) (by rfl) (by rfl) ?rest18n
                try simp only [Act.put, List.setIfInBounds_toArray, List.set_cons_zero, List.set_cons_succ]
                refine AnyP.take (i := 19) (fuel := 8) (d := some 161) (listed' := #[true, true, true, true, true, true, true, true, true, true, true, true, true, true, true, true, true, true, true, true, false, false, false, false, false, false, false, false]) (oi := _) (v := undef) rfl (by kernel_rfl) (by kernel_rfl) (by kernel_rfl) (fun _ _ _ h => h) (Or.inr ⟨by rfl, rfl⟩) (by rfl) (by rfl) ?rest19n
                try simp only [Act.put, List.setIfInBounds_toArray, List.set_cons_zero, List.set_cons_succ]
                refine AnyP.take (i := 20) (fuel := 7) (d := some 162) (listed' := #[true, true, true, true, true, true, true, true, true, true, true, true, true, true, true, true, true, true, true, true, true, false, false, false, false, false, false, false]) (oi := _) (v := undef) rfl (by kernel_rfl) (by kernel_rfl) (by kernel_rfl) (fun _ _ _ h => h) (Or.inr ⟨by rfl, rfl⟩) (by rfl) (by rfl) ?rest20n
                try simp only [Act.put, List.setIfInBounds_toArray, List.set_cons_zero, List.set_cons_succ]
                refine AnyP.take (i := 21) (fuel := 6) (d := some 163) (listed' := #[true, true, true, true, true, true, true, true, true, true, true, true, true, true, true, true, true, true, true, true, true, true, false, false, false, false, false, false]) (oi := _) (v := ?v21n) rfl (by kernel_rfl) (by kernel_rfl) (by kernel_rfl) (fun _ _ _ h => h) (Or.inl ⟨by rfl, ?hy21n⟩) (by rfl) (by rfl) ?rest21n
                case hy21n => intro w; go_simp; try with_reducible rfl
                try simp only [Act.put, List.setIfInBounds_toArray, List.set_cons_zero, List.set_cons_succ]
                refine AnyP.take (i := 22) (fuel := 5) (d := some 164) (listed' := #[true, true, true, true, true, true, true, true, true, true, true, true, true, true, true, true, true, true, true, true, true, true, true, false, false, false, false, false]) (oi := _) (v := ?v22n) rfl (by kernel_rfl) (by kernel_rfl) (by kernel_rfl) (fun _ _ _ h => h) (Or.inl ⟨by rfl, ?hy22n⟩) (by rfl) (by rfl) ?rest22n
                case hy22n => intro w; go_simp; try with_reducible rfl
                try simp only [Act.put, List.setIfInBounds_toArray, List.set_cons_zero, List.set_cons_succ]
                refine AnyP.take (i := 23) (fuel := 4) (d := some 165) (listed' := #[true, true, true, true, true, true, true, true, true, true, true, true, true, true, true, true, true, true, true, true, true, true, true, true, false, false, false, false]) (oi := _) (v := ?v23n) rfl (by kernel_rfl) (by kernel_rfl) (by kernel_rfl) (fun _ _ _ h => h) (Or.inl ⟨by rfl, ?hy23n⟩) (by rfl) (by rfl) ?rest23n
                case hy23n => intro w; go_simp; try with_reducible rfl
                try simp only [Act.put, List.setIfInBounds_toArray, List.set_cons_zero, List.set_cons_succ]
                refine AnyP.take (i := 24) (fuel := 3) (d := some 166) (listed' := #[true, true, true, true, true, true, true, true, true, true, true, true, true, true, true, true, true, true, true, true, true, true, true, true, true, false, false, false]) (oi := _) (v := ?v24n) rfl (by kernel_rfl) (by kernel_rfl) (by kernel_rfl) (fun _ _ _ h => h) (Or.inl ⟨by rfl, ?hy24n⟩) (by rfl) (by rfl) ?rest24n
                case hy24n => intro w; go_simp; try with_reducible rfl
                try simp only [Act.put, List.setIfInBounds_toArray, List.set_cons_zero, List.set_cons_succ]
                refine AnyP.one (i := 25) (o := ?o25n) (fuel := 2) (listed' := #[true, true, true, true, true, true, true, true, true, true, true, true, true, true, true, true, true, true, true, true, true, true, true, true, true, true, false, false]) (by kernel_rfl) ?ho25n (by rfl) (fun K' hK' => ?step25n)
                case ho25n => simp only [List.getElem?_toArray, List.getElem?_cons_succ, List.getElem?_cons_zero]; rfl
                go_simp
                go_at_call 67
                refine (HAW.out _).mono ?_
                rintro e wb ⟨rfl, hbb⟩
                go_wp2_with fail
                refine hK'.out _ _ (fun _ => (Box.facts3 (hLN.drew.call hbb)).2.2.1) (fun hHeld => ?_)
                clear hK' K'
                try simp only [Act.put, List.setIfInBounds_toArray, List.set_cons_zero, List.set_cons_succ]
                refine AnyP.take (i := 26) (fuel := 1) (d := some 168) (listed' := #[true, true, true, true, true, true, true, true, true, true, true, true, true, true, true, true, true, true, true, true, true, true, true, true, true, true, true, false]) (oi := _) (v := ?v26n) rfl (by kernel_rfl) (by kernel_rfl) (by kernel_rfl) (fun _ _ _ h => h) (Or.inl ⟨by rfl, ?hy26n⟩) (by rfl) (by rfl) ?rest26n
                case hy26n => intro w; go_simp; try with_reducible rfl
                try simp only [Act.put, List.setIfInBounds_toArray, List.set_cons_zero, List.set_cons_succ]
                refine AnyP.take (i := 27) (fuel := 0) (d := some 10) (listed' := #[true, true, true, true, true, true, true, true, true, true, true, true, true, true, true, true, true, true, true, true, true, true, true, true, true, true, true, true]) (oi := _) (v := ?v27n) rfl (by kernel_rfl) (by kernel_rfl) (by kernel_rfl) (fun _ _ _ h => h) (Or.inl ⟨by rfl, ?hy27n⟩) (by rfl) (by rfl) ?rest27n
                case hy27n => intro w; go_simp; try with_reducible rfl
                try simp only [Act.put, List.setIfInBounds_toArray, List.set_cons_zero, List.set_cons_succ]
                refine AnyP.done (by kernel_rfl) ?_ _
                go_wp2
                go_ret
                exact ⟨rfl, (HCN.out.drew.step (Ch.of_below (S := fun _ => False) hbb) (by simpa using hzN) (fun _ _ e => e)).below (fun _ _ e => e)⟩
              · obtain ⟨rfl, rfl⟩ := ht2 xr hn0
                have hi := (List.getElem?_eq_some_iff.1 hxr).1
                obtain ⟨a2, ha2, e0, e1⟩ := HRSN.out.elem i hi
                obtain rfl := ha2
                have hxe := (List.getElem?_eq_some_iff.1 hxr).2
                rw [hxe] at e0 e1
                have hge : decide ((0 : Int) ≤ (i : Int)) = true := by simp
                have hlt0 : decide ((i : Int) < 0) = false := by simp
                have hi0 : (0 : Int) ≤ (i : Int) := by omega
                have hi1 : (i : Int) < (L.length : Int) := by omega
                obtain ⟨xk, xv⟩ := xr
                simp only at e0 e1 p1 hLN ⊢
                have hvD : WN.drew.cell? ⟨(a2.add (i * 2)).block, (a2.add (i * 2)).off + 1, none⟩ = some (.string xv) := e1
                clear ht1 ht2 hn0 hxr hxe e0 e1
                refine AnyP.start [] (fun w' => w'.cell? ⟨w5.heap.size, 1, none⟩ = some (.string xv) ∧ w'.cell? ⟨w5.heap.size, 2, none⟩ = some (.bool true) ∧ w'.cell? ⟨W.heap.size, 0, none⟩ = some (.slice (some a2) L.length c) ∧ w'.cell? ⟨(a2.add (i * 2)).block, (a2.add (i * 2)).off + 1, none⟩ = some (.string xv)) (by kernel_rfl) ⟨p1, p2, y0, hvD⟩ (n := 28) (listed := #[false, false, false, false, false, false, false, false, false, false, false, false, false, false, false, false, false, false, false, false, false, false, false, false, false, false, false, false]) (by kernel_rfl) (by kernel_rfl) (fun hHeld => ?_)
                refine AnyP.take (i := 0) (fuel := 27) (d := some 142) (listed' := #[true, false, false, false, false, false, false, false, false, false, false, false, false, false, false, false, false, false, false, false, false, false, false, false, false, false, false, false]) (oi := _) (v := ?v0y) rfl (by kernel_rfl) (by kernel_rfl) (by kernel_rfl) (fun _ _ _ h => h) (Or.inl ⟨by rfl, ?hy0y⟩) (by rfl) (by rfl) ?rest0y
                case hy0y => intro w; go_simp; try with_reducible rfl
                try simp only [Act.put, List.setIfInBounds_toArray, List.set_cons_zero, List.set_cons_succ]
                refine AnyP.take (i := 1) (fuel := 26) (d := some 143) (listed' := #[true, true, false, false, false, false, false, false, false, false, false, false, false, false, false, false, false, false, false, false, false, false, false, false, false, false, false, false]) (oi := _) (v := ?v1y) rfl (by kernel_rfl) (by kernel_rfl) (by kernel_rfl) (fun _ _ _ h => h) (Or.inl ⟨by rfl, ?hy1y⟩) (by rfl) (by rfl) ?rest1y
                case hy1y => intro w; go_simp; try with_reducible rfl
                try simp only [Act.put, List.setIfInBounds_toArray, List.set_cons_zero, List.set_cons_succ]
                refine AnyP.take (i := 2) (fuel := 25) (d := some 144) (listed' := #[true, true, true, false, false, false, false, false, false, false, false, false, false, false, false, false, false, false, false, false, false, false, false, false, false, false, false, false]) (oi := _) (v := ?v2y) rfl (by kernel_rfl) (by kernel_rfl) (by kernel_rfl) (fun _ _ _ h => h) (Or.inl ⟨by rfl, ?hy2y⟩) (by rfl) (by rfl) ?rest2y
                case hy2y => intro w; go_simp; try with_reducible rfl
                try simp only [Act.put, List.setIfInBounds_toArray, List.set_cons_zero, List.set_cons_succ]
                refine AnyP.take (i := 3) (fuel := 24) (d := some 145) (listed' := #[true, true, true, true, false, false, false, false, false, false, false, false, false, false, false, false, false, false, false, false, false, false, false, false, false, false, false, false]) (oi := _) (v := ?v3y) rfl (by kernel_rfl) (by kernel_rfl) (by kernel_rfl) (fun _ _ _ h => h) (Or.inl ⟨by rfl, ?hy3y⟩) (by rfl) (by rfl) ?rest3y
                case hy3y => intro w; go_simp; try with_reducible rfl
                try simp only [Act.put, List.setIfInBounds_toArray, List.set_cons_zero, List.set_cons_succ]
                refine AnyP.load (i := 4) (fuel := 23) (d := some 146) (listed' := #[true, true, true, true, true, false, false, false, false, false, false, false, false, false, false, false, false, false, false, false, false, false, false, false, false, false, false, false]) (oi := _) (v := ?v4y) [] rfl (by kernel_rfl) (by kernel_rfl) (by kernel_rfl) (by kernel_rfl) (by kernel_rfl) (by kernel_rfl) (fun _ _ _ h => h) (Or.inl ⟨by rfl, ?hy4y⟩) hHeld (by rfl) (by rfl) ?rest4y
                case hy4y => intro w hSw; (try dsimp only at hSw); go_simp; try with_reducible rfl
                try simp only [Act.put, List.setIfInBounds_toArray, List.set_cons_zero, List.set_cons_succ]
                refine AnyP.take (i := 5) (fuel := 22) (d := some 147) (listed' := #[true, true, true, true, true, true, false, false, false, false, false, false, false, false, false, false, false, false, false, false, false, false, false, false, false, false, false, false]) (oi := _) (v := ?v5y) rfl (by kernel_rfl) (by kernel_rfl) (by kernel_rfl) (fun _ _ _ h => h) (Or.inl ⟨by rfl, ?hy5y⟩) (by rfl) (by rfl) ?rest5y
                case hy5y => intro w; go_simp; try with_reducible rfl
                try simp only [Act.put, List.setIfInBounds_toArray, List.set_cons_zero, List.set_cons_succ]
                refine AnyP.take (i := 6) (fuel := 21) (d := some 148) (listed' := #[true, true, true, true, true, true, true, false, false, false, false, false, false, false, false, false, false, false, false, false, false, false, false, false, false, false, false, false]) (oi := _) (v := ?v6y) rfl (by kernel_rfl) (by kernel_rfl) (by kernel_rfl) (fun _ _ _ h => h) (Or.inl ⟨by rfl, ?hy6y⟩) (by rfl) (by rfl) ?rest6y
                case hy6y => intro w; go_simp; try with_reducible rfl
                try simp only [Act.put, List.setIfInBounds_toArray, List.set_cons_zero, List.set_cons_succ]
                refine AnyP.take (i := 7) (fuel := 20) (d := some 149) (listed' := #[true, true, true, true, true, true, true, true, false, false, false, false, false, false, false, false, false, false, false, false, false, false, false, false, false, false, false, false]) (oi := _) (v := ?v7y) rfl (by kernel_rfl) (by kernel_rfl) (by kernel_rfl) (fun _ _ _ h => h) (Or.inl ⟨by rfl, ?hy7y⟩) (by rfl) (by rfl) ?rest7y
                case hy7y => intro w; go_simp; try with_reducible rfl
                try simp only [Act.put, List.setIfInBounds_toArray, List.set_cons_zero, List.set_cons_succ]
                refine AnyP.take (i := 8) (fuel := 19) (d := some 150) (listed' := #[true, true, true, true, true, true, true, true, true, false, false, false, false, false, false, false, false, false, false, false, false, false, false, false, false, false, false, false]) (oi := _) (v := ?v8y) rfl (by kernel_rfl) (by kernel_rfl) (by kernel_rfl) (fun _ _ _ h => h) (Or.inl ⟨by rfl, ?hy8y⟩) (by rfl) (by rfl) ?rest8y
                case hy8y => intro w; go_simp; try with_reducible rfl
                try simp only [Act.put, List.setIfInBounds_toArray, List.set_cons_zero, List.set_cons_succ]
                refine AnyP.take (i := 9) (fuel := 18) (d := some 151) (listed' := #[true, true, true, true, true, true, true, true, true, true, false, false, false, false, false, false, false, false, false, false, false, false, false, false, false, false, false, false]) (oi := _) (v := ?v9y) rfl (by kernel_rfl) (by kernel_rfl) (by kernel_rfl) (fun _ _ _ h => h) (Or.inl ⟨by rfl, ?hy9y⟩) (by rfl) (by rfl) ?rest9y
                case hy9y => intro w; go_simp; try with_reducible rfl
                try simp only [Act.put, List.setIfInBounds_toArray, List.set_cons_zero, List.set_cons_succ]
                refine AnyP.take (i := 10) (fuel := 17) (d := some 152) (listed' := #[true, true, true, true, true, true, true, true, true, true, true, false, false, false, false, false, false, false, false, false, false, false, false, false, false, false, false, false]) (oi := _) (v := ?v10y) rfl (by kernel_rfl) (by kernel_rfl) (by kernel_rfl) (fun _ _ _ h => h) (Or.inl ⟨by rfl, ?hy10y⟩) (by rfl) (by rfl) ?rest10y
                case hy10y => intro w; go_simp; try with_reducible rfl
                try simp only [Act.put, List.setIfInBounds_toArray, List.set_cons_zero, List.set_cons_succ]
                refine AnyP.take (i := 11) (fuel := 16) (d := some 153) (listed' := #[true, true, true, true, true, true, true, true, true, true, true, true, false, false, false, false, false, false, false, false, false, false, false, false, false, false, false, false]) (oi := _) (v := ?v11y) rfl (by kernel_rfl) (by kernel_rfl) (by kernel_rfl) (fun _ _ _ h => h) (Or.inl ⟨by rfl, ?hy11y⟩) (by rfl) (by rfl) ?rest11y
                case hy11y => intro w; go_simp; try with_reducible rfl
                try simp only [Act.put, List.setIfInBounds_toArray, List.set_cons_zero, List.set_cons_succ]
                refine AnyP.take (i := 12) (fuel := 15) (d := some 154) (listed' := #[true, true, true, true, true, true, true, true, true, true, true, true, true, false, false, false, false, false, false, false, false, false, false, false, false, false, false, false]) (oi := _) (v := ?v12y) rfl (by kernel_rfl) (by kernel_rfl) (by kernel_rfl) (fun _ _ _ h => h) (Or.inl ⟨by rfl, ?hy12y⟩) (by rfl) (by rfl) ?rest12y
                case hy12y => intro w; go_simp; try with_reducible rfl
                try simp only [Act.put, List.setIfInBounds_toArray, List.set_cons_zero, List.set_cons_succ]
                refine AnyP.load (i := 13) (fuel := 14) (d := some 155) (listed' := #[true, true, true, true, true, true, true, true, true, true, true, true, true, true, false, false, false, false, false, false, false, false, false, false, false, false, false, false]) (oi := _) (v := ?v13y) [] rfl (by kernel_rfl) (by kernel_rfl) (by kernel_rfl) (by kernel_rfl) (by kernel_rfl) (by kernel_rfl) (fun _ _ _ h => h) (Or.inl ⟨by rfl, ?hy13y⟩) hHeld (by rfl) (by rfl) ?rest13y
                case hy13y => intro w hSw; (try dsimp only at hSw); go_simp; try with_reducible rfl
                try simp only [Act.put, List.setIfInBounds_toArray, List.set_cons_zero, List.set_cons_succ]
                refine AnyP.take (i := 14) (fuel := 13) (d := some 156) (listed' := #[true, true, true, true, true, true, true, true, true, true, true, true, true, true, true, false, false, false, false, false, false, false, false, false, false, false, false, false]) (oi := _) (v := ?v14y) rfl (by kernel_rfl) (by kernel_rfl) (by kernel_rfl) (fun _ _ _ h => h) (Or.inl ⟨by rfl, ?hy14y⟩) (by rfl) (by rfl) ?rest14y
                case hy14y => intro w; go_simp; try with_reducible rfl
                try simp only [Act.put, List.setIfInBounds_toArray, List.set_cons_zero, List.set_cons_succ]
                refine AnyP.load (i := 15) (fuel := 12) (d := some 157) (listed' := #[true, true, true, true, true, true, true, true, true, true, true, true, true, true, true, true, false, false, false, false, false, false, false, false, false, false, false, false]) (oi := _) (v := ?v15y) [] rfl (by kernel_rfl) (by kernel_rfl) (by kernel_rfl) (by kernel_rfl) (by kernel_rfl) (by kernel_rfl) (fun _ _ _ h => h) (Or.inl ⟨by rfl, ?hy15y⟩) hHeld (by rfl) (by rfl) ?rest15y
                case hy15y => intro w hSw; (try dsimp only at hSw); go_simp; try with_reducible rfl
                try simp only [Act.put, List.setIfInBounds_toArray, List.set_cons_zero, List.set_cons_succ]
                refine AnyP.take (i := 16) (fuel := 11) (d := some 158) (listed' := #[true, true, true, true, true, true, true, true, true, true, true, true, true, true, true, true, true, false, false, false, false, false, false, false, false, false, false, false]) (oi := _) (v := ?v16y) rfl (by kernel_rfl) (by kernel_rfl) (by kernel_rfl) (fun _ _ _ h => h) (Or.inl ⟨by rfl, ?hy16y⟩) (by rfl) (by rfl) ?rest16y
                case hy16y => intro w; go_simp; try with_reducible rfl
                try simp only [Act.put, List.setIfInBounds_toArray, List.set_cons_zero, List.set_cons_succ]
                refine AnyP.take (i := 17) (fuel := 10) (d := some 159) (listed' := #[true, true, true, true, true, true, true, true, true, true, true, true, true, true, true, true, true, true, false, false, false, false, false, false, false, false, false, false]) (oi := _) (v := ?v17y) rfl (by kernel_rfl) (by kernel_rfl) (by kernel_rfl) (fun _ _ _ h => h) (Or.inl ⟨by rfl, ?hy17y⟩) (by rfl) (by rfl) ?rest17y
                case hy17y => intro w; go_simp; try with_reducible rfl
                try simp only [Act.put, List.setIfInBounds_toArray, List.set_cons_zero, List.set_cons_succ]
                refine AnyP.take (i := 18) (fuel := 9) (d := some 160) (listed' := #[true, true, true, true, true, true, true, true, true, true, true, true, true, true, true, true, true, true, true, false, false, false, false, false, false, false, false, false]) (oi := _) (v := ?v18y) rfl (by kernel_rfl) (by kernel_rfl) (by kernel_rfl) (fun _ _ _ h => h) (Or.inl ⟨by rfl, ?hy18y⟩) (by rfl) (by rfl) ?rest18y
                case hy18y => intro w; go_simp; try with_reducible rfl
                try simp only [Act.put, List.setIfInBounds_toArray, List.set_cons_zero, List.set_cons_succ]
                refine AnyP.load (i := 19) (fuel := 8) (d := some 161) (listed' := #[true, true, true, true, true, true, true, true, true, true, true, true, true, true, true, true, true, true, true, true, false, false, false, false, false, false, false, false]) (oi := _) (v := ?v19y) [] rfl (by kernel_rfl) (by kernel_rfl) (by kernel_rfl) (by kernel_rfl) (by kernel_rfl) (by kernel_rfl) (fun _ _ _ h => h) (Or.inl ⟨by rfl, ?hy19y⟩) hHeld (by rfl) (by rfl) ?rest19y
                case hy19y => intro w hSw; (try dsimp only at hSw); go_simp; try with_reducible rfl
                try simp only [Act.put, List.setIfInBounds_toArray, List.set_cons_zero, List.set_cons_succ]
                refine AnyP.take (i := 20) (fuel := 7) (d := some 162) (listed' := #[true, true, true, true, true, true, true, true, true, true, true, true, true, true, true, true, true, true, true, true, true, false, false, false, false, false, false, false]) (oi := _) (v := ?v20y) rfl (by kernel_rfl) (by kernel_rfl) (by kernel_rfl) (fun _ _ _ h => h) (Or.inl ⟨by rfl, ?hy20y⟩) (by rfl) (by rfl) ?rest20y
                case hy20y => intro w; go_simp; try with_reducible rfl
                try simp only [Act.put, List.setIfInBounds_toArray, List.set_cons_zero, List.set_cons_succ]
                refine AnyP.take (i := 21) (fuel := 6) (d := some 163) (listed' := #[true, true, true, true, true, true, true, true, true, true, true, true, true, true, true, true, true, true, true, true, true, true, false, false, false, false, false, false]) (oi := _) (v := ?v21y) rfl (by kernel_rfl) (by kernel_rfl) (by kernel_rfl) (fun _ _ _ h => h) (Or.inl ⟨by rfl, ?hy21y⟩) (by rfl) (by rfl) ?rest21y
                case hy21y => intro w; go_simp; try with_reducible rfl
                try simp only [Act.put, List.setIfInBounds_toArray, List.set_cons_zero, List.set_cons_succ]
                refine AnyP.take (i := 22) (fuel := 5) (d := some 164) (listed' := #[true, true, true, true, true, true, true, true, true, true, true, true, true, true, true, true, true, true, true, true, true, true, true, false, false, false, false, false]) (oi := _) (v := ?v22y) rfl (by kernel_rfl) (by kernel_rfl) (by kernel_rfl) (fun _ _ _ h => h) (Or.inl ⟨by rfl, ?hy22y⟩) (by rfl) (by rfl) ?rest22y
                case hy22y => intro w; go_simp; try with_reducible rfl
                try simp only [Act.put, List.setIfInBounds_toArray, List.set_cons_zero, List.set_cons_succ]
                refine AnyP.take (i := 23) (fuel := 4) (d := some 165) (listed' := #[true, true, true, true, true, true, true, true, true, true, true, true, true, true, true, true, true, true, true, true, true, true, true, true, false, false, false, false]) (oi := _) (v := ?v23y) rfl (by kernel_rfl) (by kernel_rfl) (by kernel_rfl) (fun _ _ _ h => h) (Or.inl ⟨by rfl, ?hy23y⟩) (by rfl) (by rfl) ?rest23y
                case hy23y => intro w; go_simp; try with_reducible rfl
                try simp only [Act.put, List.setIfInBounds_toArray, List.set_cons_zero, List.set_cons_succ]
                refine AnyP.take (i := 24) (fuel := 3) (d := some 166) (listed' := #[true, true, true, true, true, true, true, true, true, true, true, true, true, true, true, true, true, true, true, true, true, true, true, true, true, false, false, false]) (oi := _) (v := ?v24y) rfl (by kernel_rfl) (by kernel_rfl) (by kernel_rfl) (fun _ _ _ h => h) (Or.inl ⟨by rfl, ?hy24y⟩) (by rfl) (by rfl) ?rest24y
                case hy24y => intro w; go_simp; try with_reducible rfl
                try simp only [Act.put, List.setIfInBounds_toArray, List.set_cons_zero, List.set_cons_succ]
                refine AnyP.one (i := 25) (o := ?o25y) (fuel := 2) (listed' := #[true, true, true, true, true, true, true, true, true, true, true, true, true, true, true, true, true, true, true, true, true, true, true, true, true, true, false, false]) (by kernel_rfl) ?ho25y (by rfl) (fun K' hK' => ?step25y)
                case ho25y => simp only [List.getElem?_toArray, List.getElem?_cons_succ, List.getElem?_cons_zero]; rfl
                go_simp
                go_at_call 67
                refine (HAW.out _).mono ?_
                rintro e wb ⟨rfl, hbb⟩
                go_wp2_with fail
                refine hK'.out _ _ (fun _ => ⟨(Box.facts3 (hLN.drew.call hbb)).2.1, (Box.facts3 (hLN.drew.call hbb)).2.2.1, (Box.facts4 (hXN.drew.call hbb)).1, cell_call hvD hbb⟩) (fun hHeld => ?_)
                clear hK' K'
                try simp only [Act.put, List.setIfInBounds_toArray, List.set_cons_zero, List.set_cons_succ]
                refine AnyP.take (i := 26) (fuel := 1) (d := some 168) (listed' := #[true, true, true, true, true, true, true, true, true, true, true, true, true, true, true, true, true, true, true, true, true, true, true, true, true, true, true, false]) (oi := _) (v := ?v26y) rfl (by kernel_rfl) (by kernel_rfl) (by kernel_rfl) (fun _ _ _ h => h) (Or.inl ⟨by rfl, ?hy26y⟩) (by rfl) (by rfl) ?rest26y
                case hy26y => intro w; go_simp; try with_reducible rfl
                try simp only [Act.put, List.setIfInBounds_toArray, List.set_cons_zero, List.set_cons_succ]
                refine AnyP.take (i := 27) (fuel := 0) (d := some 10) (listed' := #[true, true, true, true, true, true, true, true, true, true, true, true, true, true, true, true, true, true, true, true, true, true, true, true, true, true, true, true]) (oi := _) (v := ?v27y) rfl (by kernel_rfl) (by kernel_rfl) (by kernel_rfl) (fun _ _ _ h => h) (Or.inl ⟨by rfl, ?hy27y⟩) (by rfl) (by rfl) ?rest27y
                case hy27y => intro w; go_simp; try with_reducible rfl
                try simp only [Act.put, List.setIfInBounds_toArray, List.set_cons_zero, List.set_cons_succ]
                refine AnyP.done (by kernel_rfl) ?_ _
                go_wp2
                go_ret
                exact ⟨rfl, (HCN.out.drew.step (Ch.of_below (S := fun _ => False) hbb) (by simpa using hzN) (fun _ _ e => e)).below (fun _ _ e => e)⟩
set_option maxHeartbeats 4000000 in
set_option maxRecDepth 100000 in
theorem clientOther_many (fl : Int) (A : Option Addr) (c : Nat) (L : List Rc) (B : Option Addr) (d : Nat) (M : List Rc) (sq certs spoil : Int) (key asked : ByteArray) (W : World) (hf1 : L.length ≤ 9223372036854775807) (hf2 : M.length ≤ 9223372036854775807) (hl : 60 < L.length ∨ (L.length ≤ 60 ∧ 60 < M.length)) :
    Calls Try.prog 32 #[.int .i64 fl, .agg #[.slice A L.length c, .int .i64 sq, .int .i64 certs, .int .i64 spoil], .slice B M.length d, .string key, .string asked] W fun e w' => e = .returned (.bool true) ∧ Below W.heap.size W w' := by
  have HN := Lib.hid (fun w => newBook_calls w)
  unfold NewPost at HN
  have HCF := Lib.hid (fun w => config_calls fl w)
  obtain ⟨F, hFF⟩ : ∃ F, F = faultsN fl := ⟨_, rfl⟩
  rw [← hFF] at HCF
  have HAW := Lib.hid (fun w => awake12_calls w)
  have hA0 := (Below.refl W.heap.size W).alloc (Nat.le_refl _) (.cells #[.slice A L.length c, .int .i64 sq, .int .i64 certs, .int .i64 spoil] 157)
  obtain ⟨W0, hW0⟩ : ∃ W0, W0 = W.alloc (.cells #[.slice A L.length c, .int .i64 sq, .int .i64 certs, .int .i64 spoil] 157) := ⟨_, rfl⟩
  have HB0 := Lib.hid (show Below W.heap.size W W0 by rw [hW0]; exact hA0)
  have HX0 := Lib.hid (show Box W0 W.heap.size #[.slice A L.length c, .int .i64 sq, .int .i64 certs, .int .i64 spoil] 157 by rw [hW0]; exact Box.new W _ _)
  have HWW := Lib.hid hW0
  have hz0 := HB0.out.size
  clear hA0 hW0 hFF
  go_enter Try.func32, Try.ntmps32
  go_wp2_with fail
  rw [← HWW.out]
  refine (HN.out _).mono ?_
  rintro e w1 ⟨b, t, m, n, rfl, hb1, -, -, -, -, -⟩
  have HB1 := Lib.hid (HB0.out.trans (hb1.mono hz0))
  have hz1 := HB1.out.size
  have HX1 := Lib.hid (HX0.out.call hb1)
  clear hb1
  go_wp2_with fail
  refine (HCF.out _).mono ?_
  rintro e w2 ⟨rfl, hb2⟩
  have hz12 := hb2.size
  have HB2 := Lib.hid ((HB1.out.trans (hb2.mono hz1)).alloc (by omega) (.cells #[.int .i64 (F : Int), .int .i64 3, .int .i64 2, .int .i64 5] 104))
  have HX2 := Lib.hid ((HX1.out.call hb2).alloc (.cells #[.int .i64 (F : Int), .int .i64 3, .int .i64 2, .int .i64 5] 104))
  have hz2 := HB2.out.size
  obtain ⟨x0, x1, x2, x3, -⟩ := Box.facts4 HX2.out
  clear hb2
  rcases hl with hl | ⟨hl, hl2⟩
  · have hd6 : decide ((60 : Int) < (L.length : Int)) = true := by simp; omega
    go_wp2_with fail
    refine (HAW.out _).mono ?_
    rintro e w3 ⟨rfl, hb3⟩
    go_wp2
    go_ret
    exact ⟨rfl, HB2.out.trans (hb3.mono hz2)⟩
  · have hd6 : decide ((60 : Int) < (L.length : Int)) = false := by simp; omega
    have hd7 : decide ((60 : Int) < (M.length : Int)) = true := by simp; omega
    go_wp2_with fail
    refine (HAW.out _).mono ?_
    rintro e w3 ⟨rfl, hb3⟩
    go_wp2
    go_ret
    exact ⟨rfl, HB2.out.trans (hb3.mono hz2)⟩
theorem clientOther_calls (fl : Int) (A : Option Addr) (c : Nat) (L : List Rc) (B : Option Addr) (d : Nat) (M : List Rc) (sq certs spoil : Int) (key asked : ByteArray) (W : World) (hs : RcS W A c L) (hs2 : RcS W B d M) (hsq : -9223372036854775808 ≤ sq ∧ sq ≤ 9223372036854775807) (hce : -9223372036854775808 ≤ certs ∧ certs ≤ 9223372036854775807) :
    Calls Try.prog 32 #[.int .i64 fl, .agg #[.slice A L.length c, .int .i64 sq, .int .i64 certs, .int .i64 spoil], .slice B M.length d, .string key, .string asked] W fun e w' => e = .returned (.bool true) ∧ Below W.heap.size W w' := by
  rcases Nat.lt_or_ge 60 L.length with h | h
  · exact clientOther_many fl A c L B d M sq certs spoil key asked W hs.fits hs2.fits (.inl h)
  · rcases Nat.lt_or_ge 60 M.length with h2 | h2
    · exact clientOther_many fl A c L B d M sq certs spoil key asked W hs.fits hs2.fits (.inr ⟨h, h2⟩)
    · exact clientOther_few fl A c L B d M sq certs spoil key asked W hs hs2 h h2 hsq hce
end Go.Proofs.Ytfgpchffkpomoaa
