/- A proof is taken just if enough replicas signed its root at that number, and tells then what there is: the walk. -/
import Derived.Test.YtfgpchffkpomoaaLight3
import Derived.Test.YtfgpchffkpomoaaCVerifies
import Derived.Test.YtfgpchffkpomoaaPast
namespace Go.Proofs.Ytfgpchffkpomoaa
set_option linter.unusedSimpArgs false
set_option linter.unusedVariables false
open Go.RowKit

theorem truth_split {l : List Rc} {key v : ByteArray} {has : Bool} (h : truthP l key v has = true) : (atP l key = none → has = false ∧ v = ⟨#[]⟩) ∧ ∀ x, atP l key = some x → has = true ∧ v = x.val := by
  unfold truthP at h
  constructor
  · intro hn
    rw [hn] at h
    simpa using h
  · intro x hx
    rw [hx] at h
    simpa using h

set_option maxHeartbeats 8000000 in
set_option maxRecDepth 100000 in
theorem clientLight_cut (fl : Int) (A : Option Addr) (c : Nat) (L : List Rc) (n0 : Nat) (sq certs spoil : Int) (key : ByteArray) (W : World) (hs : RcS W A c L) (hl : L.length ≤ 60) (hn : (n0 = L.length ∧ n0 ≤ 60) ∨ (60 < n0 ∧ L.length = 60 ∧ n0 ≤ c)) (hnf : n0 ≤ 9223372036854775807) (hA : n0 = 0 ∨ ∃ a, A = some a) (hsq : -9223372036854775808 ≤ sq ∧ sq ≤ 9223372036854775807) (hce : -9223372036854775808 ≤ certs ∧ certs ≤ 9223372036854775807) :
    Calls Try.prog 31 #[.int .i64 fl, .agg #[.slice A n0 c, .int .i64 sq, .int .i64 certs, .int .i64 spoil], .string key] W fun e w' => e = .returned (.bool true) ∧ Below W.heap.size W w' := by
  have HN := Lib.hid (fun w => newBook_calls w)
  unfold NewPost at HN
  have HCF := Lib.hid (fun w => config_calls fl w)
  have hF := faultsN_le fl
  obtain ⟨F, hFF⟩ : ∃ F, F = faultsN fl := ⟨_, rfl⟩
  rw [← hFF] at HCF hF
  have HAW := Lib.hid (fun w => awake12_calls w)
  have HSL := Lib.hid hs
  have HCE := Lib.hid hce
  have hA0 := (Below.refl W.heap.size W).alloc (Nat.le_refl _) (.cells #[.slice A n0 c, .int .i64 sq, .int .i64 certs, .int .i64 spoil] 157)
  obtain ⟨W0, hW0⟩ : ∃ W0, W0 = W.alloc (.cells #[.slice A n0 c, .int .i64 sq, .int .i64 certs, .int .i64 spoil] 157) := ⟨_, rfl⟩
  have HB0 := Lib.hid (show Below W.heap.size W W0 by rw [hW0]; exact hA0)
  have HX0 := Lib.hid (show Box W0 W.heap.size #[.slice A n0 c, .int .i64 sq, .int .i64 certs, .int .i64 spoil] 157 by rw [hW0]; exact Box.new W _ _)
  have HWW := Lib.hid hW0
  have hz0 := HB0.out.size
  have hW0z : W.heap.size < W0.heap.size := HX0.out.lt
  clear hs hce hA0 hW0 hFF
  go_enter Try.func31, Try.ntmps31
  go_wp2_with fail
  rw [← HWW.out]
  refine (HN.out _).mono ?_
  rintro e w1 ⟨b, t, m, n, rfl, hb1, hk1, hb, ht, hm, hn'⟩
  have HB1 := Lib.hid (HB0.out.trans (hb1.mono hz0))
  have hz1 := HB1.out.size
  have HK1 := Lib.hid hk1
  have HX1 := Lib.hid (HX0.out.call hb1)
  clear hb1 hk1
  go_wp2_with fail
  refine (HCF.out _).mono ?_
  rintro e w2 ⟨rfl, hb2⟩
  have hal := (Below.refl w2.heap.size w2).alloc (Nat.le_refl _) (.cells #[.int .i64 (F : Int), .int .i64 3, .int .i64 2, .int .i64 5] 104)
  have hz12 := hb2.size
  obtain ⟨W2, hW2⟩ : ∃ W2, W2 = w2.alloc (.cells #[.int .i64 (F : Int), .int .i64 3, .int .i64 2, .int .i64 5] 104) := ⟨_, rfl⟩
  have HB2 := Lib.hid (show Below W.heap.size W W2 by rw [hW2]; exact (HB1.out.trans (hb2.mono hz1)).trans (hal.mono (by omega)))
  have HK2 := Lib.hid (show Bk W2 b t m n [] [] by rw [hW2]; exact (HK1.out.below hb2).below hal)
  have HX2 := Lib.hid (show Box W2 W.heap.size #[.slice A n0 c, .int .i64 sq, .int .i64 certs, .int .i64 spoil] 157 by rw [hW2]; exact (HX1.out.call hb2).alloc _)
  have HG2 := Lib.hid (show Box W2 w2.heap.size #[.int .i64 (F : Int), .int .i64 3, .int .i64 2, .int .i64 5] 104 by rw [hW2]; exact Box.new w2 _ _)
  have hz2 := HB2.out.size
  have hm2 := (HK1.out.below hb2).tm.lt
  have hn2 := (HK1.out.below hb2).wm.lt
  have hb2l := (HK1.out.below hb2).lt
  have hWw2 : W.heap.size < w2.heap.size := by omega
  have hne2 : w2.heap.size ≠ W.heap.size := by omega
  have HW2 := Lib.hid hW2
  obtain ⟨x0, x1, x2, x3, -⟩ := Box.facts4 HX2.out
  obtain ⟨k0, k1, k2, k3, -⟩ := Box.facts4 HG2.out
  have z0 := HX2.out.free 0
  rw [hW2] at x0 x1 x2 x3 k0 k1 k2 k3 z0
  have HXw := Lib.hid (HX1.out.call hb2)
  have HSV : Hid (∀ V : Value, Below W.heap.size W ((w2.setCell ⟨W.heap.size, 0, none⟩ V).alloc (.cells #[.int .i64 (F : Int), .int .i64 3, .int .i64 2, .int .i64 5] 104)) ∧ Bk ((w2.setCell ⟨W.heap.size, 0, none⟩ V).alloc (.cells #[.int .i64 (F : Int), .int .i64 3, .int .i64 2, .int .i64 5] 104)) b t m n [] [] ∧ Box ((w2.setCell ⟨W.heap.size, 0, none⟩ V).alloc (.cells #[.int .i64 (F : Int), .int .i64 3, .int .i64 2, .int .i64 5] 104)) W.heap.size #[V, .int .i64 sq, .int .i64 certs, .int .i64 spoil] 157 ∧ Box ((w2.setCell ⟨W.heap.size, 0, none⟩ V).alloc (.cells #[.int .i64 (F : Int), .int .i64 3, .int .i64 2, .int .i64 5] 104)) w2.heap.size #[.int .i64 (F : Int), .int .i64 3, .int .i64 2, .int .i64 5] 104) := by
    refine Lib.hid fun V => ?_
    have hsz : (w2.setCell ⟨W.heap.size, 0, none⟩ V).heap.size = w2.heap.size := by simp
    refine ⟨((HB1.out.trans (hb2.mono hz1)).setCell (Nat.le_refl _) V).alloc (by rw [hsz]; omega) _, ((HK1.out.below hb2).setCell (p := ⟨W.heap.size, 0, none⟩) ⟨by simp only; omega, by simp only; omega, by simp only; omega, by simp only; omega⟩ V).alloc _, (HXw.out.set 0 V).alloc _, ?_⟩
    have h := Box.new (w2.setCell ⟨W.heap.size, 0, none⟩ V) #[.int .i64 (F : Int), .int .i64 3, .int .i64 2, .int .i64 5] 104
    rw [hsz] at h
    exact h
  clear hb2 hal hW2
  have HSH : Hid (∀ w, Bk w b t m n [] [] → RcS w A c L → Calls Try.prog 90 #[.pointer (some ⟨b, 0, none⟩), .int .i64 (F : Int), .agg #[.slice A L.length c, .int .i64 sq, .int .i64 certs, .int .i64 spoil], .string key] w (ShownPost w b t m n F L sq key)) :=
    Lib.hid (fun w hb hs => shown12_calls b t m n F A c L sq certs spoil key w hF hb hs hl (off_nw HSL.out (by omega)) hsq HCE.out)
  have HKM := Lib.hid (show m ≠ w2.heap.size ∧ n ≠ w2.heap.size from ⟨by omega, by omega⟩)
  have HMN := Lib.hid (show W.heap.size ≤ m ∧ W.heap.size ≤ n from ⟨by omega, by omega⟩)
  have HOM := Lib.hid (off_nw (m := m) HSL.out (by omega))
  rcases hn with ⟨hnl, hn⟩ | ⟨hn, hL6, hnc⟩
  · have hd6 : decide ((60 : Int) < (n0 : Int)) = false := by simp; omega
    have H6 := Lib.hid hnl
    clear hnl
    go_wp2_with fail
    rw [← HW2.out]
    obtain ⟨W3, hW3⟩ : ∃ W3, W3 = W2 := ⟨_, rfl⟩
    have HT3 := Lib.hid (show Below W.heap.size W W3 ∧ Bk W3 b t m n [] [] ∧ Box W3 W.heap.size #[.slice A L.length c, .int .i64 sq, .int .i64 certs, .int .i64 spoil] 157 ∧ Box W3 w2.heap.size #[.int .i64 (F : Int), .int .i64 3, .int .i64 2, .int .i64 5] 104 by rw [hW3, ← H6.out]; exact ⟨HB2.out, HK2.out, HX2.out, HG2.out⟩)
    rw [← hW3, H6.out]
    clear hW3 H6 hd6 hnf hA hn x0 x1 x2 x3 k0 k1 k2 k3 z0
    refine (HSH.out _ HT3.out.2.1 (HSL.out.below HT3.out.1)).mono ?_
    rintro e w4 ⟨T, S, out, good, ok, rfl, hsh, hT, hS, ch4, hk4⟩
    have HSHN := Lib.hid hsh.out
    have HC4 := Lib.hid ((Ch.of_below (S := fun _ => False) HT3.out.1).step ch4 HT3.out.1.size (fun i hi e => by have := HMN.out; omega))
    have HK4 := Lib.hid hk4
    have HX4 := Lib.hid (Box.ch HT3.out.2.2.1 ch4 HT3.out.2.2.1.lt (by have := HMN.out; have := HT3.out.2.2.1.lt; omega))
    have HG4 := Lib.hid (Box.ch HT3.out.2.2.2 ch4 HT3.out.2.2.2.lt (by have := HT3.out.2.2.2.lt; omega))
    have hz4 := HC4.out.size
    have hw24 : w2.heap.size < w4.heap.size := HG4.out.lt
    have HRS4 := Lib.hid (HSL.out.below (HC4.out.below (fun _ _ e => e)))
    clear hsh ch4 hk4
    obtain ⟨x0, x1, x2, x3, -⟩ := Box.facts4 HX4.out
    obtain ⟨k0, k1, k2, k3, -⟩ := Box.facts4 HG4.out
    cases ok with
    | false =>
      go_wp2_with fail
      refine (HAW.out _).mono ?_
      rintro e w5 ⟨rfl, hb5⟩
      go_wp2
      go_ret
      exact ⟨rfl, (HC4.out.step (Ch.of_below (S := fun _ => False) hb5) hz4 (fun _ _ e => e)).below (fun _ _ e => e)⟩
    | true =>
      obtain ⟨g, rfl, hg3, hsn⟩ := HSHN.out rfl
      obtain ⟨sg, tt, l, hpt⟩ := hsn.part
      have HSN := Lib.hid hsn
      have HPT := Lib.hid hpt
      have hos := hpt.size
      clear hsn hpt HSHN
      by_cases hgF : g ≤ F
      · have hdg : decide (g ≤ F) = true := by simpa using hgF
        have HVN := Lib.hid (verifyNo_calls F 3 2 5 b t m n T S key out 30 w4 HK4.out (by omega) (by omega) hos (by unfold fitsC; simp; omega) hF.2 (HPT.out.few hgF) (by decide))
        have heq : ∀ w, (Op.equalIn 10000 149 (.agg #[.int .i64 0, .string ⟨#[]⟩, .bool false]) (.agg #[.int .i64 0, .string ⟨#[]⟩, .bool false])).run Try.prog w = .ok true w := fun w => eqLight w
        go_wp2_with fail
        refine HVN.out.mono ?_
        rintro e w5 ⟨rfl, T5, e5, l5, ch5, hk5⟩
        have HC5 := Lib.hid ((HC4.out.step ch5 hz4 (fun i hi e => by have := HMN.out; omega)).alloc (by have := ch5.size; omega) (.cells #[.int .i64 0, .string ⟨#[]⟩, .bool false] 149))
        have hz5 := HC5.out.size
        have HG5 := Lib.hid ((Box.ch HG4.out ch5 HG4.out.lt (by omega)).alloc (.cells #[.int .i64 0, .string ⟨#[]⟩, .bool false] 149))
        have HL5 := Lib.hid (Box.new w5 #[.int .i64 0, .string ⟨#[]⟩, .bool false] 149)
        clear ch5 hk5 e5 x0 x1 x2 x3 k0 k1 k2 k3 hgF
        obtain ⟨k0, k1, k2, k3, -⟩ := Box.facts4 HG5.out
        obtain ⟨l0, l1, l2, -⟩ := Box.facts3 HL5.out
        go_wp2_with fail
        refine (HAW.out _).mono ?_
        rintro e w6 ⟨rfl, hb6⟩
        go_wp2
        go_ret
        exact ⟨rfl, (HC5.out.step (Ch.of_below (S := fun _ => False) hb6) hz5 (fun _ _ e => e)).below (fun _ _ e => e)⟩
      · have hdg : decide (g ≤ F) = false := by simpa using hgF
        obtain ⟨seq, hseq⟩ : ∃ s : Int, s = 4 * (1 + (rnd sq 100 : Nat)) := ⟨_, rfl⟩
        have HSQ := Lib.hid hseq
        have hrs := rnd_lt sq (m := 100) (by decide)
        have hgv : F < (votersS S 5 0 seq (rootP (hh T) L) (3 * F + 1) l []).length := by have := HPT.out.ok.voters; rw [← hseq] at this; omega
        have hop : openE S sg = (showB seq (rootP (hh T) L) tt l, 0) := by have := HPT.out.ok.opens; rw [← hseq] at this; exact this
        have HVY := Lib.hid (verifyYes_calls F 3 2 5 b t m n T S key out sg (showB seq (rootP (hh T) L) tt l) (L.length : Nat) (proofP (hh T) L key) w4 HK4.out (by omega) (by omega) hos (by unfold fitsC; simp; omega) hF.2 HPT.out.reads hop rfl hgv HPT.out.proof)
        have HAR := Lib.hid (fun w => around12_calls sq 100 w (by decide) (by decide))
        unfold RndPost at HAR
        obtain ⟨rs, hrs2⟩ : ∃ K, K = rnd sq 100 := ⟨_, rfl⟩
        rw [← hrs2] at HAR hrs hseq
        have hw5 : IntKind.i64.wrap (1 + (rs : Int)) = 1 + (rs : Int) := wrap_near _ (by omega) (by omega)
        have hw6 : IntKind.i64.wrap (4 * (1 + (rs : Int))) = 4 * (1 + (rs : Int)) := wrap_near _ (by omega) (by omega)
        have HTR := Lib.hid (fun T' (he : Ext T T') (hT2 : T'.length ≤ T.length + 101) v has cd h1 h2 => shown_true (v := v) (has := has) (cd := cd) he (by omega) HSN.out.rise HSN.out.fits HSN.out.root h1 h2)
        have HAT := Lib.hid (fun w hs => at_calls A c L key w hs (by omega))
        have HSE := Lib.hid (show seq = 4 * (1 + (rs : Int)) from hseq)
        clear hrs2 hseq hgv hop hgF
        go_wp2_with fail
        refine HVY.out.mono ?_
        rintro e w5 ⟨T5, v, has, cd, rfl, hv1, hv2, e5, l5, ch5, hk5⟩
        obtain ⟨hcd, htr⟩ := HTR.out T5 e5 l5 v has cd hv1.out hv2.out
        subst hcd
        rw [if_pos rfl, show (showB seq (rootP (hh T) L) tt l).seq = 4 * (1 + (rs : Int)) from HSE.out]
        obtain ⟨W5, hW5⟩ : ∃ W5, W5 = w5.alloc (.cells #[.int .i64 (4 * (1 + (rs : Int))), .string v, .bool has] 149) := ⟨_, rfl⟩
        have HC5 := Lib.hid (show Ch W.heap.size (fun _ => False) W W5 by rw [hW5]; exact (HC4.out.step ch5 hz4 (fun i hi e => by have := HMN.out; omega)).alloc (by have := ch5.size; omega) _)
        have hz5 := HC5.out.size
        have HX5 := Lib.hid (show Box W5 W.heap.size #[.slice A L.length c, .int .i64 sq, .int .i64 certs, .int .i64 spoil] 157 by rw [hW5]; exact (Box.ch HX4.out ch5 HX4.out.lt (by have := HMN.out; omega)).alloc _)
        have HL5 := Lib.hid (show Box W5 w5.heap.size #[.int .i64 (4 * (1 + (rs : Int))), .string v, .bool has] 149 by rw [hW5]; exact Box.new w5 _ _)
        have HG5 := Lib.hid (show Box W5 w2.heap.size #[.int .i64 (F : Int), .int .i64 3, .int .i64 2, .int .i64 5] 104 by rw [hW5]; exact (Box.ch HG4.out ch5 HG4.out.lt (by have := HK4.out.tm.lt; have := HMN.out; have := HKM.out; omega)).alloc _)
        have HRS5 := Lib.hid (HRS4.out.off ch5 HOM.out)
        have HRS5 := Lib.hid (show RcS W5 A c L by rw [hW5]; exact HRS5.out.below ((Below.refl w5.heap.size w5).alloc (Nat.le_refl _) _))
        have HATT := Lib.hid (HAT.out W5 HRS5.out)
        obtain ⟨ht1, ht2⟩ := truth_split htr
        have HT1 := Lib.hid ht1
        have HT2 := Lib.hid ht2
        have hWW5 := Lib.hid hW5
        clear ch5 hk5 e5 hv1 hv2 htr ht1 ht2 x0 x1 x2 x3 k0 k1 k2 k3
        obtain ⟨x0, x1, x2, x3, -⟩ := Box.facts4 HX5.out
        obtain ⟨l0, l1, l2, -⟩ := Box.facts3 HL5.out
        obtain ⟨k0, -⟩ := Box.facts4 HG5.out
        rw [hW5] at x0 x1 x2 x3 l0 l1 l2 k0
        clear hW5
        go_wp2_with fail
        rw [← hWW5.out] at *
        refine HATT.out.mono ?_
        rintro e wx ⟨r, rfl, hw, hrr⟩
        subst hw
        rcases hrr.out with ⟨rfl, hn0⟩ | ⟨i, xr, rfl, hxr, hn0⟩
        · obtain ⟨rfl, rfl⟩ := HT1.out hn0
          clear hrr hn0 HT1 HT2
          go_wp2_with fail
          go_quiet (first | (go_at_call 71; exact Calls.quiet_of_same ((HAR.out _).mono (fun _ _ h => ⟨h.1, h.2.symm⟩))))
          have HCN := Lib.hid (HC5.out.drewN nq)
          have hLN := HL5.out.drewN nq
          have hzN := HCN.out.size
          obtain ⟨WN, hWN⟩ : ∃ WN, WN = wx.drewN nq := ⟨_, rfl⟩
          rw [← hWN] at HCN hLN hzN ⊢
          clear hWN x0 x1 x2 x3 l0 l1 l2 k0
          obtain ⟨l0, l1, l2, -⟩ := Box.facts3 hLN
          go_wp2_with fail
          obtain ⟨p0, p1, p2, -⟩ := Box.facts3 hLN.drew
          refine AnyP.start [] (fun w' => w'.cell? ⟨w5.heap.size, 1, none⟩ = some (.string ⟨#[]⟩)) (by kernel_rfl) p1 (n := 26) (listed := #[false, false, false, false, false, false, false, false, false, false, false, false, false, false, false, false, false, false, false, false, false, false, false, false, false, false]) (by kernel_rfl) (by kernel_rfl) (fun hHeld => ?_)
          refine AnyP.take (i := 0) (fuel := 25) (d := some 84) (listed' := #[true, false, false, false, false, false, false, false, false, false, false, false, false, false, false, false, false, false, false, false, false, false, false, false, false, false]) (oi := _) (v := ?v0na) rfl (by kernel_rfl) (by kernel_rfl) (by kernel_rfl) (fun _ _ _ h => h) (Or.inl ⟨by rfl, ?hy0na⟩) (by rfl) (by rfl) ?rest0na
          case hy0na => intro w; go_simp; try with_reducible rfl
          try simp only [Act.put, List.setIfInBounds_toArray, List.set_cons_zero, List.set_cons_succ]
          refine AnyP.take (i := 1) (fuel := 24) (d := some 85) (listed' := #[true, true, false, false, false, false, false, false, false, false, false, false, false, false, false, false, false, false, false, false, false, false, false, false, false, false]) (oi := _) (v := ?v1na) rfl (by kernel_rfl) (by kernel_rfl) (by kernel_rfl) (fun _ _ _ h => h) (Or.inl ⟨by rfl, ?hy1na⟩) (by rfl) (by rfl) ?rest1na
          case hy1na => intro w; go_simp; try with_reducible rfl
          try simp only [Act.put, List.setIfInBounds_toArray, List.set_cons_zero, List.set_cons_succ]
          refine AnyP.take (i := 2) (fuel := 23) (d := some 86) (listed' := #[true, true, true, false, false, false, false, false, false, false, false, false, false, false, false, false, false, false, false, false, false, false, false, false, false, false]) (oi := _) (v := ?v2na) rfl (by kernel_rfl) (by kernel_rfl) (by kernel_rfl) (fun _ _ _ h => h) (Or.inl ⟨by rfl, ?hy2na⟩) (by rfl) (by rfl) ?rest2na
          case hy2na => intro w; go_simp; try with_reducible rfl
          try simp only [Act.put, List.setIfInBounds_toArray, List.set_cons_zero, List.set_cons_succ]
          refine AnyP.take (i := 3) (fuel := 22) (d := some 87) (listed' := #[true, true, true, true, false, false, false, false, false, false, false, false, false, false, false, false, false, false, false, false, false, false, false, false, false, false]) (oi := _) (v := ?v3na) rfl (by kernel_rfl) (by kernel_rfl) (by kernel_rfl) (fun _ _ _ h => h) (Or.inl ⟨by rfl, ?hy3na⟩) (by rfl) (by rfl) ?rest3na
          case hy3na => intro w; go_simp; try with_reducible rfl
          try simp only [Act.put, List.setIfInBounds_toArray, List.set_cons_zero, List.set_cons_succ]
          refine AnyP.load (i := 4) (fuel := 21) (d := some 88) (listed' := #[true, true, true, true, true, false, false, false, false, false, false, false, false, false, false, false, false, false, false, false, false, false, false, false, false, false]) (oi := _) (v := ?v4na) [] rfl (by kernel_rfl) (by kernel_rfl) (by kernel_rfl) (by kernel_rfl) (by kernel_rfl) (by kernel_rfl) (fun _ _ _ h => h) (Or.inl ⟨by rfl, ?hy4na⟩) hHeld (by rfl) (by rfl) ?rest4na
          case hy4na => intro w hSw; (try dsimp only at hSw); go_simp; try with_reducible rfl
          try simp only [Act.put, List.setIfInBounds_toArray, List.set_cons_zero, List.set_cons_succ]
          refine AnyP.take (i := 5) (fuel := 20) (d := some 89) (listed' := #[true, true, true, true, true, true, false, false, false, false, false, false, false, false, false, false, false, false, false, false, false, false, false, false, false, false]) (oi := _) (v := ?v5na) rfl (by kernel_rfl) (by kernel_rfl) (by kernel_rfl) (fun _ _ _ h => h) (Or.inl ⟨by rfl, ?hy5na⟩) (by rfl) (by rfl) ?rest5na
          case hy5na => intro w; go_simp; try with_reducible rfl
          try simp only [Act.put, List.setIfInBounds_toArray, List.set_cons_zero, List.set_cons_succ]
          refine AnyP.take (i := 6) (fuel := 19) (d := some 90) (listed' := #[true, true, true, true, true, true, true, false, false, false, false, false, false, false, false, false, false, false, false, false, false, false, false, false, false, false]) (oi := _) (v := ?v6na) rfl (by kernel_rfl) (by kernel_rfl) (by kernel_rfl) (fun _ _ _ h => h) (Or.inl ⟨by rfl, ?hy6na⟩) (by rfl) (by rfl) ?rest6na
          case hy6na => intro w; go_simp; try with_reducible rfl
          try simp only [Act.put, List.setIfInBounds_toArray, List.set_cons_zero, List.set_cons_succ]
          refine AnyP.take (i := 7) (fuel := 18) (d := some 91) (listed' := #[true, true, true, true, true, true, true, true, false, false, false, false, false, false, false, false, false, false, false, false, false, false, false, false, false, false]) (oi := _) (v := ?v7na) rfl (by kernel_rfl) (by kernel_rfl) (by kernel_rfl) (fun _ _ _ h => h) (Or.inl ⟨by rfl, ?hy7na⟩) (by rfl) (by rfl) ?rest7na
          case hy7na => intro w; go_simp; try with_reducible rfl
          try simp only [Act.put, List.setIfInBounds_toArray, List.set_cons_zero, List.set_cons_succ]
          refine AnyP.take (i := 8) (fuel := 17) (d := some 92) (listed' := #[true, true, true, true, true, true, true, true, true, false, false, false, false, false, false, false, false, false, false, false, false, false, false, false, false, false]) (oi := _) (v := undef) rfl (by kernel_rfl) (by kernel_rfl) (by kernel_rfl) (fun _ _ _ h => h) (Or.inr ⟨by rfl, rfl⟩) (by rfl) (by rfl) ?rest8na
          try simp only [Act.put, List.setIfInBounds_toArray, List.set_cons_zero, List.set_cons_succ]
          refine AnyP.take (i := 9) (fuel := 16) (d := some 93) (listed' := #[true, true, true, true, true, true, true, true, true, true, false, false, false, false, false, false, false, false, false, false, false, false, false, false, false, false]) (oi := _) (v := undef) rfl (by kernel_rfl) (by kernel_rfl) (by kernel_rfl) (fun _ _ _ h => h) (Or.inr ⟨by rfl, rfl⟩) (by rfl) (by rfl) ?rest9na
          try simp only [Act.put, List.setIfInBounds_toArray, List.set_cons_zero, List.set_cons_succ]
          refine AnyP.take (i := 10) (fuel := 15) (d := some 94) (listed' := #[true, true, true, true, true, true, true, true, true, true, true, false, false, false, false, false, false, false, false, false, false, false, false, false, false, false]) (oi := _) (v := undef) rfl (by kernel_rfl) (by kernel_rfl) (by kernel_rfl) (fun _ _ _ h => h) (Or.inr ⟨by rfl, rfl⟩) (by rfl) (by rfl) ?rest10na
          try simp only [Act.put, List.setIfInBounds_toArray, List.set_cons_zero, List.set_cons_succ]
          refine AnyP.take (i := 11) (fuel := 14) (d := some 95) (listed' := #[true, true, true, true, true, true, true, true, true, true, true, true, false, false, false, false, false, false, false, false, false, false, false, false, false, false]) (oi := _) (v := undef) rfl (by kernel_rfl) (by kernel_rfl) (by kernel_rfl) (fun _ _ _ h => h) (Or.inr ⟨by rfl, rfl⟩) (by rfl) (by rfl) ?rest11na
          try simp only [Act.put, List.setIfInBounds_toArray, List.set_cons_zero, List.set_cons_succ]
          refine AnyP.take (i := 12) (fuel := 13) (d := some 96) (listed' := #[true, true, true, true, true, true, true, true, true, true, true, true, true, false, false, false, false, false, false, false, false, false, false, false, false, false]) (oi := _) (v := undef) rfl (by kernel_rfl) (by kernel_rfl) (by kernel_rfl) (fun _ _ _ h => h) (Or.inr ⟨by rfl, rfl⟩) (by rfl) (by rfl) ?rest12na
          try simp only [Act.put, List.setIfInBounds_toArray, List.set_cons_zero, List.set_cons_succ]
          refine AnyP.take (i := 13) (fuel := 12) (d := some 97) (listed' := #[true, true, true, true, true, true, true, true, true, true, true, true, true, true, false, false, false, false, false, false, false, false, false, false, false, false]) (oi := _) (v := undef) rfl (by kernel_rfl) (by kernel_rfl) (by kernel_rfl) (fun _ _ _ h => h) (Or.inr ⟨by rfl, rfl⟩) (by rfl) (by rfl) ?rest13na
          try simp only [Act.put, List.setIfInBounds_toArray, List.set_cons_zero, List.set_cons_succ]
          refine AnyP.take (i := 14) (fuel := 11) (d := some 98) (listed' := #[true, true, true, true, true, true, true, true, true, true, true, true, true, true, true, false, false, false, false, false, false, false, false, false, false, false]) (oi := _) (v := undef) rfl (by kernel_rfl) (by kernel_rfl) (by kernel_rfl) (fun _ _ _ h => h) (Or.inr ⟨by rfl, rfl⟩) (by rfl) (by rfl) ?rest14na
          try simp only [Act.put, List.setIfInBounds_toArray, List.set_cons_zero, List.set_cons_succ]
          refine AnyP.take (i := 15) (fuel := 10) (d := some 99) (listed' := #[true, true, true, true, true, true, true, true, true, true, true, true, true, true, true, true, false, false, false, false, false, false, false, false, false, false]) (oi := _) (v := undef) rfl (by kernel_rfl) (by kernel_rfl) (by kernel_rfl) (fun _ _ _ h => h) (Or.inr ⟨by rfl, rfl⟩) (by rfl) (by rfl) ?rest15na
          try simp only [Act.put, List.setIfInBounds_toArray, List.set_cons_zero, List.set_cons_succ]
          refine AnyP.take (i := 16) (fuel := 9) (d := some 100) (listed' := #[true, true, true, true, true, true, true, true, true, true, true, true, true, true, true, true, true, false, false, false, false, false, false, false, false, false]) (oi := _) (v := undef) rfl (by kernel_rfl) (by kernel_rfl) (by kernel_rfl) (fun _ _ _ h => h) (Or.inr ⟨by rfl, rfl⟩) (by rfl) (by rfl) ?rest16na
          try simp only [Act.put, List.setIfInBounds_toArray, List.set_cons_zero, List.set_cons_succ]
          refine AnyP.take (i := 17) (fuel := 8) (d := some 101) (listed' := #[true, true, true, true, true, true, true, true, true, true, true, true, true, true, true, true, true, true, false, false, false, false, false, false, false, false]) (oi := _) (v := undef) rfl (by kernel_rfl) (by kernel_rfl) (by kernel_rfl) (fun _ _ _ h => h) (Or.inr ⟨by rfl, rfl⟩) (by rfl) (by rfl) ?rest17na
          try simp only [Act.put, List.setIfInBounds_toArray, List.set_cons_zero, List.set_cons_succ]
          refine AnyP.take (i := 18) (fuel := 7) (d := some 102) (listed' := #[true, true, true, true, true, true, true, true, true, true, true, true, true, true, true, true, true, true, true, false, false, false, false, false, false, false]) (oi := _) (v := undef) rfl (by kernel_rfl) (by kernel_rfl) (by kernel_rfl) (fun _ _ _ h => h) (Or.inr ⟨by rfl, rfl⟩) (by rfl) (by rfl) ?rest18na
          try simp only [Act.put, List.setIfInBounds_toArray, List.set_cons_zero, List.set_cons_succ]
          refine AnyP.take (i := 19) (fuel := 6) (d := some 103) (listed' := #[true, true, true, true, true, true, true, true, true, true, true, true, true, true, true, true, true, true, true, true, false, false, false, false, false, false]) (oi := _) (v := undef) rfl (by kernel_rfl) (by kernel_rfl) (by kernel_rfl) (fun _ _ _ h => h) (Or.inr ⟨by rfl, rfl⟩) (by rfl) (by rfl) ?rest19na
          try simp only [Act.put, List.setIfInBounds_toArray, List.set_cons_zero, List.set_cons_succ]
          refine AnyP.take (i := 20) (fuel := 5) (d := some 104) (listed' := #[true, true, true, true, true, true, true, true, true, true, true, true, true, true, true, true, true, true, true, true, true, false, false, false, false, false]) (oi := _) (v := undef) rfl (by kernel_rfl) (by kernel_rfl) (by kernel_rfl) (fun _ _ _ h => h) (Or.inr ⟨by rfl, rfl⟩) (by rfl) (by rfl) ?rest20na
          try simp only [Act.put, List.setIfInBounds_toArray, List.set_cons_zero, List.set_cons_succ]
          refine AnyP.take (i := 21) (fuel := 4) (d := some 105) (listed' := #[true, true, true, true, true, true, true, true, true, true, true, true, true, true, true, true, true, true, true, true, true, true, false, false, false, false]) (oi := _) (v := ?v21na) rfl (by kernel_rfl) (by kernel_rfl) (by kernel_rfl) (fun _ _ _ h => h) (Or.inl ⟨by rfl, ?hy21na⟩) (by rfl) (by rfl) ?rest21na
          case hy21na => intro w; go_simp; try with_reducible rfl
          try simp only [Act.put, List.setIfInBounds_toArray, List.set_cons_zero, List.set_cons_succ]
          refine AnyP.take (i := 22) (fuel := 3) (d := some 106) (listed' := #[true, true, true, true, true, true, true, true, true, true, true, true, true, true, true, true, true, true, true, true, true, true, true, false, false, false]) (oi := _) (v := ?v22na) rfl (by kernel_rfl) (by kernel_rfl) (by kernel_rfl) (fun _ _ _ h => h) (Or.inl ⟨by rfl, ?hy22na⟩) (by rfl) (by rfl) ?rest22na
          case hy22na => intro w; go_simp; try with_reducible rfl
          try simp only [Act.put, List.setIfInBounds_toArray, List.set_cons_zero, List.set_cons_succ]
          refine AnyP.one (i := 23) (o := ?o23na) (fuel := 2) (listed' := #[true, true, true, true, true, true, true, true, true, true, true, true, true, true, true, true, true, true, true, true, true, true, true, true, false, false]) (by kernel_rfl) ?ho23na (by rfl) (fun K' hK' => ?step23na)
          case ho23na => simp only [List.getElem?_toArray, List.getElem?_cons_succ, List.getElem?_cons_zero]; rfl
          go_simp
          go_at_call 67
          refine (HAW.out _).mono ?_
          rintro e wb ⟨rfl, hbb⟩
          go_wp2_with fail
          refine hK'.out _ _ (fun _ => (Box.facts3 (hLN.drew.call hbb)).2.1) (fun hHeld => ?_)
          clear hK' K'
          try simp only [Act.put, List.setIfInBounds_toArray, List.set_cons_zero, List.set_cons_succ]
          refine AnyP.take (i := 24) (fuel := 1) (d := some 108) (listed' := #[true, true, true, true, true, true, true, true, true, true, true, true, true, true, true, true, true, true, true, true, true, true, true, true, true, false]) (oi := _) (v := ?v24na) rfl (by kernel_rfl) (by kernel_rfl) (by kernel_rfl) (fun _ _ _ h => h) (Or.inl ⟨by rfl, ?hy24na⟩) (by rfl) (by rfl) ?rest24na
          case hy24na => intro w; go_simp; try with_reducible rfl
          try simp only [Act.put, List.setIfInBounds_toArray, List.set_cons_zero, List.set_cons_succ]
          refine AnyP.take (i := 25) (fuel := 0) (d := some 6) (listed' := #[true, true, true, true, true, true, true, true, true, true, true, true, true, true, true, true, true, true, true, true, true, true, true, true, true, true]) (oi := _) (v := ?v25na) rfl (by kernel_rfl) (by kernel_rfl) (by kernel_rfl) (fun _ _ _ h => h) (Or.inl ⟨by rfl, ?hy25na⟩) (by rfl) (by rfl) ?rest25na
          case hy25na => intro w; go_simp; try with_reducible rfl
          try simp only [Act.put, List.setIfInBounds_toArray, List.set_cons_zero, List.set_cons_succ]
          refine AnyP.done (by kernel_rfl) ?_ _
          go_wp2
          go_ret
          exact ⟨rfl, (HCN.out.drew.step (Ch.of_below (S := fun _ => False) hbb) (by simpa using hzN) (fun _ _ e => e)).below (fun _ _ e => e)⟩
        · obtain ⟨rfl, rfl⟩ := HT2.out xr hn0
          have hi := (List.getElem?_eq_some_iff.1 hxr).1
          obtain ⟨a2, ha2, e0, e1⟩ := HRS5.out.elem i hi
          obtain rfl := ha2
          have hxe := (List.getElem?_eq_some_iff.1 hxr).2
          rw [hxe] at e0 e1
          have hge : decide ((0 : Int) ≤ (i : Int)) = true := by simp
          have hlt0 : decide ((i : Int) < 0) = false := by simp
          have hi0 : (0 : Int) ≤ (i : Int) := by omega
          have hi1 : (i : Int) < (L.length : Int) := by omega
          obtain ⟨xk, xv⟩ := xr
          simp only at e0 e1 l0 l1 l2 HL5 ⊢
          have HEV := Lib.hid e1
          clear hrr hn0 hxr hxe HT1 HT2 e0 e1
          go_wp2_with fail
          go_quiet (first | (go_at_call 71; exact Calls.quiet_of_same ((HAR.out _).mono (fun _ _ h => ⟨h.1, h.2.symm⟩))))
          have HCN := Lib.hid (HC5.out.drewN nq)
          have hLN := HL5.out.drewN nq
          have hXN := HX5.out.drewN nq
          have hzN := HCN.out.size
          have hvN : (wx.drewN nq).cell? ⟨(a2.add (i * 2)).block, (a2.add (i * 2)).off + 1, none⟩ = some (.string xv) := HEV.out
          obtain ⟨WN, hWN⟩ : ∃ WN, WN = wx.drewN nq := ⟨_, rfl⟩
          rw [← hWN] at HCN hLN hXN hzN hvN ⊢
          clear hWN x0 x1 x2 x3 l0 l1 l2 k0
          obtain ⟨l0, l1, l2, -⟩ := Box.facts3 hLN
          obtain ⟨x0, x1, x2, x3, -⟩ := Box.facts4 hXN
          go_wp2_with fail
          obtain ⟨p0, p1, p2, -⟩ := Box.facts3 hLN.drew
          obtain ⟨y0, -⟩ := Box.facts4 hXN.drew
          have hvD : WN.drew.cell? ⟨(a2.add (i * 2)).block, (a2.add (i * 2)).off + 1, none⟩ = some (.string xv) := hvN
          refine AnyP.start [] (fun w' => w'.cell? ⟨w5.heap.size, 1, none⟩ = some (.string xv) ∧ w'.cell? ⟨W.heap.size, 0, none⟩ = some (.slice (some a2) L.length c) ∧ w'.cell? ⟨(a2.add (i * 2)).block, (a2.add (i * 2)).off + 1, none⟩ = some (.string xv)) (by kernel_rfl) ⟨p1, y0, hvD⟩ (n := 26) (listed := #[false, false, false, false, false, false, false, false, false, false, false, false, false, false, false, false, false, false, false, false, false, false, false, false, false, false]) (by kernel_rfl) (by kernel_rfl) (fun hHeld => ?_)
          refine AnyP.take (i := 0) (fuel := 25) (d := some 84) (listed' := #[true, false, false, false, false, false, false, false, false, false, false, false, false, false, false, false, false, false, false, false, false, false, false, false, false, false]) (oi := _) (v := ?v0ya) rfl (by kernel_rfl) (by kernel_rfl) (by kernel_rfl) (fun _ _ _ h => h) (Or.inl ⟨by rfl, ?hy0ya⟩) (by rfl) (by rfl) ?rest0ya
          case hy0ya => intro w; go_simp; try with_reducible rfl
          try simp only [Act.put, List.setIfInBounds_toArray, List.set_cons_zero, List.set_cons_succ]
          refine AnyP.take (i := 1) (fuel := 24) (d := some 85) (listed' := #[true, true, false, false, false, false, false, false, false, false, false, false, false, false, false, false, false, false, false, false, false, false, false, false, false, false]) (oi := _) (v := ?v1ya) rfl (by kernel_rfl) (by kernel_rfl) (by kernel_rfl) (fun _ _ _ h => h) (Or.inl ⟨by rfl, ?hy1ya⟩) (by rfl) (by rfl) ?rest1ya
          case hy1ya => intro w; go_simp; try with_reducible rfl
          try simp only [Act.put, List.setIfInBounds_toArray, List.set_cons_zero, List.set_cons_succ]
          refine AnyP.take (i := 2) (fuel := 23) (d := some 86) (listed' := #[true, true, true, false, false, false, false, false, false, false, false, false, false, false, false, false, false, false, false, false, false, false, false, false, false, false]) (oi := _) (v := ?v2ya) rfl (by kernel_rfl) (by kernel_rfl) (by kernel_rfl) (fun _ _ _ h => h) (Or.inl ⟨by rfl, ?hy2ya⟩) (by rfl) (by rfl) ?rest2ya
          case hy2ya => intro w; go_simp; try with_reducible rfl
          try simp only [Act.put, List.setIfInBounds_toArray, List.set_cons_zero, List.set_cons_succ]
          refine AnyP.take (i := 3) (fuel := 22) (d := some 87) (listed' := #[true, true, true, true, false, false, false, false, false, false, false, false, false, false, false, false, false, false, false, false, false, false, false, false, false, false]) (oi := _) (v := undef) rfl (by kernel_rfl) (by kernel_rfl) (by kernel_rfl) (fun _ _ _ h => h) (Or.inr ⟨by rfl, rfl⟩) (by rfl) (by rfl) ?rest3ya
          try simp only [Act.put, List.setIfInBounds_toArray, List.set_cons_zero, List.set_cons_succ]
          refine AnyP.take (i := 4) (fuel := 21) (d := some 88) (listed' := #[true, true, true, true, true, false, false, false, false, false, false, false, false, false, false, false, false, false, false, false, false, false, false, false, false, false]) (oi := _) (v := undef) rfl (by kernel_rfl) (by kernel_rfl) (by kernel_rfl) (fun _ _ _ h => h) (Or.inr ⟨by rfl, rfl⟩) (by rfl) (by rfl) ?rest4ya
          try simp only [Act.put, List.setIfInBounds_toArray, List.set_cons_zero, List.set_cons_succ]
          refine AnyP.take (i := 5) (fuel := 20) (d := some 89) (listed' := #[true, true, true, true, true, true, false, false, false, false, false, false, false, false, false, false, false, false, false, false, false, false, false, false, false, false]) (oi := _) (v := undef) rfl (by kernel_rfl) (by kernel_rfl) (by kernel_rfl) (fun _ _ _ h => h) (Or.inr ⟨by rfl, rfl⟩) (by rfl) (by rfl) ?rest5ya
          try simp only [Act.put, List.setIfInBounds_toArray, List.set_cons_zero, List.set_cons_succ]
          refine AnyP.take (i := 6) (fuel := 19) (d := some 90) (listed' := #[true, true, true, true, true, true, true, false, false, false, false, false, false, false, false, false, false, false, false, false, false, false, false, false, false, false]) (oi := _) (v := ?v6ya) rfl (by kernel_rfl) (by kernel_rfl) (by kernel_rfl) (fun _ _ _ h => h) (Or.inl ⟨by rfl, ?hy6ya⟩) (by rfl) (by rfl) ?rest6ya
          case hy6ya => intro w; go_simp; try with_reducible rfl
          try simp only [Act.put, List.setIfInBounds_toArray, List.set_cons_zero, List.set_cons_succ]
          refine AnyP.take (i := 7) (fuel := 18) (d := some 91) (listed' := #[true, true, true, true, true, true, true, true, false, false, false, false, false, false, false, false, false, false, false, false, false, false, false, false, false, false]) (oi := _) (v := ?v7ya) rfl (by kernel_rfl) (by kernel_rfl) (by kernel_rfl) (fun _ _ _ h => h) (Or.inl ⟨by rfl, ?hy7ya⟩) (by rfl) (by rfl) ?rest7ya
          case hy7ya => intro w; go_simp; try with_reducible rfl
          try simp only [Act.put, List.setIfInBounds_toArray, List.set_cons_zero, List.set_cons_succ]
          refine AnyP.take (i := 8) (fuel := 17) (d := some 92) (listed' := #[true, true, true, true, true, true, true, true, true, false, false, false, false, false, false, false, false, false, false, false, false, false, false, false, false, false]) (oi := _) (v := ?v8ya) rfl (by kernel_rfl) (by kernel_rfl) (by kernel_rfl) (fun _ _ _ h => h) (Or.inl ⟨by rfl, ?hy8ya⟩) (by rfl) (by rfl) ?rest8ya
          case hy8ya => intro w; go_simp; try with_reducible rfl
          try simp only [Act.put, List.setIfInBounds_toArray, List.set_cons_zero, List.set_cons_succ]
          refine AnyP.take (i := 9) (fuel := 16) (d := some 93) (listed' := #[true, true, true, true, true, true, true, true, true, true, false, false, false, false, false, false, false, false, false, false, false, false, false, false, false, false]) (oi := _) (v := ?v9ya) rfl (by kernel_rfl) (by kernel_rfl) (by kernel_rfl) (fun _ _ _ h => h) (Or.inl ⟨by rfl, ?hy9ya⟩) (by rfl) (by rfl) ?rest9ya
          case hy9ya => intro w; go_simp; try with_reducible rfl
          try simp only [Act.put, List.setIfInBounds_toArray, List.set_cons_zero, List.set_cons_succ]
          refine AnyP.take (i := 10) (fuel := 15) (d := some 94) (listed' := #[true, true, true, true, true, true, true, true, true, true, true, false, false, false, false, false, false, false, false, false, false, false, false, false, false, false]) (oi := _) (v := ?v10ya) rfl (by kernel_rfl) (by kernel_rfl) (by kernel_rfl) (fun _ _ _ h => h) (Or.inl ⟨by rfl, ?hy10ya⟩) (by rfl) (by rfl) ?rest10ya
          case hy10ya => intro w; go_simp; try with_reducible rfl
          try simp only [Act.put, List.setIfInBounds_toArray, List.set_cons_zero, List.set_cons_succ]
          refine AnyP.take (i := 11) (fuel := 14) (d := some 95) (listed' := #[true, true, true, true, true, true, true, true, true, true, true, true, false, false, false, false, false, false, false, false, false, false, false, false, false, false]) (oi := _) (v := ?v11ya) rfl (by kernel_rfl) (by kernel_rfl) (by kernel_rfl) (fun _ _ _ h => h) (Or.inl ⟨by rfl, ?hy11ya⟩) (by rfl) (by rfl) ?rest11ya
          case hy11ya => intro w; go_simp; try with_reducible rfl
          try simp only [Act.put, List.setIfInBounds_toArray, List.set_cons_zero, List.set_cons_succ]
          refine AnyP.load (i := 12) (fuel := 13) (d := some 96) (listed' := #[true, true, true, true, true, true, true, true, true, true, true, true, true, false, false, false, false, false, false, false, false, false, false, false, false, false]) (oi := _) (v := ?v12ya) [] rfl (by kernel_rfl) (by kernel_rfl) (by kernel_rfl) (by kernel_rfl) (by kernel_rfl) (by kernel_rfl) (fun _ _ _ h => h) (Or.inl ⟨by rfl, ?hy12ya⟩) hHeld (by rfl) (by rfl) ?rest12ya
          case hy12ya => intro w hSw; (try dsimp only at hSw); go_simp; try with_reducible rfl
          try simp only [Act.put, List.setIfInBounds_toArray, List.set_cons_zero, List.set_cons_succ]
          refine AnyP.take (i := 13) (fuel := 12) (d := some 97) (listed' := #[true, true, true, true, true, true, true, true, true, true, true, true, true, true, false, false, false, false, false, false, false, false, false, false, false, false]) (oi := _) (v := ?v13ya) rfl (by kernel_rfl) (by kernel_rfl) (by kernel_rfl) (fun _ _ _ h => h) (Or.inl ⟨by rfl, ?hy13ya⟩) (by rfl) (by rfl) ?rest13ya
          case hy13ya => intro w; go_simp; try with_reducible rfl
          try simp only [Act.put, List.setIfInBounds_toArray, List.set_cons_zero, List.set_cons_succ]
          refine AnyP.load (i := 14) (fuel := 11) (d := some 98) (listed' := #[true, true, true, true, true, true, true, true, true, true, true, true, true, true, true, false, false, false, false, false, false, false, false, false, false, false]) (oi := _) (v := ?v14ya) [] rfl (by kernel_rfl) (by kernel_rfl) (by kernel_rfl) (by kernel_rfl) (by kernel_rfl) (by kernel_rfl) (fun _ _ _ h => h) (Or.inl ⟨by rfl, ?hy14ya⟩) hHeld (by rfl) (by rfl) ?rest14ya
          case hy14ya => intro w hSw; (try dsimp only at hSw); go_simp; try with_reducible rfl
          try simp only [Act.put, List.setIfInBounds_toArray, List.set_cons_zero, List.set_cons_succ]
          refine AnyP.take (i := 15) (fuel := 10) (d := some 99) (listed' := #[true, true, true, true, true, true, true, true, true, true, true, true, true, true, true, true, false, false, false, false, false, false, false, false, false, false]) (oi := _) (v := ?v15ya) rfl (by kernel_rfl) (by kernel_rfl) (by kernel_rfl) (fun _ _ _ h => h) (Or.inl ⟨by rfl, ?hy15ya⟩) (by rfl) (by rfl) ?rest15ya
          case hy15ya => intro w; go_simp; try with_reducible rfl
          try simp only [Act.put, List.setIfInBounds_toArray, List.set_cons_zero, List.set_cons_succ]
          refine AnyP.take (i := 16) (fuel := 9) (d := some 100) (listed' := #[true, true, true, true, true, true, true, true, true, true, true, true, true, true, true, true, true, false, false, false, false, false, false, false, false, false]) (oi := _) (v := ?v16ya) rfl (by kernel_rfl) (by kernel_rfl) (by kernel_rfl) (fun _ _ _ h => h) (Or.inl ⟨by rfl, ?hy16ya⟩) (by rfl) (by rfl) ?rest16ya
          case hy16ya => intro w; go_simp; try with_reducible rfl
          try simp only [Act.put, List.setIfInBounds_toArray, List.set_cons_zero, List.set_cons_succ]
          refine AnyP.take (i := 17) (fuel := 8) (d := some 101) (listed' := #[true, true, true, true, true, true, true, true, true, true, true, true, true, true, true, true, true, true, false, false, false, false, false, false, false, false]) (oi := _) (v := ?v17ya) rfl (by kernel_rfl) (by kernel_rfl) (by kernel_rfl) (fun _ _ _ h => h) (Or.inl ⟨by rfl, ?hy17ya⟩) (by rfl) (by rfl) ?rest17ya
          case hy17ya => intro w; go_simp; try with_reducible rfl
          try simp only [Act.put, List.setIfInBounds_toArray, List.set_cons_zero, List.set_cons_succ]
          refine AnyP.load (i := 18) (fuel := 7) (d := some 102) (listed' := #[true, true, true, true, true, true, true, true, true, true, true, true, true, true, true, true, true, true, true, false, false, false, false, false, false, false]) (oi := _) (v := ?v18ya) [] rfl (by kernel_rfl) (by kernel_rfl) (by kernel_rfl) (by kernel_rfl) (by kernel_rfl) (by kernel_rfl) (fun _ _ _ h => h) (Or.inl ⟨by rfl, ?hy18ya⟩) hHeld (by rfl) (by rfl) ?rest18ya
          case hy18ya => intro w hSw; (try dsimp only at hSw); go_simp; try with_reducible rfl
          try simp only [Act.put, List.setIfInBounds_toArray, List.set_cons_zero, List.set_cons_succ]
          refine AnyP.take (i := 19) (fuel := 6) (d := some 103) (listed' := #[true, true, true, true, true, true, true, true, true, true, true, true, true, true, true, true, true, true, true, true, false, false, false, false, false, false]) (oi := _) (v := ?v19ya) rfl (by kernel_rfl) (by kernel_rfl) (by kernel_rfl) (fun _ _ _ h => h) (Or.inl ⟨by rfl, ?hy19ya⟩) (by rfl) (by rfl) ?rest19ya
          case hy19ya => intro w; go_simp; try with_reducible rfl
          try simp only [Act.put, List.setIfInBounds_toArray, List.set_cons_zero, List.set_cons_succ]
          refine AnyP.take (i := 20) (fuel := 5) (d := some 104) (listed' := #[true, true, true, true, true, true, true, true, true, true, true, true, true, true, true, true, true, true, true, true, true, false, false, false, false, false]) (oi := _) (v := ?v20ya) rfl (by kernel_rfl) (by kernel_rfl) (by kernel_rfl) (fun _ _ _ h => h) (Or.inl ⟨by rfl, ?hy20ya⟩) (by rfl) (by rfl) ?rest20ya
          case hy20ya => intro w; go_simp; try with_reducible rfl
          try simp only [Act.put, List.setIfInBounds_toArray, List.set_cons_zero, List.set_cons_succ]
          refine AnyP.take (i := 21) (fuel := 4) (d := some 105) (listed' := #[true, true, true, true, true, true, true, true, true, true, true, true, true, true, true, true, true, true, true, true, true, true, false, false, false, false]) (oi := _) (v := ?v21ya) rfl (by kernel_rfl) (by kernel_rfl) (by kernel_rfl) (fun _ _ _ h => h) (Or.inl ⟨by rfl, ?hy21ya⟩) (by rfl) (by rfl) ?rest21ya
          case hy21ya => intro w; go_simp; try with_reducible rfl
          try simp only [Act.put, List.setIfInBounds_toArray, List.set_cons_zero, List.set_cons_succ]
          refine AnyP.take (i := 22) (fuel := 3) (d := some 106) (listed' := #[true, true, true, true, true, true, true, true, true, true, true, true, true, true, true, true, true, true, true, true, true, true, true, false, false, false]) (oi := _) (v := ?v22ya) rfl (by kernel_rfl) (by kernel_rfl) (by kernel_rfl) (fun _ _ _ h => h) (Or.inl ⟨by rfl, ?hy22ya⟩) (by rfl) (by rfl) ?rest22ya
          case hy22ya => intro w; go_simp; try with_reducible rfl
          try simp only [Act.put, List.setIfInBounds_toArray, List.set_cons_zero, List.set_cons_succ]
          refine AnyP.one (i := 23) (o := ?o23ya) (fuel := 2) (listed' := #[true, true, true, true, true, true, true, true, true, true, true, true, true, true, true, true, true, true, true, true, true, true, true, true, false, false]) (by kernel_rfl) ?ho23ya (by rfl) (fun K' hK' => ?step23ya)
          case ho23ya => simp only [List.getElem?_toArray, List.getElem?_cons_succ, List.getElem?_cons_zero]; rfl
          go_simp
          go_at_call 67
          refine (HAW.out _).mono ?_
          rintro e wb ⟨rfl, hbb⟩
          go_wp2_with fail
          refine hK'.out _ _ (fun _ => ⟨(Box.facts3 (hLN.drew.call hbb)).2.1, (Box.facts4 (hXN.drew.call hbb)).1, (cell_call hvD hbb)⟩) (fun hHeld => ?_)
          clear hK' K'
          try simp only [Act.put, List.setIfInBounds_toArray, List.set_cons_zero, List.set_cons_succ]
          refine AnyP.take (i := 24) (fuel := 1) (d := some 108) (listed' := #[true, true, true, true, true, true, true, true, true, true, true, true, true, true, true, true, true, true, true, true, true, true, true, true, true, false]) (oi := _) (v := ?v24ya) rfl (by kernel_rfl) (by kernel_rfl) (by kernel_rfl) (fun _ _ _ h => h) (Or.inl ⟨by rfl, ?hy24ya⟩) (by rfl) (by rfl) ?rest24ya
          case hy24ya => intro w; go_simp; try with_reducible rfl
          try simp only [Act.put, List.setIfInBounds_toArray, List.set_cons_zero, List.set_cons_succ]
          refine AnyP.take (i := 25) (fuel := 0) (d := some 6) (listed' := #[true, true, true, true, true, true, true, true, true, true, true, true, true, true, true, true, true, true, true, true, true, true, true, true, true, true]) (oi := _) (v := ?v25ya) rfl (by kernel_rfl) (by kernel_rfl) (by kernel_rfl) (fun _ _ _ h => h) (Or.inl ⟨by rfl, ?hy25ya⟩) (by rfl) (by rfl) ?rest25ya
          case hy25ya => intro w; go_simp; try with_reducible rfl
          try simp only [Act.put, List.setIfInBounds_toArray, List.set_cons_zero, List.set_cons_succ]
          refine AnyP.done (by kernel_rfl) ?_ _
          go_wp2
          go_ret
          exact ⟨rfl, (HCN.out.drew.step (Ch.of_below (S := fun _ => False) hbb) (by simpa using hzN) (fun _ _ e => e)).below (fun _ _ e => e)⟩
  · have hd6 : decide ((60 : Int) < (n0 : Int)) = true := by simp; omega
    obtain ⟨a, hAa⟩ : ∃ a, A = some a := by rcases hA with h | h; omega; exact h
    have h1 : (60 : Int) ≤ (n0 : Int) := by omega
    have h2 : (60 : Int) ≤ (c : Int) := by omega
    rw [hAa] at x0
    have H6 := Lib.hid hL6
    have HAA := Lib.hid hAa
    clear hL6 hAa
    obtain ⟨-, -, hy, hg⟩ := HSV.out (.slice (some a) 60 c)
    obtain ⟨y0, y1, y2, y3, -⟩ := Box.facts4 hy
    obtain ⟨g0, g1, g2, g3, -⟩ := Box.facts4 hg
    clear hy hg
    go_wp2_with fail
    rw [show (Value.slice (some a) 60 c) = Value.slice A L.length c by rw [H6.out, HAA.out]]
    obtain ⟨W3, hW3⟩ : ∃ W3, W3 = (w2.setCell ⟨W.heap.size, 0, none⟩ (.slice A L.length c)).alloc (.cells #[.int .i64 (F : Int), .int .i64 3, .int .i64 2, .int .i64 5] 104) := ⟨_, rfl⟩
    have HT3 := Lib.hid (HSV.out (.slice A L.length c))
    rw [← hW3] at HT3 ⊢
    clear y0 y1 y2 y3 g0 g1 g2 g3
    clear hW3 H6 HAA hd6 hnf hA hn x0 x1 x2 x3 k0 k1 k2 k3 z0 h1 h2
    refine (HSH.out _ HT3.out.2.1 (HSL.out.below HT3.out.1)).mono ?_
    rintro e w4 ⟨T, S, out, good, ok, rfl, hsh, hT, hS, ch4, hk4⟩
    have HSHN := Lib.hid hsh.out
    have HC4 := Lib.hid ((Ch.of_below (S := fun _ => False) HT3.out.1).step ch4 HT3.out.1.size (fun i hi e => by have := HMN.out; omega))
    have HK4 := Lib.hid hk4
    have HX4 := Lib.hid (Box.ch HT3.out.2.2.1 ch4 HT3.out.2.2.1.lt (by have := HMN.out; have := HT3.out.2.2.1.lt; omega))
    have HG4 := Lib.hid (Box.ch HT3.out.2.2.2 ch4 HT3.out.2.2.2.lt (by have := HT3.out.2.2.2.lt; omega))
    have hz4 := HC4.out.size
    have hw24 : w2.heap.size < w4.heap.size := HG4.out.lt
    have HRS4 := Lib.hid (HSL.out.below (HC4.out.below (fun _ _ e => e)))
    clear hsh ch4 hk4
    obtain ⟨x0, x1, x2, x3, -⟩ := Box.facts4 HX4.out
    obtain ⟨k0, k1, k2, k3, -⟩ := Box.facts4 HG4.out
    cases ok with
    | false =>
      go_wp2_with fail
      refine (HAW.out _).mono ?_
      rintro e w5 ⟨rfl, hb5⟩
      go_wp2
      go_ret
      exact ⟨rfl, (HC4.out.step (Ch.of_below (S := fun _ => False) hb5) hz4 (fun _ _ e => e)).below (fun _ _ e => e)⟩
    | true =>
      obtain ⟨g, rfl, hg3, hsn⟩ := HSHN.out rfl
      obtain ⟨sg, tt, l, hpt⟩ := hsn.part
      have HSN := Lib.hid hsn
      have HPT := Lib.hid hpt
      have hos := hpt.size
      clear hsn hpt HSHN
      by_cases hgF : g ≤ F
      · have hdg : decide (g ≤ F) = true := by simpa using hgF
        have HVN := Lib.hid (verifyNo_calls F 3 2 5 b t m n T S key out 30 w4 HK4.out (by omega) (by omega) hos (by unfold fitsC; simp; omega) hF.2 (HPT.out.few hgF) (by decide))
        have heq : ∀ w, (Op.equalIn 10000 149 (.agg #[.int .i64 0, .string ⟨#[]⟩, .bool false]) (.agg #[.int .i64 0, .string ⟨#[]⟩, .bool false])).run Try.prog w = .ok true w := fun w => eqLight w
        go_wp2_with fail
        refine HVN.out.mono ?_
        rintro e w5 ⟨rfl, T5, e5, l5, ch5, hk5⟩
        have HC5 := Lib.hid ((HC4.out.step ch5 hz4 (fun i hi e => by have := HMN.out; omega)).alloc (by have := ch5.size; omega) (.cells #[.int .i64 0, .string ⟨#[]⟩, .bool false] 149))
        have hz5 := HC5.out.size
        have HG5 := Lib.hid ((Box.ch HG4.out ch5 HG4.out.lt (by omega)).alloc (.cells #[.int .i64 0, .string ⟨#[]⟩, .bool false] 149))
        have HL5 := Lib.hid (Box.new w5 #[.int .i64 0, .string ⟨#[]⟩, .bool false] 149)
        clear ch5 hk5 e5 x0 x1 x2 x3 k0 k1 k2 k3 hgF
        obtain ⟨k0, k1, k2, k3, -⟩ := Box.facts4 HG5.out
        obtain ⟨l0, l1, l2, -⟩ := Box.facts3 HL5.out
        go_wp2_with fail
        refine (HAW.out _).mono ?_
        rintro e w6 ⟨rfl, hb6⟩
        go_wp2
        go_ret
        exact ⟨rfl, (HC5.out.step (Ch.of_below (S := fun _ => False) hb6) hz5 (fun _ _ e => e)).below (fun _ _ e => e)⟩
      · have hdg : decide (g ≤ F) = false := by simpa using hgF
        obtain ⟨seq, hseq⟩ : ∃ s : Int, s = 4 * (1 + (rnd sq 100 : Nat)) := ⟨_, rfl⟩
        have HSQ := Lib.hid hseq
        have hrs := rnd_lt sq (m := 100) (by decide)
        have hgv : F < (votersS S 5 0 seq (rootP (hh T) L) (3 * F + 1) l []).length := by have := HPT.out.ok.voters; rw [← hseq] at this; omega
        have hop : openE S sg = (showB seq (rootP (hh T) L) tt l, 0) := by have := HPT.out.ok.opens; rw [← hseq] at this; exact this
        have HVY := Lib.hid (verifyYes_calls F 3 2 5 b t m n T S key out sg (showB seq (rootP (hh T) L) tt l) (L.length : Nat) (proofP (hh T) L key) w4 HK4.out (by omega) (by omega) hos (by unfold fitsC; simp; omega) hF.2 HPT.out.reads hop rfl hgv HPT.out.proof)
        have HAR := Lib.hid (fun w => around12_calls sq 100 w (by decide) (by decide))
        unfold RndPost at HAR
        obtain ⟨rs, hrs2⟩ : ∃ K, K = rnd sq 100 := ⟨_, rfl⟩
        rw [← hrs2] at HAR hrs hseq
        have hw5 : IntKind.i64.wrap (1 + (rs : Int)) = 1 + (rs : Int) := wrap_near _ (by omega) (by omega)
        have hw6 : IntKind.i64.wrap (4 * (1 + (rs : Int))) = 4 * (1 + (rs : Int)) := wrap_near _ (by omega) (by omega)
        have HTR := Lib.hid (fun T' (he : Ext T T') (hT2 : T'.length ≤ T.length + 101) v has cd h1 h2 => shown_true (v := v) (has := has) (cd := cd) he (by omega) HSN.out.rise HSN.out.fits HSN.out.root h1 h2)
        have HAT := Lib.hid (fun w hs => at_calls A c L key w hs (by omega))
        have HSE := Lib.hid (show seq = 4 * (1 + (rs : Int)) from hseq)
        clear hrs2 hseq hgv hop hgF
        go_wp2_with fail
        refine HVY.out.mono ?_
        rintro e w5 ⟨T5, v, has, cd, rfl, hv1, hv2, e5, l5, ch5, hk5⟩
        obtain ⟨hcd, htr⟩ := HTR.out T5 e5 l5 v has cd hv1.out hv2.out
        subst hcd
        rw [if_pos rfl, show (showB seq (rootP (hh T) L) tt l).seq = 4 * (1 + (rs : Int)) from HSE.out]
        obtain ⟨W5, hW5⟩ : ∃ W5, W5 = w5.alloc (.cells #[.int .i64 (4 * (1 + (rs : Int))), .string v, .bool has] 149) := ⟨_, rfl⟩
        have HC5 := Lib.hid (show Ch W.heap.size (fun _ => False) W W5 by rw [hW5]; exact (HC4.out.step ch5 hz4 (fun i hi e => by have := HMN.out; omega)).alloc (by have := ch5.size; omega) _)
        have hz5 := HC5.out.size
        have HX5 := Lib.hid (show Box W5 W.heap.size #[.slice A L.length c, .int .i64 sq, .int .i64 certs, .int .i64 spoil] 157 by rw [hW5]; exact (Box.ch HX4.out ch5 HX4.out.lt (by have := HMN.out; omega)).alloc _)
        have HL5 := Lib.hid (show Box W5 w5.heap.size #[.int .i64 (4 * (1 + (rs : Int))), .string v, .bool has] 149 by rw [hW5]; exact Box.new w5 _ _)
        have HG5 := Lib.hid (show Box W5 w2.heap.size #[.int .i64 (F : Int), .int .i64 3, .int .i64 2, .int .i64 5] 104 by rw [hW5]; exact (Box.ch HG4.out ch5 HG4.out.lt (by have := HK4.out.tm.lt; have := HMN.out; have := HKM.out; omega)).alloc _)
        have HRS5 := Lib.hid (HRS4.out.off ch5 HOM.out)
        have HRS5 := Lib.hid (show RcS W5 A c L by rw [hW5]; exact HRS5.out.below ((Below.refl w5.heap.size w5).alloc (Nat.le_refl _) _))
        have HATT := Lib.hid (HAT.out W5 HRS5.out)
        obtain ⟨ht1, ht2⟩ := truth_split htr
        have HT1 := Lib.hid ht1
        have HT2 := Lib.hid ht2
        have hWW5 := Lib.hid hW5
        clear ch5 hk5 e5 hv1 hv2 htr ht1 ht2 x0 x1 x2 x3 k0 k1 k2 k3
        obtain ⟨x0, x1, x2, x3, -⟩ := Box.facts4 HX5.out
        obtain ⟨l0, l1, l2, -⟩ := Box.facts3 HL5.out
        obtain ⟨k0, -⟩ := Box.facts4 HG5.out
        rw [hW5] at x0 x1 x2 x3 l0 l1 l2 k0
        clear hW5
        go_wp2_with fail
        rw [← hWW5.out] at *
        refine HATT.out.mono ?_
        rintro e wx ⟨r, rfl, hw, hrr⟩
        subst hw
        rcases hrr.out with ⟨rfl, hn0⟩ | ⟨i, xr, rfl, hxr, hn0⟩
        · obtain ⟨rfl, rfl⟩ := HT1.out hn0
          clear hrr hn0 HT1 HT2
          go_wp2_with fail
          go_quiet (first | (go_at_call 71; exact Calls.quiet_of_same ((HAR.out _).mono (fun _ _ h => ⟨h.1, h.2.symm⟩))))
          have HCN := Lib.hid (HC5.out.drewN nq)
          have hLN := HL5.out.drewN nq
          have hzN := HCN.out.size
          obtain ⟨WN, hWN⟩ : ∃ WN, WN = wx.drewN nq := ⟨_, rfl⟩
          rw [← hWN] at HCN hLN hzN ⊢
          clear hWN x0 x1 x2 x3 l0 l1 l2 k0
          obtain ⟨l0, l1, l2, -⟩ := Box.facts3 hLN
          go_wp2_with fail
          obtain ⟨p0, p1, p2, -⟩ := Box.facts3 hLN.drew
          refine AnyP.start [] (fun w' => w'.cell? ⟨w5.heap.size, 1, none⟩ = some (.string ⟨#[]⟩)) (by kernel_rfl) p1 (n := 26) (listed := #[false, false, false, false, false, false, false, false, false, false, false, false, false, false, false, false, false, false, false, false, false, false, false, false, false, false]) (by kernel_rfl) (by kernel_rfl) (fun hHeld => ?_)
          refine AnyP.take (i := 0) (fuel := 25) (d := some 84) (listed' := #[true, false, false, false, false, false, false, false, false, false, false, false, false, false, false, false, false, false, false, false, false, false, false, false, false, false]) (oi := _) (v := ?v0nb) rfl (by kernel_rfl) (by kernel_rfl) (by kernel_rfl) (fun _ _ _ h => h) (Or.inl ⟨by rfl, ?hy0nb⟩) (by rfl) (by rfl) ?rest0nb
          case hy0nb => intro w; go_simp; try with_reducible rfl
          try simp only [Act.put, List.setIfInBounds_toArray, List.set_cons_zero, List.set_cons_succ]
          refine AnyP.take (i := 1) (fuel := 24) (d := some 85) (listed' := #[true, true, false, false, false, false, false, false, false, false, false, false, false, false, false, false, false, false, false, false, false, false, false, false, false, false]) (oi := _) (v := ?v1nb) rfl (by kernel_rfl) (by kernel_rfl) (by kernel_rfl) (fun _ _ _ h => h) (Or.inl ⟨by rfl, ?hy1nb⟩) (by rfl) (by rfl) ?rest1nb
          case hy1nb => intro w; go_simp; try with_reducible rfl
          try simp only [Act.put, List.setIfInBounds_toArray, List.set_cons_zero, List.set_cons_succ]
          refine AnyP.take (i := 2) (fuel := 23) (d := some 86) (listed' := #[true, true, true, false, false, false, false, false, false, false, false, false, false, false, false, false, false, false, false, false, false, false, false, false, false, false]) (oi := _) (v := ?v2nb) rfl (by kernel_rfl) (by kernel_rfl) (by kernel_rfl) (fun _ _ _ h => h) (Or.inl ⟨by rfl, ?hy2nb⟩) (by rfl) (by rfl) ?rest2nb
          case hy2nb => intro w; go_simp; try with_reducible rfl
          try simp only [Act.put, List.setIfInBounds_toArray, List.set_cons_zero, List.set_cons_succ]
          refine AnyP.take (i := 3) (fuel := 22) (d := some 87) (listed' := #[true, true, true, true, false, false, false, false, false, false, false, false, false, false, false, false, false, false, false, false, false, false, false, false, false, false]) (oi := _) (v := ?v3nb) rfl (by kernel_rfl) (by kernel_rfl) (by kernel_rfl) (fun _ _ _ h => h) (Or.inl ⟨by rfl, ?hy3nb⟩) (by rfl) (by rfl) ?rest3nb
          case hy3nb => intro w; go_simp; try with_reducible rfl
          try simp only [Act.put, List.setIfInBounds_toArray, List.set_cons_zero, List.set_cons_succ]
          refine AnyP.load (i := 4) (fuel := 21) (d := some 88) (listed' := #[true, true, true, true, true, false, false, false, false, false, false, false, false, false, false, false, false, false, false, false, false, false, false, false, false, false]) (oi := _) (v := ?v4nb) [] rfl (by kernel_rfl) (by kernel_rfl) (by kernel_rfl) (by kernel_rfl) (by kernel_rfl) (by kernel_rfl) (fun _ _ _ h => h) (Or.inl ⟨by rfl, ?hy4nb⟩) hHeld (by rfl) (by rfl) ?rest4nb
          case hy4nb => intro w hSw; (try dsimp only at hSw); go_simp; try with_reducible rfl
          try simp only [Act.put, List.setIfInBounds_toArray, List.set_cons_zero, List.set_cons_succ]
          refine AnyP.take (i := 5) (fuel := 20) (d := some 89) (listed' := #[true, true, true, true, true, true, false, false, false, false, false, false, false, false, false, false, false, false, false, false, false, false, false, false, false, false]) (oi := _) (v := ?v5nb) rfl (by kernel_rfl) (by kernel_rfl) (by kernel_rfl) (fun _ _ _ h => h) (Or.inl ⟨by rfl, ?hy5nb⟩) (by rfl) (by rfl) ?rest5nb
          case hy5nb => intro w; go_simp; try with_reducible rfl
          try simp only [Act.put, List.setIfInBounds_toArray, List.set_cons_zero, List.set_cons_succ]
          refine AnyP.take (i := 6) (fuel := 19) (d := some 90) (listed' := #[true, true, true, true, true, true, true, false, false, false, false, false, false, false, false, false, false, false, false, false, false, false, false, false, false, false]) (oi := _) (v := ?v6nb) rfl (by kernel_rfl) (by kernel_rfl) (by kernel_rfl) (fun _ _ _ h => h) (Or.inl ⟨by rfl, ?hy6nb⟩) (by rfl) (by rfl) ?rest6nb
          case hy6nb => intro w; go_simp; try with_reducible rfl
          try simp only [Act.put, List.setIfInBounds_toArray, List.set_cons_zero, List.set_cons_succ]
          refine AnyP.take (i := 7) (fuel := 18) (d := some 91) (listed' := #[true, true, true, true, true, true, true, true, false, false, false, false, false, false, false, false, false, false, false, false, false, false, false, false, false, false]) (oi := _) (v := ?v7nb) rfl (by kernel_rfl) (by kernel_rfl) (by kernel_rfl) (fun _ _ _ h => h) (Or.inl ⟨by rfl, ?hy7nb⟩) (by rfl) (by rfl) ?rest7nb
          case hy7nb => intro w; go_simp; try with_reducible rfl
          try simp only [Act.put, List.setIfInBounds_toArray, List.set_cons_zero, List.set_cons_succ]
          refine AnyP.take (i := 8) (fuel := 17) (d := some 92) (listed' := #[true, true, true, true, true, true, true, true, true, false, false, false, false, false, false, false, false, false, false, false, false, false, false, false, false, false]) (oi := _) (v := undef) rfl (by kernel_rfl) (by kernel_rfl) (by kernel_rfl) (fun _ _ _ h => h) (Or.inr ⟨by rfl, rfl⟩) (by rfl) (by rfl) ?rest8nb
          try simp only [Act.put, List.setIfInBounds_toArray, List.set_cons_zero, List.set_cons_succ]
          refine AnyP.take (i := 9) (fuel := 16) (d := some 93) (listed' := #[true, true, true, true, true, true, true, true, true, true, false, false, false, false, false, false, false, false, false, false, false, false, false, false, false, false]) (oi := _) (v := undef) rfl (by kernel_rfl) (by kernel_rfl) (by kernel_rfl) (fun _ _ _ h => h) (Or.inr ⟨by rfl, rfl⟩) (by rfl) (by rfl) ?rest9nb
          try simp only [Act.put, List.setIfInBounds_toArray, List.set_cons_zero, List.set_cons_succ]
          refine AnyP.take (i := 10) (fuel := 15) (d := some 94) (listed' := #[true, true, true, true, true, true, true, true, true, true, true, false, false, false, false, false, false, false, false, false, false, false, false, false, false, false]) (oi := _) (v := undef) rfl (by kernel_rfl) (by kernel_rfl) (by kernel_rfl) (fun _ _ _ h => h) (Or.inr ⟨by rfl, rfl⟩) (by rfl) (by rfl) ?rest10nb
          try simp only [Act.put, List.setIfInBounds_toArray, List.set_cons_zero, List.set_cons_succ]
          refine AnyP.take (i := 11) (fuel := 14) (d := some 95) (listed' := #[true, true, true, true, true, true, true, true, true, true, true, true, false, false, false, false, false, false, false, false, false, false, false, false, false, false]) (oi := _) (v := undef) rfl (by kernel_rfl) (by kernel_rfl) (by kernel_rfl) (fun _ _ _ h => h) (Or.inr ⟨by rfl, rfl⟩) (by rfl) (by rfl) ?rest11nb
          try simp only [Act.put, List.setIfInBounds_toArray, List.set_cons_zero, List.set_cons_succ]
          refine AnyP.take (i := 12) (fuel := 13) (d := some 96) (listed' := #[true, true, true, true, true, true, true, true, true, true, true, true, true, false, false, false, false, false, false, false, false, false, false, false, false, false]) (oi := _) (v := undef) rfl (by kernel_rfl) (by kernel_rfl) (by kernel_rfl) (fun _ _ _ h => h) (Or.inr ⟨by rfl, rfl⟩) (by rfl) (by rfl) ?rest12nb
          try simp only [Act.put, List.setIfInBounds_toArray, List.set_cons_zero, List.set_cons_succ]
          refine AnyP.take (i := 13) (fuel := 12) (d := some 97) (listed' := #[true, true, true, true, true, true, true, true, true, true, true, true, true, true, false, false, false, false, false, false, false, false, false, false, false, false]) (oi := _) (v := undef) rfl (by kernel_rfl) (by kernel_rfl) (by kernel_rfl) (fun _ _ _ h => h) (Or.inr ⟨by rfl, rfl⟩) (by rfl) (by rfl) ?rest13nb
          try simp only [Act.put, List.setIfInBounds_toArray, List.set_cons_zero, List.set_cons_succ]
          refine AnyP.take (i := 14) (fuel := 11) (d := some 98) (listed' := #[true, true, true, true, true, true, true, true, true, true, true, true, true, true, true, false, false, false, false, false, false, false, false, false, false, false]) (oi := _) (v := undef) rfl (by kernel_rfl) (by kernel_rfl) (by kernel_rfl) (fun _ _ _ h => h) (Or.inr ⟨by rfl, rfl⟩) (by rfl) (by rfl) ?rest14nb
          try simp only [Act.put, List.setIfInBounds_toArray, List.set_cons_zero, List.set_cons_succ]
          refine AnyP.take (i := 15) (fuel := 10) (d := some 99) (listed' := #[true, true, true, true, true, true, true, true, true, true, true, true, true, true, true, true, false, false, false, false, false, false, false, false, false, false]) (oi := _) (v := undef) rfl (by kernel_rfl) (by kernel_rfl) (by kernel_rfl) (fun _ _ _ h => h) (Or.inr ⟨by rfl, rfl⟩) (by rfl) (by rfl) ?rest15nb
          try simp only [Act.put, List.setIfInBounds_toArray, List.set_cons_zero, List.set_cons_succ]
          refine AnyP.take (i := 16) (fuel := 9) (d := some 100) (listed' := #[true, true, true, true, true, true, true, true, true, true, true, true, true, true, true, true, true, false, false, false, false, false, false, false, false, false]) (oi := _) (v := undef) rfl (by kernel_rfl) (by kernel_rfl) (by kernel_rfl) (fun _ _ _ h => h) (Or.inr ⟨by rfl, rfl⟩) (by rfl) (by rfl) ?rest16nb
          try simp only [Act.put, List.setIfInBounds_toArray, List.set_cons_zero, List.set_cons_succ]
          refine AnyP.take (i := 17) (fuel := 8) (d := some 101) (listed' := #[true, true, true, true, true, true, true, true, true, true, true, true, true, true, true, true, true, true, false, false, false, false, false, false, false, false]) (oi := _) (v := undef) rfl (by kernel_rfl) (by kernel_rfl) (by kernel_rfl) (fun _ _ _ h => h) (Or.inr ⟨by rfl, rfl⟩) (by rfl) (by rfl) ?rest17nb
          try simp only [Act.put, List.setIfInBounds_toArray, List.set_cons_zero, List.set_cons_succ]
          refine AnyP.take (i := 18) (fuel := 7) (d := some 102) (listed' := #[true, true, true, true, true, true, true, true, true, true, true, true, true, true, true, true, true, true, true, false, false, false, false, false, false, false]) (oi := _) (v := undef) rfl (by kernel_rfl) (by kernel_rfl) (by kernel_rfl) (fun _ _ _ h => h) (Or.inr ⟨by rfl, rfl⟩) (by rfl) (by rfl) ?rest18nb
          try simp only [Act.put, List.setIfInBounds_toArray, List.set_cons_zero, List.set_cons_succ]
          refine AnyP.take (i := 19) (fuel := 6) (d := some 103) (listed' := #[true, true, true, true, true, true, true, true, true, true, true, true, true, true, true, true, true, true, true, true, false, false, false, false, false, false]) (oi := _) (v := undef) rfl (by kernel_rfl) (by kernel_rfl) (by kernel_rfl) (fun _ _ _ h => h) (Or.inr ⟨by rfl, rfl⟩) (by rfl) (by rfl) ?rest19nb
          try simp only [Act.put, List.setIfInBounds_toArray, List.set_cons_zero, List.set_cons_succ]
          refine AnyP.take (i := 20) (fuel := 5) (d := some 104) (listed' := #[true, true, true, true, true, true, true, true, true, true, true, true, true, true, true, true, true, true, true, true, true, false, false, false, false, false]) (oi := _) (v := undef) rfl (by kernel_rfl) (by kernel_rfl) (by kernel_rfl) (fun _ _ _ h => h) (Or.inr ⟨by rfl, rfl⟩) (by rfl) (by rfl) ?rest20nb
          try simp only [Act.put, List.setIfInBounds_toArray, List.set_cons_zero, List.set_cons_succ]
          refine AnyP.take (i := 21) (fuel := 4) (d := some 105) (listed' := #[true, true, true, true, true, true, true, true, true, true, true, true, true, true, true, true, true, true, true, true, true, true, false, false, false, false]) (oi := _) (v := ?v21nb) rfl (by kernel_rfl) (by kernel_rfl) (by kernel_rfl) (fun _ _ _ h => h) (Or.inl ⟨by rfl, ?hy21nb⟩) (by rfl) (by rfl) ?rest21nb
          case hy21nb => intro w; go_simp; try with_reducible rfl
          try simp only [Act.put, List.setIfInBounds_toArray, List.set_cons_zero, List.set_cons_succ]
          refine AnyP.take (i := 22) (fuel := 3) (d := some 106) (listed' := #[true, true, true, true, true, true, true, true, true, true, true, true, true, true, true, true, true, true, true, true, true, true, true, false, false, false]) (oi := _) (v := ?v22nb) rfl (by kernel_rfl) (by kernel_rfl) (by kernel_rfl) (fun _ _ _ h => h) (Or.inl ⟨by rfl, ?hy22nb⟩) (by rfl) (by rfl) ?rest22nb
          case hy22nb => intro w; go_simp; try with_reducible rfl
          try simp only [Act.put, List.setIfInBounds_toArray, List.set_cons_zero, List.set_cons_succ]
          refine AnyP.one (i := 23) (o := ?o23nb) (fuel := 2) (listed' := #[true, true, true, true, true, true, true, true, true, true, true, true, true, true, true, true, true, true, true, true, true, true, true, true, false, false]) (by kernel_rfl) ?ho23nb (by rfl) (fun K' hK' => ?step23nb)
          case ho23nb => simp only [List.getElem?_toArray, List.getElem?_cons_succ, List.getElem?_cons_zero]; rfl
          go_simp
          go_at_call 67
          refine (HAW.out _).mono ?_
          rintro e wb ⟨rfl, hbb⟩
          go_wp2_with fail
          refine hK'.out _ _ (fun _ => (Box.facts3 (hLN.drew.call hbb)).2.1) (fun hHeld => ?_)
          clear hK' K'
          try simp only [Act.put, List.setIfInBounds_toArray, List.set_cons_zero, List.set_cons_succ]
          refine AnyP.take (i := 24) (fuel := 1) (d := some 108) (listed' := #[true, true, true, true, true, true, true, true, true, true, true, true, true, true, true, true, true, true, true, true, true, true, true, true, true, false]) (oi := _) (v := ?v24nb) rfl (by kernel_rfl) (by kernel_rfl) (by kernel_rfl) (fun _ _ _ h => h) (Or.inl ⟨by rfl, ?hy24nb⟩) (by rfl) (by rfl) ?rest24nb
          case hy24nb => intro w; go_simp; try with_reducible rfl
          try simp only [Act.put, List.setIfInBounds_toArray, List.set_cons_zero, List.set_cons_succ]
          refine AnyP.take (i := 25) (fuel := 0) (d := some 6) (listed' := #[true, true, true, true, true, true, true, true, true, true, true, true, true, true, true, true, true, true, true, true, true, true, true, true, true, true]) (oi := _) (v := ?v25nb) rfl (by kernel_rfl) (by kernel_rfl) (by kernel_rfl) (fun _ _ _ h => h) (Or.inl ⟨by rfl, ?hy25nb⟩) (by rfl) (by rfl) ?rest25nb
          case hy25nb => intro w; go_simp; try with_reducible rfl
          try simp only [Act.put, List.setIfInBounds_toArray, List.set_cons_zero, List.set_cons_succ]
          refine AnyP.done (by kernel_rfl) ?_ _
          go_wp2
          go_ret
          exact ⟨rfl, (HCN.out.drew.step (Ch.of_below (S := fun _ => False) hbb) (by simpa using hzN) (fun _ _ e => e)).below (fun _ _ e => e)⟩
        · obtain ⟨rfl, rfl⟩ := HT2.out xr hn0
          have hi := (List.getElem?_eq_some_iff.1 hxr).1
          obtain ⟨a2, ha2, e0, e1⟩ := HRS5.out.elem i hi
          obtain rfl := ha2
          have hxe := (List.getElem?_eq_some_iff.1 hxr).2
          rw [hxe] at e0 e1
          have hge : decide ((0 : Int) ≤ (i : Int)) = true := by simp
          have hlt0 : decide ((i : Int) < 0) = false := by simp
          have hi0 : (0 : Int) ≤ (i : Int) := by omega
          have hi1 : (i : Int) < (L.length : Int) := by omega
          obtain ⟨xk, xv⟩ := xr
          simp only at e0 e1 l0 l1 l2 HL5 ⊢
          have HEV := Lib.hid e1
          clear hrr hn0 hxr hxe HT1 HT2 e0 e1
          go_wp2_with fail
          go_quiet (first | (go_at_call 71; exact Calls.quiet_of_same ((HAR.out _).mono (fun _ _ h => ⟨h.1, h.2.symm⟩))))
          have HCN := Lib.hid (HC5.out.drewN nq)
          have hLN := HL5.out.drewN nq
          have hXN := HX5.out.drewN nq
          have hzN := HCN.out.size
          have hvN : (wx.drewN nq).cell? ⟨(a2.add (i * 2)).block, (a2.add (i * 2)).off + 1, none⟩ = some (.string xv) := HEV.out
          obtain ⟨WN, hWN⟩ : ∃ WN, WN = wx.drewN nq := ⟨_, rfl⟩
          rw [← hWN] at HCN hLN hXN hzN hvN ⊢
          clear hWN x0 x1 x2 x3 l0 l1 l2 k0
          obtain ⟨l0, l1, l2, -⟩ := Box.facts3 hLN
          obtain ⟨x0, x1, x2, x3, -⟩ := Box.facts4 hXN
          go_wp2_with fail
          obtain ⟨p0, p1, p2, -⟩ := Box.facts3 hLN.drew
          obtain ⟨y0, -⟩ := Box.facts4 hXN.drew
          have hvD : WN.drew.cell? ⟨(a2.add (i * 2)).block, (a2.add (i * 2)).off + 1, none⟩ = some (.string xv) := hvN
          refine AnyP.start [] (fun w' => w'.cell? ⟨w5.heap.size, 1, none⟩ = some (.string xv) ∧ w'.cell? ⟨W.heap.size, 0, none⟩ = some (.slice (some a2) L.length c) ∧ w'.cell? ⟨(a2.add (i * 2)).block, (a2.add (i * 2)).off + 1, none⟩ = some (.string xv)) (by kernel_rfl) ⟨p1, y0, hvD⟩ (n := 26) (listed := #[false, false, false, false, false, false, false, false, false, false, false, false, false, false, false, false, false, false, false, false, false, false, false, false, false, false]) (by kernel_rfl) (by kernel_rfl) (fun hHeld => ?_)
          refine AnyP.take (i := 0) (fuel := 25) (d := some 84) (listed' := #[true, false, false, false, false, false, false, false, false, false, false, false, false, false, false, false, false, false, false, false, false, false, false, false, false, false]) (oi := _) (v := ?v0yb) rfl (by kernel_rfl) (by kernel_rfl) (by kernel_rfl) (fun _ _ _ h => h) (Or.inl ⟨by rfl, ?hy0yb⟩) (by rfl) (by rfl) ?rest0yb
          case hy0yb => intro w; go_simp; try with_reducible rfl
          try simp only [Act.put, List.setIfInBounds_toArray, List.set_cons_zero, List.set_cons_succ]
          refine AnyP.take (i := 1) (fuel := 24) (d := some 85) (listed' := #[true, true, false, false, false, false, false, false, false, false, false, false, false, false, false, false, false, false, false, false, false, false, false, false, false, false]) (oi := _) (v := ?v1yb) rfl (by kernel_rfl) (by kernel_rfl) (by kernel_rfl) (fun _ _ _ h => h) (Or.inl ⟨by rfl, ?hy1yb⟩) (by rfl) (by rfl) ?rest1yb
          case hy1yb => intro w; go_simp; try with_reducible rfl
          try simp only [Act.put, List.setIfInBounds_toArray, List.set_cons_zero, List.set_cons_succ]
          refine AnyP.take (i := 2) (fuel := 23) (d := some 86) (listed' := #[true, true, true, false, false, false, false, false, false, false, false, false, false, false, false, false, false, false, false, false, false, false, false, false, false, false]) (oi := _) (v := ?v2yb) rfl (by kernel_rfl) (by kernel_rfl) (by kernel_rfl) (fun _ _ _ h => h) (Or.inl ⟨by rfl, ?hy2yb⟩) (by rfl) (by rfl) ?rest2yb
          case hy2yb => intro w; go_simp; try with_reducible rfl
          try simp only [Act.put, List.setIfInBounds_toArray, List.set_cons_zero, List.set_cons_succ]
          refine AnyP.take (i := 3) (fuel := 22) (d := some 87) (listed' := #[true, true, true, true, false, false, false, false, false, false, false, false, false, false, false, false, false, false, false, false, false, false, false, false, false, false]) (oi := _) (v := undef) rfl (by kernel_rfl) (by kernel_rfl) (by kernel_rfl) (fun _ _ _ h => h) (Or.inr ⟨by rfl, rfl⟩) (by rfl) (by rfl) ?rest3yb
          try simp only [Act.put, List.setIfInBounds_toArray, List.set_cons_zero, List.set_cons_succ]
          refine AnyP.take (i := 4) (fuel := 21) (d := some 88) (listed' := #[true, true, true, true, true, false, false, false, false, false, false, false, false, false, false, false, false, false, false, false, false, false, false, false, false, false]) (oi := _) (v := undef) rfl (by kernel_rfl) (by kernel_rfl) (by kernel_rfl) (fun _ _ _ h => h) (Or.inr ⟨by rfl, rfl⟩) (by rfl) (by rfl) ?rest4yb
          try simp only [Act.put, List.setIfInBounds_toArray, List.set_cons_zero, List.set_cons_succ]
          refine AnyP.take (i := 5) (fuel := 20) (d := some 89) (listed' := #[true, true, true, true, true, true, false, false, false, false, false, false, false, false, false, false, false, false, false, false, false, false, false, false, false, false]) (oi := _) (v := undef) rfl (by kernel_rfl) (by kernel_rfl) (by kernel_rfl) (fun _ _ _ h => h) (Or.inr ⟨by rfl, rfl⟩) (by rfl) (by rfl) ?rest5yb
          try simp only [Act.put, List.setIfInBounds_toArray, List.set_cons_zero, List.set_cons_succ]
          refine AnyP.take (i := 6) (fuel := 19) (d := some 90) (listed' := #[true, true, true, true, true, true, true, false, false, false, false, false, false, false, false, false, false, false, false, false, false, false, false, false, false, false]) (oi := _) (v := ?v6yb) rfl (by kernel_rfl) (by kernel_rfl) (by kernel_rfl) (fun _ _ _ h => h) (Or.inl ⟨by rfl, ?hy6yb⟩) (by rfl) (by rfl) ?rest6yb
          case hy6yb => intro w; go_simp; try with_reducible rfl
          try simp only [Act.put, List.setIfInBounds_toArray, List.set_cons_zero, List.set_cons_succ]
          refine AnyP.take (i := 7) (fuel := 18) (d := some 91) (listed' := #[true, true, true, true, true, true, true, true, false, false, false, false, false, false, false, false, false, false, false, false, false, false, false, false, false, false]) (oi := _) (v := ?v7yb) rfl (by kernel_rfl) (by kernel_rfl) (by kernel_rfl) (fun _ _ _ h => h) (Or.inl ⟨by rfl, ?hy7yb⟩) (by rfl) (by rfl) ?rest7yb
          case hy7yb => intro w; go_simp; try with_reducible rfl
          try simp only [Act.put, List.setIfInBounds_toArray, List.set_cons_zero, List.set_cons_succ]
          refine AnyP.take (i := 8) (fuel := 17) (d := some 92) (listed' := #[true, true, true, true, true, true, true, true, true, false, false, false, false, false, false, false, false, false, false, false, false, false, false, false, false, false]) (oi := _) (v := ?v8yb) rfl (by kernel_rfl) (by kernel_rfl) (by kernel_rfl) (fun _ _ _ h => h) (Or.inl ⟨by rfl, ?hy8yb⟩) (by rfl) (by rfl) ?rest8yb
          case hy8yb => intro w; go_simp; try with_reducible rfl
          try simp only [Act.put, List.setIfInBounds_toArray, List.set_cons_zero, List.set_cons_succ]
          refine AnyP.take (i := 9) (fuel := 16) (d := some 93) (listed' := #[true, true, true, true, true, true, true, true, true, true, false, false, false, false, false, false, false, false, false, false, false, false, false, false, false, false]) (oi := _) (v := ?v9yb) rfl (by kernel_rfl) (by kernel_rfl) (by kernel_rfl) (fun _ _ _ h => h) (Or.inl ⟨by rfl, ?hy9yb⟩) (by rfl) (by rfl) ?rest9yb
          case hy9yb => intro w; go_simp; try with_reducible rfl
          try simp only [Act.put, List.setIfInBounds_toArray, List.set_cons_zero, List.set_cons_succ]
          refine AnyP.take (i := 10) (fuel := 15) (d := some 94) (listed' := #[true, true, true, true, true, true, true, true, true, true, true, false, false, false, false, false, false, false, false, false, false, false, false, false, false, false]) (oi := _) (v := ?v10yb) rfl (by kernel_rfl) (by kernel_rfl) (by kernel_rfl) (fun _ _ _ h => h) (Or.inl ⟨by rfl, ?hy10yb⟩) (by rfl) (by rfl) ?rest10yb
          case hy10yb => intro w; go_simp; try with_reducible rfl
          try simp only [Act.put, List.setIfInBounds_toArray, List.set_cons_zero, List.set_cons_succ]
          refine AnyP.take (i := 11) (fuel := 14) (d := some 95) (listed' := #[true, true, true, true, true, true, true, true, true, true, true, true, false, false, false, false, false, false, false, false, false, false, false, false, false, false]) (oi := _) (v := ?v11yb) rfl (by kernel_rfl) (by kernel_rfl) (by kernel_rfl) (fun _ _ _ h => h) (Or.inl ⟨by rfl, ?hy11yb⟩) (by rfl) (by rfl) ?rest11yb
          case hy11yb => intro w; go_simp; try with_reducible rfl
          try simp only [Act.put, List.setIfInBounds_toArray, List.set_cons_zero, List.set_cons_succ]
          refine AnyP.load (i := 12) (fuel := 13) (d := some 96) (listed' := #[true, true, true, true, true, true, true, true, true, true, true, true, true, false, false, false, false, false, false, false, false, false, false, false, false, false]) (oi := _) (v := ?v12yb) [] rfl (by kernel_rfl) (by kernel_rfl) (by kernel_rfl) (by kernel_rfl) (by kernel_rfl) (by kernel_rfl) (fun _ _ _ h => h) (Or.inl ⟨by rfl, ?hy12yb⟩) hHeld (by rfl) (by rfl) ?rest12yb
          case hy12yb => intro w hSw; (try dsimp only at hSw); go_simp; try with_reducible rfl
          try simp only [Act.put, List.setIfInBounds_toArray, List.set_cons_zero, List.set_cons_succ]
          refine AnyP.take (i := 13) (fuel := 12) (d := some 97) (listed' := #[true, true, true, true, true, true, true, true, true, true, true, true, true, true, false, false, false, false, false, false, false, false, false, false, false, false]) (oi := _) (v := ?v13yb) rfl (by kernel_rfl) (by kernel_rfl) (by kernel_rfl) (fun _ _ _ h => h) (Or.inl ⟨by rfl, ?hy13yb⟩) (by rfl) (by rfl) ?rest13yb
          case hy13yb => intro w; go_simp; try with_reducible rfl
          try simp only [Act.put, List.setIfInBounds_toArray, List.set_cons_zero, List.set_cons_succ]
          refine AnyP.load (i := 14) (fuel := 11) (d := some 98) (listed' := #[true, true, true, true, true, true, true, true, true, true, true, true, true, true, true, false, false, false, false, false, false, false, false, false, false, false]) (oi := _) (v := ?v14yb) [] rfl (by kernel_rfl) (by kernel_rfl) (by kernel_rfl) (by kernel_rfl) (by kernel_rfl) (by kernel_rfl) (fun _ _ _ h => h) (Or.inl ⟨by rfl, ?hy14yb⟩) hHeld (by rfl) (by rfl) ?rest14yb
          case hy14yb => intro w hSw; (try dsimp only at hSw); go_simp; try with_reducible rfl
          try simp only [Act.put, List.setIfInBounds_toArray, List.set_cons_zero, List.set_cons_succ]
          refine AnyP.take (i := 15) (fuel := 10) (d := some 99) (listed' := #[true, true, true, true, true, true, true, true, true, true, true, true, true, true, true, true, false, false, false, false, false, false, false, false, false, false]) (oi := _) (v := ?v15yb) rfl (by kernel_rfl) (by kernel_rfl) (by kernel_rfl) (fun _ _ _ h => h) (Or.inl ⟨by rfl, ?hy15yb⟩) (by rfl) (by rfl) ?rest15yb
          case hy15yb => intro w; go_simp; try with_reducible rfl
          try simp only [Act.put, List.setIfInBounds_toArray, List.set_cons_zero, List.set_cons_succ]
          refine AnyP.take (i := 16) (fuel := 9) (d := some 100) (listed' := #[true, true, true, true, true, true, true, true, true, true, true, true, true, true, true, true, true, false, false, false, false, false, false, false, false, false]) (oi := _) (v := ?v16yb) rfl (by kernel_rfl) (by kernel_rfl) (by kernel_rfl) (fun _ _ _ h => h) (Or.inl ⟨by rfl, ?hy16yb⟩) (by rfl) (by rfl) ?rest16yb
          case hy16yb => intro w; go_simp; try with_reducible rfl
          try simp only [Act.put, List.setIfInBounds_toArray, List.set_cons_zero, List.set_cons_succ]
          refine AnyP.take (i := 17) (fuel := 8) (d := some 101) (listed' := #[true, true, true, true, true, true, true, true, true, true, true, true, true, true, true, true, true, true, false, false, false, false, false, false, false, false]) (oi := _) (v := ?v17yb) rfl (by kernel_rfl) (by kernel_rfl) (by kernel_rfl) (fun _ _ _ h => h) (Or.inl ⟨by rfl, ?hy17yb⟩) (by rfl) (by rfl) ?rest17yb
          case hy17yb => intro w; go_simp; try with_reducible rfl
          try simp only [Act.put, List.setIfInBounds_toArray, List.set_cons_zero, List.set_cons_succ]
          refine AnyP.load (i := 18) (fuel := 7) (d := some 102) (listed' := #[true, true, true, true, true, true, true, true, true, true, true, true, true, true, true, true, true, true, true, false, false, false, false, false, false, false]) (oi := _) (v := ?v18yb) [] rfl (by kernel_rfl) (by kernel_rfl) (by kernel_rfl) (by kernel_rfl) (by kernel_rfl) (by kernel_rfl) (fun _ _ _ h => h) (Or.inl ⟨by rfl, ?hy18yb⟩) hHeld (by rfl) (by rfl) ?rest18yb
          case hy18yb => intro w hSw; (try dsimp only at hSw); go_simp; try with_reducible rfl
          try simp only [Act.put, List.setIfInBounds_toArray, List.set_cons_zero, List.set_cons_succ]
          refine AnyP.take (i := 19) (fuel := 6) (d := some 103) (listed' := #[true, true, true, true, true, true, true, true, true, true, true, true, true, true, true, true, true, true, true, true, false, false, false, false, false, false]) (oi := _) (v := ?v19yb) rfl (by kernel_rfl) (by kernel_rfl) (by kernel_rfl) (fun _ _ _ h => h) (Or.inl ⟨by rfl, ?hy19yb⟩) (by rfl) (by rfl) ?rest19yb
          case hy19yb => intro w; go_simp; try with_reducible rfl
          try simp only [Act.put, List.setIfInBounds_toArray, List.set_cons_zero, List.set_cons_succ]
          refine AnyP.take (i := 20) (fuel := 5) (d := some 104) (listed' := #[true, true, true, true, true, true, true, true, true, true, true, true, true, true, true, true, true, true, true, true, true, false, false, false, false, false]) (oi := _) (v := ?v20yb) rfl (by kernel_rfl) (by kernel_rfl) (by kernel_rfl) (fun _ _ _ h => h) (Or.inl ⟨by rfl, ?hy20yb⟩) (by rfl) (by rfl) ?rest20yb
          case hy20yb => intro w; go_simp; try with_reducible rfl
          try simp only [Act.put, List.setIfInBounds_toArray, List.set_cons_zero, List.set_cons_succ]
          refine AnyP.take (i := 21) (fuel := 4) (d := some 105) (listed' := #[true, true, true, true, true, true, true, true, true, true, true, true, true, true, true, true, true, true, true, true, true, true, false, false, false, false]) (oi := _) (v := ?v21yb) rfl (by kernel_rfl) (by kernel_rfl) (by kernel_rfl) (fun _ _ _ h => h) (Or.inl ⟨by rfl, ?hy21yb⟩) (by rfl) (by rfl) ?rest21yb
          case hy21yb => intro w; go_simp; try with_reducible rfl
          try simp only [Act.put, List.setIfInBounds_toArray, List.set_cons_zero, List.set_cons_succ]
          refine AnyP.take (i := 22) (fuel := 3) (d := some 106) (listed' := #[true, true, true, true, true, true, true, true, true, true, true, true, true, true, true, true, true, true, true, true, true, true, true, false, false, false]) (oi := _) (v := ?v22yb) rfl (by kernel_rfl) (by kernel_rfl) (by kernel_rfl) (fun _ _ _ h => h) (Or.inl ⟨by rfl, ?hy22yb⟩) (by rfl) (by rfl) ?rest22yb
          case hy22yb => intro w; go_simp; try with_reducible rfl
          try simp only [Act.put, List.setIfInBounds_toArray, List.set_cons_zero, List.set_cons_succ]
          refine AnyP.one (i := 23) (o := ?o23yb) (fuel := 2) (listed' := #[true, true, true, true, true, true, true, true, true, true, true, true, true, true, true, true, true, true, true, true, true, true, true, true, false, false]) (by kernel_rfl) ?ho23yb (by rfl) (fun K' hK' => ?step23yb)
          case ho23yb => simp only [List.getElem?_toArray, List.getElem?_cons_succ, List.getElem?_cons_zero]; rfl
          go_simp
          go_at_call 67
          refine (HAW.out _).mono ?_
          rintro e wb ⟨rfl, hbb⟩
          go_wp2_with fail
          refine hK'.out _ _ (fun _ => ⟨(Box.facts3 (hLN.drew.call hbb)).2.1, (Box.facts4 (hXN.drew.call hbb)).1, (cell_call hvD hbb)⟩) (fun hHeld => ?_)
          clear hK' K'
          try simp only [Act.put, List.setIfInBounds_toArray, List.set_cons_zero, List.set_cons_succ]
          refine AnyP.take (i := 24) (fuel := 1) (d := some 108) (listed' := #[true, true, true, true, true, true, true, true, true, true, true, true, true, true, true, true, true, true, true, true, true, true, true, true, true, false]) (oi := _) (v := ?v24yb) rfl (by kernel_rfl) (by kernel_rfl) (by kernel_rfl) (fun _ _ _ h => h) (Or.inl ⟨by rfl, ?hy24yb⟩) (by rfl) (by rfl) ?rest24yb
          case hy24yb => intro w; go_simp; try with_reducible rfl
          try simp only [Act.put, List.setIfInBounds_toArray, List.set_cons_zero, List.set_cons_succ]
          refine AnyP.take (i := 25) (fuel := 0) (d := some 6) (listed' := #[true, true, true, true, true, true, true, true, true, true, true, true, true, true, true, true, true, true, true, true, true, true, true, true, true, true]) (oi := _) (v := ?v25yb) rfl (by kernel_rfl) (by kernel_rfl) (by kernel_rfl) (fun _ _ _ h => h) (Or.inl ⟨by rfl, ?hy25yb⟩) (by rfl) (by rfl) ?rest25yb
          case hy25yb => intro w; go_simp; try with_reducible rfl
          try simp only [Act.put, List.setIfInBounds_toArray, List.set_cons_zero, List.set_cons_succ]
          refine AnyP.done (by kernel_rfl) ?_ _
          go_wp2
          go_ret
          exact ⟨rfl, (HCN.out.drew.step (Ch.of_below (S := fun _ => False) hbb) (by simpa using hzN) (fun _ _ e => e)).below (fun _ _ e => e)⟩
theorem clientLight_calls (fl : Int) (A : Option Addr) (c : Nat) (l : List Rc) (sq certs spoil : Int) (key : ByteArray) (W : World) (hs : RcS W A c l) (hc : l.length ≤ c) (hsq : -9223372036854775808 ≤ sq ∧ sq ≤ 9223372036854775807) (hce : -9223372036854775808 ≤ certs ∧ certs ≤ 9223372036854775807) :
    Calls Try.prog 31 #[.int .i64 fl, .agg #[.slice A l.length c, .int .i64 sq, .int .i64 certs, .int .i64 spoil], .string key] W fun e w' => e = .returned (.bool true) ∧ Below W.heap.size W w' := by
  refine clientLight_cut fl A c (l.take 60) l.length sq certs spoil key W (hs.take 60) (by simp; omega) ?_ hs.fits ?_ hsq hce
  · rcases Nat.lt_or_ge 60 l.length with h | h
    · exact .inr ⟨h, by simp; omega, hc⟩
    · exact .inl ⟨by simp; omega, h⟩
  · rcases Nat.eq_zero_or_pos l.length with h | h
    · exact .inl h
    · obtain ⟨a, rfl, _⟩ := hs.elem 0 h
      exact .inr ⟨a, rfl⟩
end Go.Proofs.Ytfgpchffkpomoaa
