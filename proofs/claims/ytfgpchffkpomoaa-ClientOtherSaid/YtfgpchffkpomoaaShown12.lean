/- What a light client is shown: the walk. -/
import Derived.Test.YtfgpchffkpomoaaPk32
import Derived.Test.YtfgpchffkpomoaaPk26
import Derived.Test.YtfgpchffkpomoaaPk30
namespace Go.Proofs.Ytfgpchffkpomoaa
set_option linter.unusedSimpArgs false
set_option linter.unusedVariables false
open Go.RowKit

/-- What is shown, and what it stands on. -/
structure Shown (T : List ByteArray) (S : List Wd) (F : Nat) (L : List Rc) (sq : Int) (key : ByteArray) (out : ByteArray) (good : Nat) : Prop where
  rise : riseE L = 0
  fits : fitK key = true
  root : RootIn T L
  shows : ∃ tt l sg, out = bs (putSg sg) ∧ ShownOk S F (4 * (1 + (rnd sq 100 : Nat))) (rootP (hh T) L) tt l good sg ∧ proofE L.length (proofP (hh T) L key) = (tt, 0)
def ShownPost (w0 : World) (b t m n : Nat) (F : Nat) (L : List Rc) (sq : Int) (key : ByteArray) (e : Ending) (w' : World) : Prop :=
  ∃ T S out good ok, e = .returned (.tuple #[.string out, .int .i64 good, .bool ok]) ∧ Hid (ok = true → ∃ g : Nat, good = (g : Int) ∧ g ≤ 3 * F + 1 ∧ Shown T S F L sq key out g) ∧
    T.length ≤ 30000 ∧ S.length ≤ 20 ∧ Ch w0.heap.size (fun i => i = m ∨ i = n) w0 w' ∧ Bk w' b t m n T S
theorem ch_m {B m n : Nat} {w w' : World} (h : Ch B (· = m) w w') : Ch B (fun i => i = m ∨ i = n) w w' := h.mono (Nat.le_refl _) (fun _ _ e => .inl e)
theorem ch_n {B m n : Nat} {w w' : World} (h : Ch B (· = n) w w') : Ch B (fun i => i = m ∨ i = n) w w' := h.mono (Nat.le_refl _) (fun _ _ e => .inr e)

set_option maxHeartbeats 4000000 in
set_option maxRecDepth 100000 in
theorem shown12_calls (b t m n : Nat) (F : Nat) (A : Option Addr) (c : Nat) (L : List Rc) (sq certs spoil : Int) (key : ByteArray) (w : World) (hF : 1 ≤ F ∧ F ≤ 4) (hb : Bk w b t m n [] []) (hs : RcS w A c L) (hl : L.length ≤ 60) (hA : Off A L.length m) (hsq : -9223372036854775808 ≤ sq ∧ sq ≤ 9223372036854775807) (hce : -9223372036854775808 ≤ certs ∧ certs ≤ 9223372036854775807) :
    Calls Try.prog 90 #[.pointer (some ⟨b, 0, none⟩), .int .i64 (F : Int), .agg #[.slice A L.length c, .int .i64 sq, .int .i64 certs, .int .i64 spoil], .string key] w (ShownPost w b t m n F L sq key) := by
  have hfit := hs.fits
  have hbl := (Below.refl w.heap.size w).alloc (Nat.le_refl _) (.cells #[.slice A L.length c, .int .i64 sq, .int .i64 certs, .int .i64 spoil] 157)
  have HX0 := Lib.hid (Box.new w #[.slice A L.length c, .int .i64 sq, .int .i64 certs, .int .i64 spoil] 157)
  obtain ⟨W0, hW0⟩ : ∃ W0, W0 = w.alloc (.cells #[.slice A L.length c, .int .i64 sq, .int .i64 certs, .int .i64 spoil] 157) := ⟨_, rfl⟩
  rw [← hW0] at HX0 hbl
  have HB0 := Lib.hid hbl
  have hz0 := HB0.out.size
  have HWW := Lib.hid hW0
  have HSL := Lib.hid (hs.below hbl)
  have HO := Lib.hid hA
  have hml := hb.all_lt
  have HRT := Lib.hid (mRoot_calls b t m n [] [] A c L W0 (hb.below hbl) (by decide) HSL.out hA)
  have HAR := Lib.hid (fun w => around12_calls sq 100 w (by decide) (by decide))
  have hrs := rnd_lt sq (m := 100) (by decide)
  have HAC := Lib.hid (fun w => around12_calls certs (3 * F + 2) w (by omega) (by omega))
  have hrc := rnd_lt certs (m := 3 * F + 2) (by omega)
  obtain ⟨K, hK⟩ : ∃ K, K = rnd certs (3 * F + 2) := ⟨_, rfl⟩
  obtain ⟨rs, hrs2⟩ : ∃ K, K = rnd sq 100 := ⟨_, rfl⟩
  rw [← hK] at HAC hrc
  rw [← hrs2] at HAR hrs
  have HRS := Lib.hid hrs2
  unfold RndPost at HAR HAC
  clear hW0 hb hs hA hbl hK hrs2
  obtain ⟨k0, k1, k2, k3, -⟩ := Box.facts4 HX0.out
  go_enter Try.func90, Try.ntmps90
  go_wp2_with fail
  rw [← HWW.out]
  refine HRT.out.mono ?_
  rintro e w2 ⟨T2, x2, rfl, hx2, e2, l2, ch2, k2'⟩
  have HX2 := Lib.hid (Box.ch HX0.out ch2 HX0.out.lt (by omega))
  have HC2 := Lib.hid ((Ch.of_below (S := fun i => i = m ∨ i = n) HB0.out).step (ch_m ch2) hz0 (fun _ _ e => e))
  have hz2 := HC2.out.size
  have HSL2 := Lib.hid (HSL.out.off ch2 HO.out)
  have HPV := Lib.hid (mProve_calls b t m n T2 [] A c L key w2 k2' (by simp at l2; omega) HSL2.out HO.out)
  have HR2 := Lib.hid hx2.out
  have HE2 := Lib.hid e2
  have hxl := HX2.out.lt
  clear hx2 ch2 k2' e2 k0 k1 k2 k3
  obtain ⟨k0, k1, k2, k3, -⟩ := Box.facts4 HX2.out
  obtain ⟨ce, hce2⟩ : ∃ ce, ce = riseE L := ⟨_, rfl⟩
  rw [← hce2]
  have HCE := Lib.hid hce2
  clear hce2
  go_wp2_with fail
  refine HPV.out.mono ?_
  rintro e w3 ⟨T3, A3, c3, ps, cnt, cd, rfl, hpv, e3, l3, ch3, k3', p3, r3⟩
  have hal := (Below.refl w3.heap.size w3).alloc (Nat.le_refl _) (.cells #[.int .i64 cnt, .slice A3 ps.length c3] 35)
  obtain ⟨W3, hW3⟩ : ∃ W3, W3 = w3.alloc (.cells #[.int .i64 cnt, .slice A3 ps.length c3] 35) := ⟨_, rfl⟩
  rw [← hW3] at hal
  have HX3 := Lib.hid (show Box W3 w.heap.size #[.slice A L.length c, .int .i64 sq, .int .i64 certs, .int .i64 spoil] 157 from (Box.ch HX2.out ch3 HX2.out.lt (by omega)).call hal)
  have HP3 := Lib.hid (show Box W3 w3.heap.size #[.int .i64 cnt, .slice A3 ps.length c3] 35 by rw [hW3]; exact Box.new w3 _ _)
  have hz23 := ch3.size
  have HC3 := Lib.hid (show Ch w.heap.size (fun i => i = m ∨ i = n) w W3 by rw [hW3]; exact (HC2.out.step (ch_m ch3) hz2 (fun _ _ e => e)).alloc (by omega) _)
  have HK3 := Lib.hid (k3'.below hal)
  have HPM := Lib.hid (p3.below hal)
  have HPN := Lib.hid (show ∀ k, Row A3 k → k ≠ n from fun k hk => by have := r3.1 k hk; omega)
  have HPN2 := Lib.hid (show ∀ x ∈ ps, ∀ k, Row x.A k → k ≠ n from fun x hx k hk => by have := r3.2.1 x hx k hk; omega)
  have HPVV := Lib.hid hpv.out
  have HE3 := Lib.hid e3
  have hz3 := HC3.out.size
  have hpf := p3.1.fits
  have hWW3 := Lib.hid hW3
  clear hpv e3 ch3 k3' p3 r3 hal k0 k1 k2 k3
  obtain ⟨k0, k1, k2, k3, -⟩ := Box.facts4 HX3.out
  rw [hW3] at k0 k1 k2 k3
  clear hW3
  go_wp2_with fail
  rw [← hWW3.out] at *
  refine (HAR.out _).mono ?_
  rintro e w4 ⟨rfl, rfl⟩
  have hw5 : IntKind.i64.wrap (1 + (rs : Int)) = 1 + (rs : Int) := wrap_near _ (by omega) (by omega)
  have hw6 : IntKind.i64.wrap (4 * (1 + (rs : Int))) = 4 * (1 + (rs : Int)) := wrap_near _ (by omega) (by omega)
  have hT3 : T3.length ≤ 30000 := by simp at l2; omega
  clear l2 l3 k1
  by_cases hr : riseE L = 0
  rotate_left
  · have hd0 : (ce == 0) = false := by rw [beq_eq_false_iff_ne, HCE.out]; exact hr
    clear hr
    go_wp2_with fail
    refine bodyPost_ret (v := .tuple #[.string ⟨#[]⟩, .int .i64 0, .bool false]) (by simp [results, Try.results90, go_sem]) rfl ?_
    exact ⟨T3, [], ⟨#[]⟩, 0, false, rfl, Lib.hid (fun h => by cases h), hT3, by simp, HC3.out, HK3.out⟩
  · obtain rfl : ce = 0 := by rw [HCE.out]; exact hr
    by_cases hf : fitK key = true
    rotate_left
    · have hf2 : fitK key = false := by simpa using hf
      obtain ⟨rfl, rfl, rfl⟩ := HPVV.out.2.1 hr hf2
      clear hf hf2 hr
      go_wp2_with fail
      refine bodyPost_ret (v := .tuple #[.string ⟨#[]⟩, .int .i64 0, .bool false]) (by simp [results, Try.results90, go_sem]) rfl ?_
      exact ⟨T3, [], ⟨#[]⟩, 0, false, rfl, Lib.hid (fun h => by cases h), hT3, by simp, HC3.out, HK3.out⟩
    · obtain ⟨rfl, rfl, hps, hli, hsi⟩ := HPVV.out.1 hr hf
      obtain ⟨hxa, hxb⟩ := HR2.out.1 hr
      have hx8 : x2.size = 8 := by rw [hxa]; exact hh_size _ _
      have hpk : pfOk ((L.length : Nat) : Int) (ps.map Pm.pt) = true := by rw [hps]; exact (verify_honest (T := T3) hr hf).1
      obtain ⟨hri, hre⟩ := hxb.ext HE3.out
      have HROOT := Lib.hid (show x2 = rootP (hh T3) L from hxa.trans hre.symm)
      have HRIN := Lib.hid hri
      have HR := Lib.hid hr
      have HFK := Lib.hid hf
      have HPS := Lib.hid hps
      have hlpf := putPf_most hpk
      have hpe : proofE (L.length : Nat) (ps.map Pm.pt) = (bs (putPf (L.length : Nat) (ps.map Pm.pt)), 0) := by unfold proofE; rw [if_pos hpk]
      obtain ⟨tt, htt⟩ : ∃ tt, tt = bs (putPf (L.length : Nat) (ps.map Pm.pt)) := ⟨_, rfl⟩
      have ht1 : 0 < tt.size ∧ tt.size ≤ 100000 := by rw [htt, bs_size]; omega
      rw [← htt] at hpe
      have HPE := Lib.hid hpe
      clear hr hf hps hli hsi hxa hxb hpk hri hre hlpf htt hpe HPVV HR2 HCE
      have hs4 : 4 ≤ 4 * (1 + (rs : Int)) ∧ 4 * (1 + (rs : Int)) ≤ 1000000 := by omega
      have H4 := Lib.hid (show Int.tmod (4 * (1 + (rs : Int))) 4 = 0 by rw [Int.mul_tmod_right])
      have hw7 : IntKind.i64.wrap (4 * (1 + (rs : Int)) + 4) = 4 * (1 + (rs : Int)) + 4 := wrap_near _ (by omega) (by omega)
      obtain ⟨B, hB⟩ : ∃ B : Nat → Bool, ∀ i : Nat, i < 14 → (bits .and .i64 (spoil / 2 ^ i) 1 == 1) = B i := ⟨fun i => (bits .and .i64 (spoil / 2 ^ i) 1 == 1), fun _ _ => rfl⟩
      go_wp2_with fail
      go_loopg [16, 17, 18] K (fun g v16 v17 v18 wr => ∃ (k : Nat) (A1 : Option Addr) (c1 : Nat), v16 = .slice A1 k c1 ∧ v17 = .int .i64 (goodN B k) ∧ v18 = .int .i64 k ∧ k ≤ K ∧ Hid (g + k = K ∧ Ch W3.heap.size (· = n) W3 wr ∧ Bk wr b t m n T3 (certsS B (4 * (1 + (rs : Int))) x2 k).2 ∧ wr.ownsRow W3.heap.size 61 3 (.slice A1 k c1) k ((certsS B (4 * (1 + (rs : Int))) x2 k).1.flatMap Sg.cells)))
      case atStart => exact ⟨0, none, 0, rfl, rfl, rfl, by omega, rfl, Ch.refl _ _ _, HK3.out, ⟨rfl, .inl ⟨rfl, rfl⟩⟩⟩
      case round =>
        obtain ⟨k, A1, c1, rfl, rfl, rfl, hk, HH⟩ := hrel
        obtain ⟨hg, hch, hbk, hown⟩ := HH.out
        have HG := Lib.hid hg
        have HCH := Lib.hid hch
        have HBK := Lib.hid hbk
        have HOW := Lib.hid hown
        have HXR := Lib.hid (Box.ch HX3.out hch HX3.out.lt (by omega))
        have hzr := hch.size
        clear HH hg hch hbk hown k0 k2 k3
        obtain ⟨k0, k1, k2, k3, -⟩ := Box.facts4 HXR.out
        go_wp2_with fail
        refine (HAC.out _).mono ?_
        rintro e w5 ⟨rfl, rfl⟩
        by_cases hlt : k < K
        rotate_left
        · obtain rfl : k = K := by omega
          clear hB
          have HPR := Lib.hid (fun w hs => rproof_calls (L.length : Nat) A3 c3 ps w hs)
          rw [HPE.out] at HPR
          unfold StrErr at HPR
          have HPW := Lib.hid (show PmS wr A3 c3 ps from HPM.out.ch HCH.out (fun j hj h => ⟨h, HPN.out j hj⟩) (fun x hx j hj h => ⟨h, HPN2.out x hx j hj⟩))
          have HPB := Lib.hid (Box.ch HP3.out HCH.out HP3.out.lt (by omega))
          obtain ⟨p0, p1, -⟩ := HPB.out.facts2
          have hcl := certs_len B (4 * (1 + (rs : Int))) x2 k
          have hsm := certs_small (B := B) hs4 H4.out hx8 k (by omega)
          obtain ⟨mm, ee, S', h1, h2, h3, h5⟩ := shown_seal (B := B) (F := F) (K := k) (t := tt) (by omega) (by omega) hs4 H4.out hx8 ht1
          have HSE := Lib.hid (fun w A c hb hs => seal_calls b t m n T3 (certsS B (4 * (1 + (rs : Int))) x2 k).2 0 (showB (4 * (1 + (rs : Int))) x2 tt (certsS B (4 * (1 + (rs : Int))) x2 k).1) A c w hb (by omega) hs)
          rw [h1] at HSE
          have hfb := (fitsB_iff mm).1 h3
          have HO1 := Lib.hid (fun w => rOne_calls mm w hfb.1 (by omega) (by omega) (by omega))
          unfold StrPost at HO1
          have H5 := Lib.hid h5
          have HFB := Lib.hid h3
          obtain ⟨out, hout⟩ : ∃ out, out = bs (putSg mm) := ⟨_, rfl⟩
          rw [← hout] at HO1
          have HOUT := Lib.hid hout
          obtain ⟨who6, body6, sig6⟩ := mm
          unfold SealPost at HSE
          unfold showB Bd.val Bd.cells at HSE
          unfold Sg.val at HSE HO1
          simp only [hcl.1] at HSE HO1
          clear h1 h3 h5 hsm hfb hout
          go_wp2_with fail
          refine (HPR.out _ HPW.out).mono ?_
          rintro e w5 ⟨rfl, hb5⟩
          have HOW5 := Lib.hid (own_ch HOW.out (Ch.of_below (S := fun _ => False) hb5) (fun j hj => ⟨(own_row HOW.out hj).2, fun h => h⟩))
          have HBK5 := Lib.hid (HBK.out.below hb5)
          have HC5 := Lib.hid (((HC3.out.step (ch_n HCH.out) hz3 (fun _ _ e => e))).step (Ch.of_below (S := fun _ => False) hb5) (Nat.le_trans hz3 hzr) (fun _ _ e => e.elim))
          have HSGS := Lib.hid (show Sl w5 3 A1 k c1 ((certsS B (4 * (1 + (rs : Int))) x2 k).1.flatMap Sg.cells) from Sl.of_own HOW5.out)
          have hz5 := HC5.out.size
          have HSE5 := Lib.hid (HSE.out w5 A1 c1 HBK5.out (show Sl w5 3 A1 (certsS B (4 * (1 + (rs : Int))) x2 k).1.length c1 _ by rw [hcl.1]; exact HSGS.out))
          clear hb5 p0 p1 k0 k1 k2 k3
          go_wp2_with fail
          refine HSE5.out.mono ?_
          rintro e w6 ⟨rfl, hc6, hk6⟩
          have HBK6 := Lib.hid (hk6.alloc (.cells #[.int .i64 who6, .string body6, .string sig6] 61))
          have HC6 := Lib.hid ((HC5.out.step (ch_n hc6) hz5 (fun _ _ e => e)).alloc (by have := hc6.size; omega) (.cells #[.int .i64 who6, .string body6, .string sig6] 61))
          have hz6 := HC6.out.size
          clear hc6 hk6
          obtain ⟨m0, m1, m2, -⟩ := Box.facts3 (Box.new w6 #[.int .i64 who6, .string body6, .string sig6] 61)
          go_wp2_with fail
          refine (HO1.out _).mono ?_
          rintro e w7 ⟨rfl, hb7⟩
          have HBK7 := Lib.hid (HBK6.out.below hb7)
          have HC7 := Lib.hid (HC6.out.step (Ch.of_below (S := fun _ => False) hb7) hz6 (fun _ _ e => e.elim))
          clear hb7 m0 m1 m2
          go_wp2
          refine bodyPost_ret (v := .tuple #[.string out, .int .i64 (goodN B k), .bool (ee == 0)]) (by simp [results, Try.results90, go_sem]) rfl ?_
          exact ⟨T3, S', out, goodN B k, ee == 0, rfl, Lib.hid (fun h => ⟨goodN B k, rfl, by have := goodN_le B k; omega, ⟨HR.out, HFK.out, HRIN.out, tt, (certsS B (4 * (1 + (rs : Int))) x2 k).1, _, HOUT.out, by rw [← HRS.out, ← HROOT.out]; exact H5.out (by simpa using h), by rw [← HPS.out]; exact HPE.out⟩⟩), hT3, by omega, HC7.out, HBK7.out⟩
        · obtain ⟨mm, X, h1, h2, h3, h5⟩ := certs_next (B := B) (root := x2) (k := k) (by omega) hs4 H4.out hx8
          have hcl := (certs_len B (4 * (1 + (rs : Int))) x2 k).2
          have HSE := Lib.hid (seal_calls b t m n T3 (certsS B (4 * (1 + (rs : Int))) x2 k).2 k (checkB (atC B (4 * (1 + (rs : Int))) k) x2) none 0 wr HBK.out (by omega) (sgs_nil wr))
          rw [h1] at HSE
          unfold SealPost at HSE
          have HNX := Lib.hid h5
          have hgl := goodN_le B k
          obtain ⟨who6, body6, sig6⟩ := mm
          unfold Sg.val at HSE
          simp only at HSE
          have hrow : ∀ j, Row A1 j → w.heap.size < j ∧ w3.heap.size < j ∧ W3.heap.size ≤ j ∧ j < wr.heap.size := fun j hj => by have := own_row HOW.out hj; have := HX3.out.lt; have := HP3.out.lt; omega
          clear h1 h2 h3 h5
          cases hBk : B k
          rotate_left
          · have hbb : (bits .and .i64 (spoil / 2 ^ k) 1 == 1) = true := by rw [hB k (by omega), hBk]
            have hat : atC B (4 * (1 + (rs : Int))) k = 4 * (1 + (rs : Int)) + 4 := by unfold atC; rw [hBk]; rfl
            have hgd : goodN B (k + 1) = goodN B k := by show goodN B k + (if B k = true then 0 else 1) = _; rw [hBk]; rfl
            have HGD := Lib.hid hgd
            rw [hat] at HSE
            unfold checkB Bd.val Bd.cells at HSE
            simp only [List.length_nil] at HSE
            clear hat hgd hBk hB
            go_wp2_with fail
            refine HSE.out.mono ?_
            rintro e w6 ⟨rfl, hc6, hk6⟩
            have HBK6 := Lib.hid hk6
            have HCH6 := Lib.hid (HCH.out.step hc6 hzr (fun _ _ e => e))
            have HOW6 := Lib.hid (own_ch HOW.out hc6 (fun j hj => ⟨(own_row HOW.out hj).2, by have := hrow j hj; omega⟩))
            have hz6 := HCH6.out.size
            have hz56 := hc6.size
            clear hc6 hk6 k0 k1 k2 k3 HSE
            obtain ⟨m0, m1, m2, -⟩ := Box.facts3 (Box.new w6 #[.int .i64 who6, .string body6, .string sig6] 61)
            go_wp2_with (at_builtin; have HP7 := Lib.hid (show Below w6.heap.size w6 ((w6.alloc (.cells #[.int .i64 who6, .string body6, .string sig6] 61)).alloc (.cells #[.int .i64 who6, .string body6, .string sig6] 61)) from ((Below.refl w6.heap.size w6).alloc (Nat.le_refl _) _).alloc (by simp) _); have HBX7 := Lib.hid (show Box ((w6.alloc (.cells #[.int .i64 who6, .string body6, .string sig6] 61)).alloc (.cells #[.int .i64 who6, .string body6, .string sig6] 61)) (w6.heap.size + 1) #[.int .i64 who6, .string body6, .string sig6] 61 from by have h := Box.new (w6.alloc (.cells #[.int .i64 who6, .string body6, .string sig6] 61)) #[.int .i64 who6, .string body6, .string sig6] 61; simp only [World.size_alloc] at h; exact h); refine app_row rfl (.tmp 82) (.tmp 84) 57 rfl W3.heap.size 61 _ 3 40 info_sg Try.underlying57 rfl (by decide) A1 c1 k ((certsS B (4 * (1 + (rs : Int))) x2 k).1.flatMap Sg.cells) rfl (own_ch HOW6.out (Ch.of_below (S := fun _ => False) HP7.out) (fun j hj => ⟨(own_row HOW6.out hj).2, fun h => h⟩)) _ 1 1 (Sg.cells ⟨who6, body6, sig6⟩) rfl rfl (news_box HBX7.out) (Sg.one ⟨who6, body6, sig6⟩) ?hb1 ?hb2 ?hb3 ?_; (case hb1 => omega); (case hb2 => omega); (case hb3 => simp; omega); intro A8 c8 w8 ho8 hc8 hA8; have hs7 := HP7.out.size; have HO8 := Lib.hid ho8; have HC8 := Lib.hid ((HCH6.out.step (Ch.of_below (S := fun _ => False) HP7.out) hz6 (fun _ _ e => e.elim)).step hc8 (by omega) (fun i hi e => absurd (hrow i e) (by omega))); have HK8 := Lib.hid ((HBK6.out.below HP7.out).ch hc8 (Nat.le_refl _) ⟨fun h => by have := hrow _ h; omega, fun h => by have := hrow _ h; omega, fun h => by have := hrow _ h; omega, fun h => by have := hrow _ h; omega⟩); clear ho8 hc8 hA8)
            go_roundg (K - (k + 1))
            case measure => have := HG.out; omega
            case rel => exact ⟨k + 1, A8, c8, by go_num, by rw [HGD.out], by go_num, by omega, by omega, HC8.out, by rw [HNX.out]; exact HK8.out, by rw [HNX.out]; simpa using HO8.out⟩
          · have hbb : (bits .and .i64 (spoil / 2 ^ k) 1 == 1) = false := by rw [hB k (by omega), hBk]
            have hat : atC B (4 * (1 + (rs : Int))) k = 4 * (1 + (rs : Int)) := by unfold atC; rw [hBk]; rfl
            have hgd : goodN B (k + 1) = goodN B k + 1 := by show goodN B k + (if B k = true then 0 else 1) = _; rw [hBk]; rfl
            have HGD := Lib.hid hgd
            rw [hat] at HSE
            unfold checkB Bd.val Bd.cells at HSE
            simp only [List.length_nil] at HSE
            clear hat hgd hBk hB
            go_wp2_with fail
            refine HSE.out.mono ?_
            rintro e w6 ⟨rfl, hc6, hk6⟩
            have HBK6 := Lib.hid hk6
            have HCH6 := Lib.hid (HCH.out.step hc6 hzr (fun _ _ e => e))
            have HOW6 := Lib.hid (own_ch HOW.out hc6 (fun j hj => ⟨(own_row HOW.out hj).2, by have := hrow j hj; omega⟩))
            have hz6 := HCH6.out.size
            have hz56 := hc6.size
            clear hc6 hk6 k0 k1 k2 k3 HSE
            obtain ⟨m0, m1, m2, -⟩ := Box.facts3 (Box.new w6 #[.int .i64 who6, .string body6, .string sig6] 61)
            go_wp2_with (at_builtin; have HP7 := Lib.hid (show Below w6.heap.size w6 ((w6.alloc (.cells #[.int .i64 who6, .string body6, .string sig6] 61)).alloc (.cells #[.int .i64 who6, .string body6, .string sig6] 61)) from ((Below.refl w6.heap.size w6).alloc (Nat.le_refl _) _).alloc (by simp) _); have HBX7 := Lib.hid (show Box ((w6.alloc (.cells #[.int .i64 who6, .string body6, .string sig6] 61)).alloc (.cells #[.int .i64 who6, .string body6, .string sig6] 61)) (w6.heap.size + 1) #[.int .i64 who6, .string body6, .string sig6] 61 from by have h := Box.new (w6.alloc (.cells #[.int .i64 who6, .string body6, .string sig6] 61)) #[.int .i64 who6, .string body6, .string sig6] 61; simp only [World.size_alloc] at h; exact h); refine app_row rfl (.tmp 82) (.tmp 84) 57 rfl W3.heap.size 61 _ 3 40 info_sg Try.underlying57 rfl (by decide) A1 c1 k ((certsS B (4 * (1 + (rs : Int))) x2 k).1.flatMap Sg.cells) rfl (own_ch HOW6.out (Ch.of_below (S := fun _ => False) HP7.out) (fun j hj => ⟨(own_row HOW6.out hj).2, fun h => h⟩)) _ 1 1 (Sg.cells ⟨who6, body6, sig6⟩) rfl rfl (news_box HBX7.out) (Sg.one ⟨who6, body6, sig6⟩) ?hb1 ?hb2 ?hb3 ?_; (case hb1 => omega); (case hb2 => omega); (case hb3 => simp; omega); intro A8 c8 w8 ho8 hc8 hA8; have hs7 := HP7.out.size; have HO8 := Lib.hid ho8; have HC8 := Lib.hid ((HCH6.out.step (Ch.of_below (S := fun _ => False) HP7.out) hz6 (fun _ _ e => e.elim)).step hc8 (by omega) (fun i hi e => absurd (hrow i e) (by omega))); have HK8 := Lib.hid ((HBK6.out.below HP7.out).ch hc8 (Nat.le_refl _) ⟨fun h => by have := hrow _ h; omega, fun h => by have := hrow _ h; omega, fun h => by have := hrow _ h; omega, fun h => by have := hrow _ h; omega⟩); clear ho8 hc8 hA8)
            go_roundg (K - (k + 1))
            case measure => have := HG.out; omega
            case rel => exact ⟨k + 1, A8, c8, by go_num, by rw [HGD.out]; go_num, by go_num, by omega, by omega, HC8.out, by rw [HNX.out]; exact HK8.out, by rw [HNX.out]; simpa using HO8.out⟩
end Go.Proofs.Ytfgpchffkpomoaa
