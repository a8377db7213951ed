/- Messages out of votes: the walk through sealed. -/
import Derived.Test.YtfgpchffkpomoaaVotes
import Derived.Test.YtfgpchffkpomoaaAwake3
import Derived.Test.YtfgpchffkpomoaaRefBook
namespace Go.Proofs.Ytfgpchffkpomoaa
set_option linter.unusedSimpArgs false
set_option linter.unusedVariables false
open Go.RowKit

theorem info_bool : (Try.prog.info? 4).map (fun i => (i.zero, i.size, i.bytes)) = some (some (.bool false), 1, 1) := by kernel_rfl
def gdCells (x : Sg × Bool) : List Value := [.bool x.2]
def msCells (x : Sg × Bool) : List Value := x.1.cells
theorem sg_one1 (x : Sg × Bool) : ∀ u ∈ msCells x, u.oneCell' = true := by
  intro u hu
  simp [msCells, Sg.cells] at hu
  rcases hu with rfl | rfl | rfl <;> rfl
theorem gd_one (x : Sg × Bool) : ∀ u ∈ gdCells x, u.oneCell' = true := by
  intro u hu
  obtain rfl : u = .bool x.2 := by simpa [gdCells] using hu
  rfl
theorem seal_small (S : List Wd) (who : Int) (x : Bd) : (sealE S who x).1.1.sig.size ≤ 9 ∧ 0 ≤ (sealE S who x).1.1.who ∧ (sealE S who x).1.1.who ≤ 255 := by
  unfold sealE
  by_cases hb : (bytesE x).2 = 0
  · rw [if_pos hb]
    by_cases hw : namedB who = true
    · obtain ⟨p, h1, h2⟩ := signE_place (S := S) (s := (bytesE x).1) hw
      have hw2 : 0 ≤ who ∧ who ≤ 255 := by simpa [namedB] using hw
      have h3 : (signE S who (bytesE x).1).1.2 = 0 := by unfold signE; rw [if_pos hw2]
      rw [if_pos h3, h2]
      exact ⟨by rw [sigOf_size]; omega, hw2.1, hw2.2⟩
    · have hw2 : ¬ (0 ≤ who ∧ who ≤ 255) := fun h => hw (by simpa [namedB] using h)
      have h3 : (signE S who (bytesE x).1).1.2 = 1 := by unfold signE; rw [if_neg hw2]
      rw [h3, if_neg (by decide)]
      simp [zeroSg, ByteArray.size]
  · rw [if_neg hb]
    simp [zeroSg, ByteArray.size]
/-- What sealed leaves. -/
def SealedPost (w0 : World) (base b t m n : Nat) (T : List ByteArray) (k : Nat) (r : List (Sg × Bool) × List Wd) (e : Ending) (w' : World) : Prop :=
  ∃ A1 c1 A2 c2, e = .returned (.tuple #[.slice A1 k c1, .slice A2 k c2]) ∧ Below w0.heap.size w0 w' ∧ Bk w' b t m n T r.2 ∧ w'.ownsRow base 61 3 (.slice A1 k c1) k (r.1.flatMap msCells) ∧ w'.ownsRow base 4 1 (.slice A2 k c2) k (r.1.flatMap gdCells) ∧ base ≤ w'.heap.size

set_option maxHeartbeats 4000000 in
set_option maxRecDepth 100000 in
theorem sealed_calls (b t m n : Nat) (T : List ByteArray) (A : Option Addr) (c : Nat) (l : List Vt) (K : Nat) (hKK : K = (l.take 60).length) (w0 w : World) (hb : Bk w b t m n T []) (hb0 : Below w0.heap.size w0 w) (hn : w0.heap.size ≤ n) (hs : VtS w0 A c l) :
    Calls Try.prog 58 #[.pointer (some ⟨b, 0, none⟩), .slice A l.length c] w (SealedPost w0 w.heap.size b t m n T K (sealsS (l.take 60) [])) := by
  have HB := Lib.hid hb0
  have HK := Lib.hid hb
  have HS := Lib.hid hs
  have hlen := hs.2
  obtain ⟨g1, g2, g3, g4⟩ : b < w.heap.size ∧ t < w.heap.size ∧ m < w.heap.size ∧ n < w.heap.size := ⟨hb.lt.1, hb.lt.2, hb.tm.lt, hb.wm.lt⟩
  have hz := hb0.size
  obtain ⟨QS, hQS⟩ : ∃ Q, Q = sealsS (l.take 60) [] := ⟨_, rfl⟩
  rw [← hQS]
  have HQS := Lib.hid hQS
  have HKK := Lib.hid hKK
  clear hb hb0 hs hQS hKK
  go_enter Try.func58, Try.ntmps58
  go_wp2_with fail
  go_loopg [6, 7, 8] 60 (fun g v6 v7 v8 wr => ∃ (k : Nat) (A1 : Option Addr) (c1 : Nat) (A2 : Option Addr) (c2 : Nat), v6 = .slice A1 k c1 ∧ v7 = .slice A2 k c2 ∧ v8 = .int .i64 k ∧ k ≤ 60 ∧ k ≤ l.length ∧ Hid (g + k = 60 ∧ Below w0.heap.size w0 wr ∧ Bk wr b t m n T (sealsS ((l.take 60).take k) []).2 ∧ wr.ownsRow w.heap.size 61 3 (.slice A1 k c1) k ((sealsS ((l.take 60).take k) []).1.flatMap msCells) ∧ wr.ownsRow w.heap.size 4 1 (.slice A2 k c2) k ((sealsS ((l.take 60).take k) []).1.flatMap gdCells) ∧ w.heap.size ≤ wr.heap.size ∧ (∀ j, Row A1 j → ¬ Row A2 j)))
  case atStart => exact ⟨0, none, 0, none, 0, rfl, rfl, rfl, by omega, by omega, rfl, HB.out, HK.out, ⟨rfl, .inl ⟨rfl, rfl⟩⟩, ⟨rfl, .inl ⟨rfl, rfl⟩⟩, Nat.le_refl _, fun j hj => by cases hj⟩
  case round =>
    clear HB HK
    obtain ⟨k, A1, c1, A2, c2, rfl, rfl, rfl, hk, hkl, HH⟩ := hrel
    obtain ⟨hg, hb, hbk, ho1, ho2, hsz, hdis⟩ := HH.out
    have HG := Lib.hid hg
    have HB := Lib.hid hb
    have HK := Lib.hid hbk
    have HO1 := Lib.hid ho1
    have HO2 := Lib.hid ho2
    have HDIS := Lib.hid hdis
    clear HH hg hb hbk ho1 ho2 hdis
    by_cases hl : k < l.length
    · by_cases h60 : k < 60
      · have hlt : k < (l.take 60).length := by simp; omega
        have hx := (VtS.below HS.out HB.out).elem k hl
        have hst := sealsS_take hlt []
        rw [List.getElem_take] at hst
        obtain ⟨a, rfl, e0, e1, e2, e3, e4, e5⟩ := hx
        obtain ⟨x, hx⟩ : ∃ x, x = l[k] := ⟨_, rfl⟩
        rw [← hx] at e0 e1 e2 e3 e4 e5 hst
        clear hx
        obtain ⟨vwho, vkind, vview, vseq, vspoilt, vdigest⟩ := x
        simp only at e0 e1 e2 e3 e4 e5 hst
        obtain ⟨⟨L, S0⟩, hL⟩ : ∃ Q, Q = sealsS ((l.take 60).take k) [] := ⟨_, rfl⟩
        have hS0 : S0.length ≤ 1000 := by
          obtain ⟨⟨X, h1, h2⟩, _⟩ := sealsS_more ((l.take 60).take k) [] (fun x hx => by cases hx)
          rw [← hL] at h1
          simp only [List.nil_append] at h1
          rw [h1]
          have := List.length_take_le k (l.take 60)
          omega
        rw [← hL] at hst HK HO1 HO2
        simp only at hst HK HO1 HO2
        clear hL
        have hrk := rnd_lt vkind (m := 2) (by decide)
        have HR := Lib.hid (fun w => round3_calls vkind 2 w (by decide) (by decide))
        have HSE := Lib.hid (show ∀ w, Bk w b t m n T S0 → Calls Try.prog 51 #[.pointer (some ⟨b, 0, none⟩), .int .i64 vwho, .agg #[.int .i64 (3 + (rnd vkind 2 : Int)), .int .i64 vview, .int .i64 vseq, .int .i64 0, .int .i64 0, .string vdigest, .string ⟨#[]⟩, .slice none 0 0]] w (SealPost (sealE S0 vwho (voteBd ⟨vwho, vkind, vview, vseq, vspoilt, vdigest⟩)).1 n (fun w' => Bk w' b t m n T (sealE S0 vwho (voteBd ⟨vwho, vkind, vview, vseq, vspoilt, vdigest⟩)).2) w) from
          fun w hb => seal_calls b t m n T S0 vwho (voteBd ⟨vwho, vkind, vview, vseq, vspoilt, vdigest⟩) none 0 w hb (by omega) ⟨rfl, by show (0 : Nat) ≤ 9223372036854775807; omega, fun j u hj => by cases hj⟩)
        have hsig : (sealE S0 vwho (voteBd ⟨vwho, vkind, vview, vseq, vspoilt, vdigest⟩)).1.1.sig.size ≤ 9 ∧ 0 ≤ (sealE S0 vwho (voteBd ⟨vwho, vkind, vview, vseq, vspoilt, vdigest⟩)).1.1.who ∧ (sealE S0 vwho (voteBd ⟨vwho, vkind, vview, vseq, vspoilt, vdigest⟩)).1.1.who ≤ 255 := seal_small S0 vwho _
        obtain ⟨⟨⟨⟨swho, sbody, ssig⟩, serr⟩, S1⟩, hse⟩ : ∃ Q, Q = sealE S0 vwho (voteBd ⟨vwho, vkind, vview, vseq, vspoilt, vdigest⟩) := ⟨_, rfl⟩
        rw [← hse] at hst HSE hsig
        simp only at hst HSE hsig
        obtain ⟨hz1, hz2, hz3⟩ := hsig
        clear hse
        obtain ⟨rk, hrk2⟩ : ∃ rk, rk = rnd vkind 2 := ⟨_, rfl⟩
        rw [← hrk2] at HR HSE hrk
        clear hrk2
        have HST := Lib.hid hst
        clear hst
        unfold SealPost Sg.val at HSE
        simp only at HSE
        have HV := Lib.hid (Box.new wr #[.int .i64 vwho, .int .i64 vkind, .int .i64 vview, .int .i64 vseq, .int .i64 vspoilt, .string vdigest] 79)
        obtain ⟨W, hW⟩ : ∃ W, W = wr.alloc (.cells #[.int .i64 vwho, .int .i64 vkind, .int .i64 vview, .int .i64 vseq, .int .i64 vspoilt, .string vdigest] 79) := ⟨_, rfl⟩
        have hWs : W.heap.size = wr.heap.size + 1 := by rw [hW]; simp
        have HBW := Lib.hid (show Below w0.heap.size w0 W by rw [hW]; exact HB.out.alloc (by omega) _)
        have HKW := Lib.hid (show Bk W b t m n T S0 by rw [hW]; exact HK.out.alloc _)
        have HO1W := Lib.hid (show W.ownsRow w.heap.size 61 3 (.slice A1 k c1) k (L.flatMap msCells) by rw [hW]; exact HO1.out.alloc _)
        have HO2W := Lib.hid (show W.ownsRow w.heap.size 4 1 (.slice A2 k c2) k (L.flatMap gdCells) by rw [hW]; exact HO2.out.alloc _)
        rw [← hW] at HV
        have HWW := Lib.hid hW
        obtain ⟨q0, q1, q2, q3, q4, q5, _⟩ := HV.out.facts6
        clear HB HK HO1 HO2 hW
        have hrow1 : ∀ j, Row A1 j → w.heap.size ≤ j ∧ j < W.heap.size := fun j hj => own_row HO1W.out hj
        have hrow2 : ∀ j, Row A2 j → w.heap.size ≤ j ∧ j < W.heap.size := fun j hj => own_row HO2W.out hj
        go_wp2_with fail
        rw [← HWW.out]
        refine (HR.out _).mono ?_
        rintro e w1 ⟨rfl, rfl⟩
        go_wp2_with fail
        refine (HSE.out _ HKW.out).mono ?_
        rintro e w2 ⟨rfl, hc2, hk2⟩
        have HB2 := Lib.hid (below_ch HBW.out hc2 hn HBW.out.size)
        have HK2 := Lib.hid hk2
        have HV2 := Lib.hid (HV.out.ch hc2 HV.out.lt (by omega))
        have HO1 := Lib.hid (own_ch HO1W.out hc2 (fun j hj => ⟨(hrow1 j hj).2, by have := (hrow1 j hj).1; omega⟩))
        have HO2 := Lib.hid (own_ch HO2W.out hc2 (fun j hj => ⟨(hrow2 j hj).2, by have := (hrow2 j hj).1; omega⟩))
        have hs2 := hc2.size
        clear hc2 hk2 q0 q1 q2 q3 q4 q5
        obtain ⟨q0, q1, q2, q3, q4, q5, _⟩ := HV2.out.facts6
        have hrow1 : ∀ j, Row A1 j → w.heap.size ≤ j ∧ j < w2.heap.size := fun j hj => own_row HO1.out hj
        have hrow2 : ∀ j, Row A2 j → w.heap.size ≤ j ∧ j < w2.heap.size := fun j hj => own_row HO2.out hj
        clear HWW HBW HKW HV HO1W HO2W
        by_cases hse : serr = 0
        · subst hse
          by_cases hn1 : vspoilt = 1
          · subst hn1
            have HX := Lib.hid (show (sealsS ((l.take 60).take (k + 1)) []) = (L ++ [(⟨swho, sbody, ssig ++ ⟨#[120]⟩⟩, false)], S1) by rw [HST.out]; simp [spoil])
            have HV3 := Lib.hid (HV2.out.alloc (.cells #[.int .i64 swho, .string sbody, .string ssig] 61))
            have HM3 := Lib.hid (Box.new w2 #[.int .i64 swho, .string sbody, .string ssig] 61)
            obtain ⟨q0, q1, q2, q3, q4, q5, _⟩ := HV3.out.facts6
            obtain ⟨r0, r1, r2, fr0, fr1, fr2⟩ := HM3.out.facts3
            have HV4 := Lib.hid (HV2.out.alloc (.cells #[.int .i64 swho, .string sbody, .string (ssig ++ ⟨#[120]⟩)] 61))
            obtain ⟨_, _, _, _, u4, _, _⟩ := HV4.out.facts6
            obtain ⟨z0, z1, z2, _⟩ := (Box.new w2 #[.int .i64 swho, .string sbody, .string (ssig ++ ⟨#[120]⟩)] 61).facts3
            go_wp2_with (first | (at_builtin; have HP3 := Lib.hid (show Below w2.heap.size w2 ((w2.alloc (.cells #[.int .i64 swho, .string sbody, .string (ssig ++ ⟨#[120]⟩)] 61)).alloc (.cells #[.int .i64 swho, .string sbody, .string (ssig ++ ⟨#[120]⟩)] 61)) from ((Below.refl w2.heap.size w2).alloc (Nat.le_refl _) _).alloc (by simp) _); have HBX := Lib.hid (show Box ((w2.alloc (.cells #[.int .i64 swho, .string sbody, .string (ssig ++ ⟨#[120]⟩)] 61)).alloc (.cells #[.int .i64 swho, .string sbody, .string (ssig ++ ⟨#[120]⟩)] 61)) (w2.heap.size + 1) #[.int .i64 swho, .string sbody, .string (ssig ++ ⟨#[120]⟩)] 61 from by have h := Box.new (w2.alloc (.cells #[.int .i64 swho, .string sbody, .string (ssig ++ ⟨#[120]⟩)] 61)) #[.int .i64 swho, .string sbody, .string (ssig ++ ⟨#[120]⟩)] 61; simp only [World.size_alloc] at h; exact h); refine app_row rfl (.tmp 63) (.tmp 65) 57 rfl w.heap.size 61 _ 3 40 info_sg Try.underlying57 rfl (by decide) A1 c1 k (L.flatMap msCells) rfl (own_ch HO1.out (Ch.of_below (S := fun _ => False) HP3.out) (fun j hj => ⟨(own_row HO1.out hj).2, fun h => h⟩)) _ 1 1 (msCells ((⟨swho, sbody, ssig ++ ⟨#[120]⟩⟩, false) : Sg × Bool)) rfl rfl (news_box HBX.out) (sg_one1 ((⟨swho, sbody, ssig ++ ⟨#[120]⟩⟩, false) : Sg × Bool)) ?hb1 ?hb2 ?hb3 ?_; (case hb1 => omega); (case hb2 => omega); (case hb3 => simp; omega); intro A3 c3 w3 ho hc hA; have hs2 := HP3.out.size; have HO3 := Lib.hid ho; have HB3 := Lib.hid (below_app0 (HB2.out.trans (HP3.out.mono (by omega))) (by omega) hc (fun j hj => by have := (hrow1 j hj).1; omega)); have HK3 := Lib.hid ((HK2.out.below HP3.out).ch hc (Nat.le_refl _) ⟨fun h => by have := (hrow1 _ h).1; omega, fun h => by have := (hrow1 _ h).1; omega, fun h => by have := (hrow1 _ h).1; omega, fun h => by have := (hrow1 _ h).1; omega⟩); have HO4 := Lib.hid (own_ch (own_ch HO2.out (Ch.of_below (S := fun _ => False) HP3.out) (fun j hj => ⟨(own_row HO2.out hj).2, fun h => h⟩)) hc (fun j hj => ⟨by have := (hrow2 j hj).2; omega, fun h => HDIS.out j h hj⟩)); have HD3 := Lib.hid (dis_app hA HDIS.out (fun j hj => by have := (hrow2 j hj).2; omega)); have hs3 := hc.size; have hrow4 : ∀ j, Row A2 j → w.heap.size ≤ j ∧ j < w3.heap.size := (fun j hj => own_row HO4.out hj); have hrow3 : ∀ j, Row A3 j → w.heap.size ≤ j ∧ j < w3.heap.size := (fun j hj => own_row HO3.out hj); clear ho hc hA) | (at_builtin; refine app_row rfl (.tmp 67) (.tmp 69) 74 rfl w.heap.size 4 _ 1 1 info_bool Try.underlying74 rfl (by decide) A2 c2 k (L.flatMap gdCells) rfl (HO4.out.alloc _) _ 1 1 (gdCells ((⟨swho, sbody, ssig ++ ⟨#[120]⟩⟩, false) : Sg × Bool)) rfl rfl (news_box (Box.new _ _ _)) (gd_one ((⟨swho, sbody, ssig ++ ⟨#[120]⟩⟩, false) : Sg × Bool)) ?hb1 ?hb2 ?hb3 ?_; (case hb1 => omega); (case hb2 => omega); (case hb3 => simp; omega); intro A4 c4 w5 ho hc hA; have HO5 := Lib.hid ho; have HB5 := Lib.hid (below_app HB3.out (by omega) hc (fun j hj => by have := (hrow4 j hj).1; omega)); have HK5 := Lib.hid ((HK3.out.alloc _).ch hc (Nat.le_refl _) ⟨fun h => by have := (hrow4 _ h).1; omega, fun h => by have := (hrow4 _ h).1; omega, fun h => by have := (hrow4 _ h).1; omega, fun h => by have := (hrow4 _ h).1; omega⟩); have HO6 := Lib.hid (own_ch (HO3.out.alloc _) hc (fun j hj => ⟨by have := (hrow3 j hj).2; simp; omega, fun h => HD3.out j hj h⟩)); have HD5 := Lib.hid (show ∀ j, Row A3 j → ¬ Row A4 j from fun j h1 h2 => dis_app hA (fun j h1 h2 => HD3.out j h2 h1) (fun j hj => by have := (hrow3 j hj).2; simp; omega) j h2 h1); have hs5 := hc.size; clear ho hc hA))
            go_roundg (60 - (k + 1))
            case measure => have := HG.out; omega
            case rel => exact ⟨k + 1, A3, c3, A4, c4, by go_num, by go_num, by go_num, by omega, by omega, by omega, HB5.out, by rw [HX.out]; exact HK5.out, by rw [HX.out]; simpa using HO6.out, by rw [HX.out]; simpa using HO5.out, by simp at hs5; omega, HD5.out⟩
          · by_cases hn2 : vspoilt = 2
            · subst hn2
              have HX := Lib.hid (show (sealsS ((l.take 60).take (k + 1)) []) = (L ++ [(⟨swho + 1, sbody, ssig⟩, false)], S1) by rw [HST.out]; simp [spoil])
              have HV3 := Lib.hid (HV2.out.alloc (.cells #[.int .i64 swho, .string sbody, .string ssig] 61))
              have HM3 := Lib.hid (Box.new w2 #[.int .i64 swho, .string sbody, .string ssig] 61)
              obtain ⟨q0, q1, q2, q3, q4, q5, _⟩ := HV3.out.facts6
              obtain ⟨r0, r1, r2, fr0, fr1, fr2⟩ := HM3.out.facts3
              have HV4 := Lib.hid (HV2.out.alloc (.cells #[.int .i64 (swho + 1), .string sbody, .string ssig] 61))
              obtain ⟨_, _, _, _, u4, _, _⟩ := HV4.out.facts6
              obtain ⟨z0, z1, z2, _⟩ := (Box.new w2 #[.int .i64 (swho + 1), .string sbody, .string ssig] 61).facts3
              go_wp2_with (first | (at_builtin; have HP3 := Lib.hid (show Below w2.heap.size w2 ((w2.alloc (.cells #[.int .i64 (swho + 1), .string sbody, .string ssig] 61)).alloc (.cells #[.int .i64 (swho + 1), .string sbody, .string ssig] 61)) from ((Below.refl w2.heap.size w2).alloc (Nat.le_refl _) _).alloc (by simp) _); have HBX := Lib.hid (show Box ((w2.alloc (.cells #[.int .i64 (swho + 1), .string sbody, .string ssig] 61)).alloc (.cells #[.int .i64 (swho + 1), .string sbody, .string ssig] 61)) (w2.heap.size + 1) #[.int .i64 (swho + 1), .string sbody, .string ssig] 61 from by have h := Box.new (w2.alloc (.cells #[.int .i64 (swho + 1), .string sbody, .string ssig] 61)) #[.int .i64 (swho + 1), .string sbody, .string ssig] 61; simp only [World.size_alloc] at h; exact h); refine app_row rfl (.tmp 63) (.tmp 65) 57 rfl w.heap.size 61 _ 3 40 info_sg Try.underlying57 rfl (by decide) A1 c1 k (L.flatMap msCells) rfl (own_ch HO1.out (Ch.of_below (S := fun _ => False) HP3.out) (fun j hj => ⟨(own_row HO1.out hj).2, fun h => h⟩)) _ 1 1 (msCells ((⟨swho + 1, sbody, ssig⟩, false) : Sg × Bool)) rfl rfl (news_box HBX.out) (sg_one1 ((⟨swho + 1, sbody, ssig⟩, false) : Sg × Bool)) ?hb1 ?hb2 ?hb3 ?_; (case hb1 => omega); (case hb2 => omega); (case hb3 => simp; omega); intro A3 c3 w3 ho hc hA; have hs2 := HP3.out.size; have HO3 := Lib.hid ho; have HB3 := Lib.hid (below_app0 (HB2.out.trans (HP3.out.mono (by omega))) (by omega) hc (fun j hj => by have := (hrow1 j hj).1; omega)); have HK3 := Lib.hid ((HK2.out.below HP3.out).ch hc (Nat.le_refl _) ⟨fun h => by have := (hrow1 _ h).1; omega, fun h => by have := (hrow1 _ h).1; omega, fun h => by have := (hrow1 _ h).1; omega, fun h => by have := (hrow1 _ h).1; omega⟩); have HO4 := Lib.hid (own_ch (own_ch HO2.out (Ch.of_below (S := fun _ => False) HP3.out) (fun j hj => ⟨(own_row HO2.out hj).2, fun h => h⟩)) hc (fun j hj => ⟨by have := (hrow2 j hj).2; omega, fun h => HDIS.out j h hj⟩)); have HD3 := Lib.hid (dis_app hA HDIS.out (fun j hj => by have := (hrow2 j hj).2; omega)); have hs3 := hc.size; have hrow4 : ∀ j, Row A2 j → w.heap.size ≤ j ∧ j < w3.heap.size := (fun j hj => own_row HO4.out hj); have hrow3 : ∀ j, Row A3 j → w.heap.size ≤ j ∧ j < w3.heap.size := (fun j hj => own_row HO3.out hj); clear ho hc hA) | (at_builtin; refine app_row rfl (.tmp 67) (.tmp 69) 74 rfl w.heap.size 4 _ 1 1 info_bool Try.underlying74 rfl (by decide) A2 c2 k (L.flatMap gdCells) rfl (HO4.out.alloc _) _ 1 1 (gdCells ((⟨swho + 1, sbody, ssig⟩, false) : Sg × Bool)) rfl rfl (news_box (Box.new _ _ _)) (gd_one ((⟨swho + 1, sbody, ssig⟩, false) : Sg × Bool)) ?hb1 ?hb2 ?hb3 ?_; (case hb1 => omega); (case hb2 => omega); (case hb3 => simp; omega); intro A4 c4 w5 ho hc hA; have HO5 := Lib.hid ho; have HB5 := Lib.hid (below_app HB3.out (by omega) hc (fun j hj => by have := (hrow4 j hj).1; omega)); have HK5 := Lib.hid ((HK3.out.alloc _).ch hc (Nat.le_refl _) ⟨fun h => by have := (hrow4 _ h).1; omega, fun h => by have := (hrow4 _ h).1; omega, fun h => by have := (hrow4 _ h).1; omega, fun h => by have := (hrow4 _ h).1; omega⟩); have HO6 := Lib.hid (own_ch (HO3.out.alloc _) hc (fun j hj => ⟨by have := (hrow3 j hj).2; simp; omega, fun h => HD3.out j hj h⟩)); have HD5 := Lib.hid (show ∀ j, Row A3 j → ¬ Row A4 j from fun j h1 h2 => dis_app hA (fun j h1 h2 => HD3.out j h2 h1) (fun j hj => by have := (hrow3 j hj).2; simp; omega) j h2 h1); have hs5 := hc.size; clear ho hc hA))
              go_roundg (60 - (k + 1))
              case measure => have := HG.out; omega
              case rel => exact ⟨k + 1, A3, c3, A4, c4, by go_num, by go_num, by go_num, by omega, by omega, by omega, HB5.out, by rw [HX.out]; exact HK5.out, by rw [HX.out]; simpa using HO6.out, by rw [HX.out]; simpa using HO5.out, by simp at hs5; omega, HD5.out⟩
            · have hs1n : ¬ vspoilt = 1 := hn1
              have hs2n : ¬ vspoilt = 2 := hn2
              have HX := Lib.hid (show (sealsS ((l.take 60).take (k + 1)) []) = (L ++ [(⟨swho, sbody, ssig⟩, true)], S1) by rw [HST.out]; simp [spoil, hs1n, hs2n])
              have HV3 := Lib.hid (HV2.out.alloc (.cells #[.int .i64 swho, .string sbody, .string ssig] 61))
              have HM3 := Lib.hid (Box.new w2 #[.int .i64 swho, .string sbody, .string ssig] 61)
              obtain ⟨q0, q1, q2, q3, q4, q5, _⟩ := HV3.out.facts6
              obtain ⟨r0, r1, r2, fr0, fr1, fr2⟩ := HM3.out.facts3
              go_wp2_with (first | (at_builtin; have HP3 := Lib.hid (show Below w2.heap.size w2 ((w2.alloc (.cells #[.int .i64 swho, .string sbody, .string ssig] 61)).alloc (.cells #[.int .i64 swho, .string sbody, .string ssig] 61)) from ((Below.refl w2.heap.size w2).alloc (Nat.le_refl _) _).alloc (by simp) _); have HBX := Lib.hid (show Box ((w2.alloc (.cells #[.int .i64 swho, .string sbody, .string ssig] 61)).alloc (.cells #[.int .i64 swho, .string sbody, .string ssig] 61)) (w2.heap.size + 1) #[.int .i64 swho, .string sbody, .string ssig] 61 from by have h := Box.new (w2.alloc (.cells #[.int .i64 swho, .string sbody, .string ssig] 61)) #[.int .i64 swho, .string sbody, .string ssig] 61; simp only [World.size_alloc] at h; exact h); refine app_row rfl (.tmp 63) (.tmp 65) 57 rfl w.heap.size 61 _ 3 40 info_sg Try.underlying57 rfl (by decide) A1 c1 k (L.flatMap msCells) rfl (own_ch HO1.out (Ch.of_below (S := fun _ => False) HP3.out) (fun j hj => ⟨(own_row HO1.out hj).2, fun h => h⟩)) _ 1 1 (msCells ((⟨swho, sbody, ssig⟩, true) : Sg × Bool)) rfl rfl (news_box HBX.out) (sg_one1 ((⟨swho, sbody, ssig⟩, true) : Sg × Bool)) ?hb1 ?hb2 ?hb3 ?_; (case hb1 => omega); (case hb2 => omega); (case hb3 => simp; omega); intro A3 c3 w3 ho hc hA; have hs2 := HP3.out.size; have HO3 := Lib.hid ho; have HB3 := Lib.hid (below_app0 (HB2.out.trans (HP3.out.mono (by omega))) (by omega) hc (fun j hj => by have := (hrow1 j hj).1; omega)); have HK3 := Lib.hid ((HK2.out.below HP3.out).ch hc (Nat.le_refl _) ⟨fun h => by have := (hrow1 _ h).1; omega, fun h => by have := (hrow1 _ h).1; omega, fun h => by have := (hrow1 _ h).1; omega, fun h => by have := (hrow1 _ h).1; omega⟩); have HO4 := Lib.hid (own_ch (own_ch HO2.out (Ch.of_below (S := fun _ => False) HP3.out) (fun j hj => ⟨(own_row HO2.out hj).2, fun h => h⟩)) hc (fun j hj => ⟨by have := (hrow2 j hj).2; omega, fun h => HDIS.out j h hj⟩)); have HD3 := Lib.hid (dis_app hA HDIS.out (fun j hj => by have := (hrow2 j hj).2; omega)); have hs3 := hc.size; have hrow4 : ∀ j, Row A2 j → w.heap.size ≤ j ∧ j < w3.heap.size := (fun j hj => own_row HO4.out hj); have hrow3 : ∀ j, Row A3 j → w.heap.size ≤ j ∧ j < w3.heap.size := (fun j hj => own_row HO3.out hj); clear ho hc hA) | (at_builtin; refine app_row rfl (.tmp 67) (.tmp 69) 74 rfl w.heap.size 4 _ 1 1 info_bool Try.underlying74 rfl (by decide) A2 c2 k (L.flatMap gdCells) rfl (HO4.out.alloc _) _ 1 1 (gdCells ((⟨swho, sbody, ssig⟩, true) : Sg × Bool)) rfl rfl (news_box (Box.new _ _ _)) (gd_one ((⟨swho, sbody, ssig⟩, true) : Sg × Bool)) ?hb1 ?hb2 ?hb3 ?_; (case hb1 => omega); (case hb2 => omega); (case hb3 => simp; omega); intro A4 c4 w5 ho hc hA; have HO5 := Lib.hid ho; have HB5 := Lib.hid (below_app HB3.out (by omega) hc (fun j hj => by have := (hrow4 j hj).1; omega)); have HK5 := Lib.hid ((HK3.out.alloc _).ch hc (Nat.le_refl _) ⟨fun h => by have := (hrow4 _ h).1; omega, fun h => by have := (hrow4 _ h).1; omega, fun h => by have := (hrow4 _ h).1; omega, fun h => by have := (hrow4 _ h).1; omega⟩); have HO6 := Lib.hid (own_ch (HO3.out.alloc _) hc (fun j hj => ⟨by have := (hrow3 j hj).2; simp; omega, fun h => HD3.out j hj h⟩)); have HD5 := Lib.hid (show ∀ j, Row A3 j → ¬ Row A4 j from fun j h1 h2 => dis_app hA (fun j h1 h2 => HD3.out j h2 h1) (fun j hj => by have := (hrow3 j hj).2; simp; omega) j h2 h1); have hs5 := hc.size; clear ho hc hA))
              go_roundg (60 - (k + 1))
              case measure => have := HG.out; omega
              case rel => exact ⟨k + 1, A3, c3, A4, c4, by go_num, by go_num, by go_num, by omega, by omega, by omega, HB5.out, by rw [HX.out]; exact HK5.out, by rw [HX.out]; simpa using HO6.out, by rw [HX.out]; simpa using HO5.out, by simp at hs5; omega, HD5.out⟩
        · have hsef : (serr == 0) = false := by simpa using hse
          by_cases hn1 : vspoilt = 1
          · subst hn1
            have HX := Lib.hid (show (sealsS ((l.take 60).take (k + 1)) []) = (L ++ [(⟨swho, sbody, ssig ++ ⟨#[120]⟩⟩, false)], S1) by rw [HST.out]; simp [spoil, hse])
            have HV3 := Lib.hid (HV2.out.alloc (.cells #[.int .i64 swho, .string sbody, .string ssig] 61))
            have HM3 := Lib.hid (Box.new w2 #[.int .i64 swho, .string sbody, .string ssig] 61)
            obtain ⟨q0, q1, q2, q3, q4, q5, _⟩ := HV3.out.facts6
            obtain ⟨r0, r1, r2, fr0, fr1, fr2⟩ := HM3.out.facts3
            have HV4 := Lib.hid (HV2.out.alloc (.cells #[.int .i64 swho, .string sbody, .string (ssig ++ ⟨#[120]⟩)] 61))
            obtain ⟨_, _, _, _, u4, _, _⟩ := HV4.out.facts6
            obtain ⟨z0, z1, z2, _⟩ := (Box.new w2 #[.int .i64 swho, .string sbody, .string (ssig ++ ⟨#[120]⟩)] 61).facts3
            go_wp2_with (first | (at_builtin; have HP3 := Lib.hid (show Below w2.heap.size w2 ((w2.alloc (.cells #[.int .i64 swho, .string sbody, .string (ssig ++ ⟨#[120]⟩)] 61)).alloc (.cells #[.int .i64 swho, .string sbody, .string (ssig ++ ⟨#[120]⟩)] 61)) from ((Below.refl w2.heap.size w2).alloc (Nat.le_refl _) _).alloc (by simp) _); have HBX := Lib.hid (show Box ((w2.alloc (.cells #[.int .i64 swho, .string sbody, .string (ssig ++ ⟨#[120]⟩)] 61)).alloc (.cells #[.int .i64 swho, .string sbody, .string (ssig ++ ⟨#[120]⟩)] 61)) (w2.heap.size + 1) #[.int .i64 swho, .string sbody, .string (ssig ++ ⟨#[120]⟩)] 61 from by have h := Box.new (w2.alloc (.cells #[.int .i64 swho, .string sbody, .string (ssig ++ ⟨#[120]⟩)] 61)) #[.int .i64 swho, .string sbody, .string (ssig ++ ⟨#[120]⟩)] 61; simp only [World.size_alloc] at h; exact h); refine app_row rfl (.tmp 63) (.tmp 65) 57 rfl w.heap.size 61 _ 3 40 info_sg Try.underlying57 rfl (by decide) A1 c1 k (L.flatMap msCells) rfl (own_ch HO1.out (Ch.of_below (S := fun _ => False) HP3.out) (fun j hj => ⟨(own_row HO1.out hj).2, fun h => h⟩)) _ 1 1 (msCells ((⟨swho, sbody, ssig ++ ⟨#[120]⟩⟩, false) : Sg × Bool)) rfl rfl (news_box HBX.out) (sg_one1 ((⟨swho, sbody, ssig ++ ⟨#[120]⟩⟩, false) : Sg × Bool)) ?hb1 ?hb2 ?hb3 ?_; (case hb1 => omega); (case hb2 => omega); (case hb3 => simp; omega); intro A3 c3 w3 ho hc hA; have hs2 := HP3.out.size; have HO3 := Lib.hid ho; have HB3 := Lib.hid (below_app0 (HB2.out.trans (HP3.out.mono (by omega))) (by omega) hc (fun j hj => by have := (hrow1 j hj).1; omega)); have HK3 := Lib.hid ((HK2.out.below HP3.out).ch hc (Nat.le_refl _) ⟨fun h => by have := (hrow1 _ h).1; omega, fun h => by have := (hrow1 _ h).1; omega, fun h => by have := (hrow1 _ h).1; omega, fun h => by have := (hrow1 _ h).1; omega⟩); have HO4 := Lib.hid (own_ch (own_ch HO2.out (Ch.of_below (S := fun _ => False) HP3.out) (fun j hj => ⟨(own_row HO2.out hj).2, fun h => h⟩)) hc (fun j hj => ⟨by have := (hrow2 j hj).2; omega, fun h => HDIS.out j h hj⟩)); have HD3 := Lib.hid (dis_app hA HDIS.out (fun j hj => by have := (hrow2 j hj).2; omega)); have hs3 := hc.size; have hrow4 : ∀ j, Row A2 j → w.heap.size ≤ j ∧ j < w3.heap.size := (fun j hj => own_row HO4.out hj); have hrow3 : ∀ j, Row A3 j → w.heap.size ≤ j ∧ j < w3.heap.size := (fun j hj => own_row HO3.out hj); clear ho hc hA) | (at_builtin; refine app_row rfl (.tmp 67) (.tmp 69) 74 rfl w.heap.size 4 _ 1 1 info_bool Try.underlying74 rfl (by decide) A2 c2 k (L.flatMap gdCells) rfl (HO4.out.alloc _) _ 1 1 (gdCells ((⟨swho, sbody, ssig ++ ⟨#[120]⟩⟩, false) : Sg × Bool)) rfl rfl (news_box (Box.new _ _ _)) (gd_one ((⟨swho, sbody, ssig ++ ⟨#[120]⟩⟩, false) : Sg × Bool)) ?hb1 ?hb2 ?hb3 ?_; (case hb1 => omega); (case hb2 => omega); (case hb3 => simp; omega); intro A4 c4 w5 ho hc hA; have HO5 := Lib.hid ho; have HB5 := Lib.hid (below_app HB3.out (by omega) hc (fun j hj => by have := (hrow4 j hj).1; omega)); have HK5 := Lib.hid ((HK3.out.alloc _).ch hc (Nat.le_refl _) ⟨fun h => by have := (hrow4 _ h).1; omega, fun h => by have := (hrow4 _ h).1; omega, fun h => by have := (hrow4 _ h).1; omega, fun h => by have := (hrow4 _ h).1; omega⟩); have HO6 := Lib.hid (own_ch (HO3.out.alloc _) hc (fun j hj => ⟨by have := (hrow3 j hj).2; simp; omega, fun h => HD3.out j hj h⟩)); have HD5 := Lib.hid (show ∀ j, Row A3 j → ¬ Row A4 j from fun j h1 h2 => dis_app hA (fun j h1 h2 => HD3.out j h2 h1) (fun j hj => by have := (hrow3 j hj).2; simp; omega) j h2 h1); have hs5 := hc.size; clear ho hc hA))
            go_roundg (60 - (k + 1))
            case measure => have := HG.out; omega
            case rel => exact ⟨k + 1, A3, c3, A4, c4, by go_num, by go_num, by go_num, by omega, by omega, by omega, HB5.out, by rw [HX.out]; exact HK5.out, by rw [HX.out]; simpa using HO6.out, by rw [HX.out]; simpa using HO5.out, by simp at hs5; omega, HD5.out⟩
          · by_cases hn2 : vspoilt = 2
            · subst hn2
              have HX := Lib.hid (show (sealsS ((l.take 60).take (k + 1)) []) = (L ++ [(⟨swho + 1, sbody, ssig⟩, false)], S1) by rw [HST.out]; simp [spoil, hse])
              have HV3 := Lib.hid (HV2.out.alloc (.cells #[.int .i64 swho, .string sbody, .string ssig] 61))
              have HM3 := Lib.hid (Box.new w2 #[.int .i64 swho, .string sbody, .string ssig] 61)
              obtain ⟨q0, q1, q2, q3, q4, q5, _⟩ := HV3.out.facts6
              obtain ⟨r0, r1, r2, fr0, fr1, fr2⟩ := HM3.out.facts3
              have HV4 := Lib.hid (HV2.out.alloc (.cells #[.int .i64 (swho + 1), .string sbody, .string ssig] 61))
              obtain ⟨_, _, _, _, u4, _, _⟩ := HV4.out.facts6
              obtain ⟨z0, z1, z2, _⟩ := (Box.new w2 #[.int .i64 (swho + 1), .string sbody, .string ssig] 61).facts3
              go_wp2_with (first | (at_builtin; have HP3 := Lib.hid (show Below w2.heap.size w2 ((w2.alloc (.cells #[.int .i64 (swho + 1), .string sbody, .string ssig] 61)).alloc (.cells #[.int .i64 (swho + 1), .string sbody, .string ssig] 61)) from ((Below.refl w2.heap.size w2).alloc (Nat.le_refl _) _).alloc (by simp) _); have HBX := Lib.hid (show Box ((w2.alloc (.cells #[.int .i64 (swho + 1), .string sbody, .string ssig] 61)).alloc (.cells #[.int .i64 (swho + 1), .string sbody, .string ssig] 61)) (w2.heap.size + 1) #[.int .i64 (swho + 1), .string sbody, .string ssig] 61 from by have h := Box.new (w2.alloc (.cells #[.int .i64 (swho + 1), .string sbody, .string ssig] 61)) #[.int .i64 (swho + 1), .string sbody, .string ssig] 61; simp only [World.size_alloc] at h; exact h); refine app_row rfl (.tmp 63) (.tmp 65) 57 rfl w.heap.size 61 _ 3 40 info_sg Try.underlying57 rfl (by decide) A1 c1 k (L.flatMap msCells) rfl (own_ch HO1.out (Ch.of_below (S := fun _ => False) HP3.out) (fun j hj => ⟨(own_row HO1.out hj).2, fun h => h⟩)) _ 1 1 (msCells ((⟨swho + 1, sbody, ssig⟩, false) : Sg × Bool)) rfl rfl (news_box HBX.out) (sg_one1 ((⟨swho + 1, sbody, ssig⟩, false) : Sg × Bool)) ?hb1 ?hb2 ?hb3 ?_; (case hb1 => omega); (case hb2 => omega); (case hb3 => simp; omega); intro A3 c3 w3 ho hc hA; have hs2 := HP3.out.size; have HO3 := Lib.hid ho; have HB3 := Lib.hid (below_app0 (HB2.out.trans (HP3.out.mono (by omega))) (by omega) hc (fun j hj => by have := (hrow1 j hj).1; omega)); have HK3 := Lib.hid ((HK2.out.below HP3.out).ch hc (Nat.le_refl _) ⟨fun h => by have := (hrow1 _ h).1; omega, fun h => by have := (hrow1 _ h).1; omega, fun h => by have := (hrow1 _ h).1; omega, fun h => by have := (hrow1 _ h).1; omega⟩); have HO4 := Lib.hid (own_ch (own_ch HO2.out (Ch.of_below (S := fun _ => False) HP3.out) (fun j hj => ⟨(own_row HO2.out hj).2, fun h => h⟩)) hc (fun j hj => ⟨by have := (hrow2 j hj).2; omega, fun h => HDIS.out j h hj⟩)); have HD3 := Lib.hid (dis_app hA HDIS.out (fun j hj => by have := (hrow2 j hj).2; omega)); have hs3 := hc.size; have hrow4 : ∀ j, Row A2 j → w.heap.size ≤ j ∧ j < w3.heap.size := (fun j hj => own_row HO4.out hj); have hrow3 : ∀ j, Row A3 j → w.heap.size ≤ j ∧ j < w3.heap.size := (fun j hj => own_row HO3.out hj); clear ho hc hA) | (at_builtin; refine app_row rfl (.tmp 67) (.tmp 69) 74 rfl w.heap.size 4 _ 1 1 info_bool Try.underlying74 rfl (by decide) A2 c2 k (L.flatMap gdCells) rfl (HO4.out.alloc _) _ 1 1 (gdCells ((⟨swho + 1, sbody, ssig⟩, false) : Sg × Bool)) rfl rfl (news_box (Box.new _ _ _)) (gd_one ((⟨swho + 1, sbody, ssig⟩, false) : Sg × Bool)) ?hb1 ?hb2 ?hb3 ?_; (case hb1 => omega); (case hb2 => omega); (case hb3 => simp; omega); intro A4 c4 w5 ho hc hA; have HO5 := Lib.hid ho; have HB5 := Lib.hid (below_app HB3.out (by omega) hc (fun j hj => by have := (hrow4 j hj).1; omega)); have HK5 := Lib.hid ((HK3.out.alloc _).ch hc (Nat.le_refl _) ⟨fun h => by have := (hrow4 _ h).1; omega, fun h => by have := (hrow4 _ h).1; omega, fun h => by have := (hrow4 _ h).1; omega, fun h => by have := (hrow4 _ h).1; omega⟩); have HO6 := Lib.hid (own_ch (HO3.out.alloc _) hc (fun j hj => ⟨by have := (hrow3 j hj).2; simp; omega, fun h => HD3.out j hj h⟩)); have HD5 := Lib.hid (show ∀ j, Row A3 j → ¬ Row A4 j from fun j h1 h2 => dis_app hA (fun j h1 h2 => HD3.out j h2 h1) (fun j hj => by have := (hrow3 j hj).2; simp; omega) j h2 h1); have hs5 := hc.size; clear ho hc hA))
              go_roundg (60 - (k + 1))
              case measure => have := HG.out; omega
              case rel => exact ⟨k + 1, A3, c3, A4, c4, by go_num, by go_num, by go_num, by omega, by omega, by omega, HB5.out, by rw [HX.out]; exact HK5.out, by rw [HX.out]; simpa using HO6.out, by rw [HX.out]; simpa using HO5.out, by simp at hs5; omega, HD5.out⟩
            · have hs1n : ¬ vspoilt = 1 := hn1
              have hs2n : ¬ vspoilt = 2 := hn2
              have HX := Lib.hid (show (sealsS ((l.take 60).take (k + 1)) []) = (L ++ [(⟨swho, sbody, ssig⟩, false)], S1) by rw [HST.out]; simp [spoil, hs1n, hs2n, hse])
              have HV3 := Lib.hid (HV2.out.alloc (.cells #[.int .i64 swho, .string sbody, .string ssig] 61))
              have HM3 := Lib.hid (Box.new w2 #[.int .i64 swho, .string sbody, .string ssig] 61)
              obtain ⟨q0, q1, q2, q3, q4, q5, _⟩ := HV3.out.facts6
              obtain ⟨r0, r1, r2, fr0, fr1, fr2⟩ := HM3.out.facts3
              go_wp2_with (first | (at_builtin; have HP3 := Lib.hid (show Below w2.heap.size w2 ((w2.alloc (.cells #[.int .i64 swho, .string sbody, .string ssig] 61)).alloc (.cells #[.int .i64 swho, .string sbody, .string ssig] 61)) from ((Below.refl w2.heap.size w2).alloc (Nat.le_refl _) _).alloc (by simp) _); have HBX := Lib.hid (show Box ((w2.alloc (.cells #[.int .i64 swho, .string sbody, .string ssig] 61)).alloc (.cells #[.int .i64 swho, .string sbody, .string ssig] 61)) (w2.heap.size + 1) #[.int .i64 swho, .string sbody, .string ssig] 61 from by have h := Box.new (w2.alloc (.cells #[.int .i64 swho, .string sbody, .string ssig] 61)) #[.int .i64 swho, .string sbody, .string ssig] 61; simp only [World.size_alloc] at h; exact h); refine app_row rfl (.tmp 63) (.tmp 65) 57 rfl w.heap.size 61 _ 3 40 info_sg Try.underlying57 rfl (by decide) A1 c1 k (L.flatMap msCells) rfl (own_ch HO1.out (Ch.of_below (S := fun _ => False) HP3.out) (fun j hj => ⟨(own_row HO1.out hj).2, fun h => h⟩)) _ 1 1 (msCells ((⟨swho, sbody, ssig⟩, false) : Sg × Bool)) rfl rfl (news_box HBX.out) (sg_one1 ((⟨swho, sbody, ssig⟩, false) : Sg × Bool)) ?hb1 ?hb2 ?hb3 ?_; (case hb1 => omega); (case hb2 => omega); (case hb3 => simp; omega); intro A3 c3 w3 ho hc hA; have hs2 := HP3.out.size; have HO3 := Lib.hid ho; have HB3 := Lib.hid (below_app0 (HB2.out.trans (HP3.out.mono (by omega))) (by omega) hc (fun j hj => by have := (hrow1 j hj).1; omega)); have HK3 := Lib.hid ((HK2.out.below HP3.out).ch hc (Nat.le_refl _) ⟨fun h => by have := (hrow1 _ h).1; omega, fun h => by have := (hrow1 _ h).1; omega, fun h => by have := (hrow1 _ h).1; omega, fun h => by have := (hrow1 _ h).1; omega⟩); have HO4 := Lib.hid (own_ch (own_ch HO2.out (Ch.of_below (S := fun _ => False) HP3.out) (fun j hj => ⟨(own_row HO2.out hj).2, fun h => h⟩)) hc (fun j hj => ⟨by have := (hrow2 j hj).2; omega, fun h => HDIS.out j h hj⟩)); have HD3 := Lib.hid (dis_app hA HDIS.out (fun j hj => by have := (hrow2 j hj).2; omega)); have hs3 := hc.size; have hrow4 : ∀ j, Row A2 j → w.heap.size ≤ j ∧ j < w3.heap.size := (fun j hj => own_row HO4.out hj); have hrow3 : ∀ j, Row A3 j → w.heap.size ≤ j ∧ j < w3.heap.size := (fun j hj => own_row HO3.out hj); clear ho hc hA) | (at_builtin; refine app_row rfl (.tmp 67) (.tmp 69) 74 rfl w.heap.size 4 _ 1 1 info_bool Try.underlying74 rfl (by decide) A2 c2 k (L.flatMap gdCells) rfl (HO4.out.alloc _) _ 1 1 (gdCells ((⟨swho, sbody, ssig⟩, false) : Sg × Bool)) rfl rfl (news_box (Box.new _ _ _)) (gd_one ((⟨swho, sbody, ssig⟩, false) : Sg × Bool)) ?hb1 ?hb2 ?hb3 ?_; (case hb1 => omega); (case hb2 => omega); (case hb3 => simp; omega); intro A4 c4 w5 ho hc hA; have HO5 := Lib.hid ho; have HB5 := Lib.hid (below_app HB3.out (by omega) hc (fun j hj => by have := (hrow4 j hj).1; omega)); have HK5 := Lib.hid ((HK3.out.alloc _).ch hc (Nat.le_refl _) ⟨fun h => by have := (hrow4 _ h).1; omega, fun h => by have := (hrow4 _ h).1; omega, fun h => by have := (hrow4 _ h).1; omega, fun h => by have := (hrow4 _ h).1; omega⟩); have HO6 := Lib.hid (own_ch (HO3.out.alloc _) hc (fun j hj => ⟨by have := (hrow3 j hj).2; simp; omega, fun h => HD3.out j hj h⟩)); have HD5 := Lib.hid (show ∀ j, Row A3 j → ¬ Row A4 j from fun j h1 h2 => dis_app hA (fun j h1 h2 => HD3.out j h2 h1) (fun j hj => by have := (hrow3 j hj).2; simp; omega) j h2 h1); have hs5 := hc.size; clear ho hc hA))
              go_roundg (60 - (k + 1))
              case measure => have := HG.out; omega
              case rel => exact ⟨k + 1, A3, c3, A4, c4, by go_num, by go_num, by go_num, by omega, by omega, by omega, HB5.out, by rw [HX.out]; exact HK5.out, by rw [HX.out]; simpa using HO6.out, by rw [HX.out]; simpa using HO5.out, by simp at hs5; omega, HD5.out⟩
      · have hd60 : decide ((k : Int) < 60) = false := by simp; omega
        have hkK : k = K := by rw [HKK.out]; simp; omega
        have htk : (l.take 60).take k = l.take 60 := List.take_of_length_le (by simp; omega)
        rw [htk, ← HQS.out] at HK HO1 HO2
        have HQ := Lib.hid (show SealedPost w0 w.heap.size b t m n T K QS (.returned (.tuple #[.slice A1 k c1, .slice A2 k c2])) wr from by subst hkK; exact ⟨A1, c1, A2, c2, rfl, HB.out, HK.out, HO1.out, HO2.out, hsz⟩)
        clear hkK htk
        go_wp2_with fail
        go_ret2
        exact HQ.out
    · have hkK : k = K := by rw [HKK.out]; simp; omega
      have htk : (l.take 60).take k = l.take 60 := List.take_of_length_le (by simp; omega)
      rw [htk, ← HQS.out] at HK HO1 HO2
      have HQ := Lib.hid (show SealedPost w0 w.heap.size b t m n T K QS (.returned (.tuple #[.slice A1 k c1, .slice A2 k c2])) wr from by subst hkK; exact ⟨A1, c1, A2, c2, rfl, HB.out, HK.out, HO1.out, HO2.out, hsz⟩)
      clear hkK htk
      go_wp2_with fail
      go_ret2
      exact HQ.out
end Go.Proofs.Ytfgpchffkpomoaa
