/- Any body that may be is sealed by any signer and opened as it was; another signer's name, another body or other bytes of a signature are refused: the walk. -/
import Derived.Test.YtfgpchffkpomoaaOpens
import Derived.Test.YtfgpchffkpomoaaPlainBd
namespace Go.Proofs.Ytfgpchffkpomoaa
set_option linter.unusedSimpArgs false
set_option linter.unusedVariables false
open Go.RowKit

theorem openE_who {who other : Int} {s : ByteArray} (h : other ≠ who) (g : ByteArray) : openE [(who, s)] ⟨other, s, g⟩ = (zeroBd, 30) := by
  unfold openE checkE checkS
  simp only
  rw [place_not (by simp [h])]
  simp
theorem openE_text {who : Int} {s t : ByteArray} (h : t ≠ s) (g : ByteArray) : openE [(who, s)] ⟨who, t, g⟩ = (zeroBd, 30) := by
  unfold openE checkE checkS
  simp only
  rw [place_not (by simp [h])]
  simp
theorem openE_sig {who : Int} {s g : ByteArray} (h : g ≠ sigOf 0) : openE [(who, s)] ⟨who, s, g⟩ = (zeroBd, 30) := by
  unfold openE checkE checkS
  simp only
  rw [place_one]
  simp [h]
theorem signE_not' {who : Int} (h : ¬ (0 ≤ who ∧ who ≤ 255)) {S : List Wd} {s : ByteArray} : signE S who s = ((⟨#[]⟩, 1), S) := by unfold signE; rw [if_neg h]
/-- The body's own box, and the message's. -/
structure TwoBox (w : World) (i j : Nat) (cs ds : Array Value) (T U : TypeId) : Prop where
  x : Box w i cs T
  y : Box w j ds U
theorem TwoBox.call {w w' : World} {i j : Nat} {cs ds : Array Value} {T U : TypeId} (h : TwoBox w i j cs ds T U) (hb : Below w.heap.size w w') : TwoBox w' i j cs ds T U := ⟨h.x.call hb, h.y.call hb⟩
theorem TwoBox.alloc {w : World} {i j : Nat} {cs ds : Array Value} {T U : TypeId} (h : TwoBox w i j cs ds T U) (o : Obj) : TwoBox (w.alloc o) i j cs ds T U := ⟨h.x.alloc o, h.y.alloc o⟩

set_option maxHeartbeats 4000000 in
set_option maxRecDepth 100000 in
theorem authnSeals_calls (who : Int) (x : Bd) (A : Option Addr) (c : Nat) (other : Int) (body sig : ByteArray) (w : World) (hs : SgS w A c x.list) (hbs : body.size ≤ maxLen) :
    Calls Try.prog 11 #[.int .i64 who, x.val A c, .int .i64 other, .string body, .string sig] w (BoolPost true w) := by
  have H0 := Lib.hid (fun w => newBook_calls w)
  unfold NewPost at H0
  have HY := Lib.hid (fun b t m n w hb hs => seal_calls b t m n [] [] who x A c w hb (by decide) hs)
  unfold SealPost at HY
  have HR := Lib.hid (fun w hs => rbytes_calls x A c w hs)
  unfold StrErr at HR
  have HE := Lib.hid (show sealE [] who x = if (bytesE x).2 = 0 then ((if (signE [] who (bytesE x).1).1.2 = 0 then (⟨who, (bytesE x).1, (signE [] who (bytesE x).1).1.1⟩, 0) else (zeroSg, (signE [] who (bytesE x).1).1.2)), (signE [] who (bytesE x).1).2) else ((zeroSg, (bytesE x).2), []) from rfl)
  have hys := bytesE_size x
  have HOB := Lib.hid (fun y (h : bytesE x = (y, 0)) => (of_bytes h).1)
  obtain ⟨⟨y, f⟩, hy⟩ : ∃ r, bytesE x = r := ⟨_, rfl⟩
  rw [hy] at HR HE hys
  have HYY := Lib.hid hy
  simp only at HR HE hys
  have HSM := Lib.hid (fun A B p q w hs ht => same_calls x x A B p q w hs ht)
  rw [sameBd_iff.2 rfl] at HSM
  have HS := Lib.hid hs
  clear hs hy
  have hff : (f == f) = true := by simp
  obtain ⟨r, hr⟩ : ∃ r, sealE [] who x = r := ⟨_, rfl⟩
  rw [hr] at HY HE
  clear hr
  have HB0 := Lib.hid (Below.refl w.heap.size w)
  by_cases hf : f = 0
  · subst hf
    have hge := HE.out
    rw [if_pos rfl] at hge
    by_cases hw : 0 ≤ who ∧ who ≤ 255
    · rw [signE_new hw, if_pos rfl] at hge
      subst hge
      have HOX := Lib.hid (fun b t m n w hb => open_calls b t m n [] [(who, y)] ⟨who, y, sigOf 0⟩ w hb (by simp) (by simp only [maxLen]; omega))
      rw [openE_new hw, HOB.out y HYY.out] at HOX
      have HO1 := Lib.hid (fun (h : other ≠ who) b t m n w hb => (openE_who h (s := y) (sigOf 0)) ▸ open_calls b t m n [] [(who, y)] ⟨other, y, sigOf 0⟩ w hb (by simp) (by simp only [maxLen]; omega))
      have HO2 := Lib.hid (fun (h : body ≠ y) b t m n w hb => (openE_text h (who := who) (sigOf 0)) ▸ open_calls b t m n [] [(who, y)] ⟨who, body, sigOf 0⟩ w hb (by simp) hbs)
      have HO3 := Lib.hid (fun (h : sig ≠ sigOf 0) b t m n w hb => (openE_sig h (who := who) (s := y)) ▸ open_calls b t m n [] [(who, y)] ⟨who, y, sig⟩ w hb (by simp) (by simp only [maxLen]; omega))
      obtain ⟨g, hg⟩ : ∃ g, g = sigOf 0 := ⟨_, rfl⟩
      rw [← hg] at HY HOX HO1 HO2 HO3
      unfold BodyErr at HOX HO1 HO2 HO3
      obtain ⟨hw0, hw1⟩ := hw
      have hd0 : decide (who < 0) = false := by simp; omega
      have hd1 : decide (255 < who) = false := by simp; omega
      clear hg HE HOB HYY
      obtain ⟨kind, view, seq, client, stamp, digest, tx, list⟩ := x
      unfold zeroBd Sg.val Bd.val Bd.cells at *
      simp only at *
      go_enter Try.func11, Try.ntmps11
      go_wp2_with fail
      refine (H0.out _).mono ?_
      rintro e w1 ⟨b, t, m, n, rfl, hb1, hk1, g1, g2, g3, g4⟩
      have HB1 := Lib.hid ((HB0.out.alloc (Nat.le_refl _) (.cells #[.int .i64 kind, .int .i64 view, .int .i64 seq, .int .i64 client, .int .i64 stamp, .string digest, .string tx, .slice A list.length c] 59)).trans (hb1.mono (by simp)))
      have HK1 := Lib.hid hk1
      have hx1 := (Box.new w #[.int .i64 kind, .int .i64 view, .int .i64 seq, .int .i64 client, .int .i64 stamp, .string digest, .string tx, .slice A list.length c] 59).call hb1
      have HX1 := Lib.hid hx1
      have HS1 := Lib.hid (HS.out.below HB1.out)
      clear hb1 hk1
      obtain ⟨v0, v1, v2, v3, v4, v5, v6, v7, _⟩ := hx1.facts8
      clear hx1
      go_wp2_with fail
      refine (HY.out _ _ _ _ _ HK1.out HS1.out).mono ?_
      rintro e w2 ⟨rfl, hc2, hk2⟩
      have HB2 := Lib.hid (below_ch HB1.out hc2 (by simp at g4; omega) HB1.out.size)
      have HK2 := Lib.hid (hk2.alloc (.cells #[.int .i64 who, .string y, .string g] 61))
      have HX2 := Lib.hid (show TwoBox (w2.alloc (.cells #[.int .i64 who, .string y, .string g] 61)) w.heap.size w2.heap.size #[.int .i64 kind, .int .i64 view, .int .i64 seq, .int .i64 client, .int .i64 stamp, .string digest, .string tx, .slice A list.length c] #[.int .i64 who, .string y, .string g] 59 61 from ⟨(HX1.out.keep hc2 (by simp at g4; omega)).alloc _, Box.new _ _ _⟩)
      have HB3 := Lib.hid (HB2.out.alloc HB2.out.size (.cells #[.int .i64 who, .string y, .string g] 61))
      have HS3 := Lib.hid (HS.out.below HB3.out)
      clear hc2 hk2 v0 v1 v2 v3 v4 v5 v6 v7
      obtain ⟨v0, v1, v2, v3, v4, v5, v6, v7, _⟩ := HX2.out.x.facts8
      go_wp2_with fail
      refine (HR.out _ HS3.out).mono ?_
      rintro e w4 ⟨rfl, hb4⟩
      have HB4 := Lib.hid (HB3.out.trans (hb4.mono HB3.out.size))
      have HK4 := Lib.hid (HK2.out.below hb4)
      have HX4 := Lib.hid (HX2.out.call hb4)
      clear hb4 v0 v1 v2 v3 v4 v5 v6 v7
      obtain ⟨v0, v1, v2, v3, v4, v5, v6, v7, _⟩ := HX4.out.x.facts8
      obtain ⟨m0, m1, m2, _⟩ := HX4.out.y.facts3
      go_wp2_with fail
      refine (HOX.out _ _ _ _ _ HK4.out).mono ?_
      rintro e w5 ⟨A5, c5, rfl, hb5, ho5⟩
      have HB5 := Lib.hid ((HB4.out.trans (hb5.mono HB4.out.size)).alloc (HB4.out.trans (hb5.mono HB4.out.size)).size (.cells #[.int .i64 kind, .int .i64 view, .int .i64 seq, .int .i64 client, .int .i64 stamp, .string digest, .string tx, .slice A5 list.length c5] 59))
      have HK5 := Lib.hid ((HK4.out.below hb5).alloc (.cells #[.int .i64 kind, .int .i64 view, .int .i64 seq, .int .i64 client, .int .i64 stamp, .string digest, .string tx, .slice A5 list.length c5] 59))
      have HX5 := Lib.hid ((HX4.out.call hb5).alloc (.cells #[.int .i64 kind, .int .i64 view, .int .i64 seq, .int .i64 client, .int .i64 stamp, .string digest, .string tx, .slice A5 list.length c5] 59))
      have HS5 := Lib.hid (HS.out.below HB5.out)
      have HT5 := Lib.hid ((Sl.of_own ho5).below ((Below.refl _ _).alloc (Nat.le_refl _) (.cells #[.int .i64 kind, .int .i64 view, .int .i64 seq, .int .i64 client, .int .i64 stamp, .string digest, .string tx, .slice A5 list.length c5] 59)))
      clear hb5 ho5 v0 v1 v2 v3 v4 v5 v6 v7 m0 m1 m2
      obtain ⟨v0, v1, v2, v3, v4, v5, v6, v7, _⟩ := HX5.out.x.facts8
      obtain ⟨m0, m1, m2, _⟩ := HX5.out.y.facts3
      go_wp2_with fail
      refine (HSM.out _ _ _ _ _ HS5.out HT5.out).mono ?_
      rintro e w6 ⟨rfl, hb6⟩
      have HB6 := Lib.hid (HB5.out.trans (hb6.mono HB5.out.size))
      have HK6 := Lib.hid (HK5.out.below hb6)
      have HX6 := Lib.hid (HX5.out.call hb6)
      clear hb6 v0 v1 v2 v3 v4 v5 v6 v7 m0 m1 m2
      obtain ⟨m0, m1, m2, _⟩ := HX6.out.y.facts3
      by_cases c0 : other = who
      · have e0 : (other == who) = true := by simpa using c0
        clear c0
        by_cases c1 : body = y
        · have e1 : (body.toList == y.toList) = true := by rw [beq_list]; simpa using c1
          clear c1
          by_cases c2 : sig = g
          · have e2 : (sig.toList == g.toList) = true := by rw [beq_list]; simpa using c2
            clear c2
            have HBL := Lib.hid HB6.out
            go_wp2_with fail
            refine (awake3_calls _).mono ?_
            rintro e w9 ⟨rfl, hb9⟩
            have HB9 := Lib.hid (HBL.out.trans (hb9.mono HBL.out.size))
            clear hb9
            go_wp2
            go_ret
            exact ⟨rfl, HB9.out⟩
          · have e2 : (sig.toList == g.toList) = false := by rw [beq_list]; simpa using c2
            have HOY := Lib.hid (HO3.out c2)
            clear c2
            go_wp2_with fail
            refine (HOY.out _ _ _ _ _ HK6.out).mono ?_
            rintro e w7 ⟨A7, c7, rfl, hb7, ho7⟩
            have HB7 := Lib.hid ((HB6.out.trans (hb7.mono HB6.out.size)).alloc (HB6.out.trans (hb7.mono HB6.out.size)).size (.cells #[.int .i64 0, .int .i64 0, .int .i64 0, .int .i64 0, .int .i64 0, .string ⟨#[]⟩, .string ⟨#[]⟩, .slice A7 0 c7] 59))
            have HK7 := Lib.hid ((HK6.out.below hb7).alloc (.cells #[.int .i64 0, .int .i64 0, .int .i64 0, .int .i64 0, .int .i64 0, .string ⟨#[]⟩, .string ⟨#[]⟩, .slice A7 0 c7] 59))
            have HX7 := Lib.hid ((HX6.out.call hb7).alloc (.cells #[.int .i64 0, .int .i64 0, .int .i64 0, .int .i64 0, .int .i64 0, .string ⟨#[]⟩, .string ⟨#[]⟩, .slice A7 0 c7] 59))
            clear hb7 ho7 m0 m1 m2
            obtain ⟨m0, m1, m2, _⟩ := HX7.out.y.facts3
            have HBL := Lib.hid HB7.out
            go_wp2_with fail
            refine (awake3_calls _).mono ?_
            rintro e w9 ⟨rfl, hb9⟩
            have HB9 := Lib.hid (HBL.out.trans (hb9.mono HBL.out.size))
            clear hb9
            go_wp2
            go_ret
            exact ⟨rfl, HB9.out⟩
        · have e1 : (body.toList == y.toList) = false := by rw [beq_list]; simpa using c1
          have HOY := Lib.hid (HO2.out c1)
          clear c1
          go_wp2_with fail
          refine (HOY.out _ _ _ _ _ HK6.out).mono ?_
          rintro e w7 ⟨A7, c7, rfl, hb7, ho7⟩
          have HB7 := Lib.hid ((HB6.out.trans (hb7.mono HB6.out.size)).alloc (HB6.out.trans (hb7.mono HB6.out.size)).size (.cells #[.int .i64 0, .int .i64 0, .int .i64 0, .int .i64 0, .int .i64 0, .string ⟨#[]⟩, .string ⟨#[]⟩, .slice A7 0 c7] 59))
          have HK7 := Lib.hid ((HK6.out.below hb7).alloc (.cells #[.int .i64 0, .int .i64 0, .int .i64 0, .int .i64 0, .int .i64 0, .string ⟨#[]⟩, .string ⟨#[]⟩, .slice A7 0 c7] 59))
          have HX7 := Lib.hid ((HX6.out.call hb7).alloc (.cells #[.int .i64 0, .int .i64 0, .int .i64 0, .int .i64 0, .int .i64 0, .string ⟨#[]⟩, .string ⟨#[]⟩, .slice A7 0 c7] 59))
          clear hb7 ho7 m0 m1 m2
          obtain ⟨m0, m1, m2, _⟩ := HX7.out.y.facts3
          by_cases c2 : sig = g
          · have e2 : (sig.toList == g.toList) = true := by rw [beq_list]; simpa using c2
            clear c2
            have HBL := Lib.hid HB7.out
            go_wp2_with fail
            refine (awake3_calls _).mono ?_
            rintro e w9 ⟨rfl, hb9⟩
            have HB9 := Lib.hid (HBL.out.trans (hb9.mono HBL.out.size))
            clear hb9
            go_wp2
            go_ret
            exact ⟨rfl, HB9.out⟩
          · have e2 : (sig.toList == g.toList) = false := by rw [beq_list]; simpa using c2
            have HOY := Lib.hid (HO3.out c2)
            clear c2
            go_wp2_with fail
            refine (HOY.out _ _ _ _ _ HK7.out).mono ?_
            rintro e w8 ⟨A8, c8, rfl, hb8, ho8⟩
            have HB8 := Lib.hid ((HB7.out.trans (hb8.mono HB7.out.size)).alloc (HB7.out.trans (hb8.mono HB7.out.size)).size (.cells #[.int .i64 0, .int .i64 0, .int .i64 0, .int .i64 0, .int .i64 0, .string ⟨#[]⟩, .string ⟨#[]⟩, .slice A8 0 c8] 59))
            have HK8 := Lib.hid ((HK7.out.below hb8).alloc (.cells #[.int .i64 0, .int .i64 0, .int .i64 0, .int .i64 0, .int .i64 0, .string ⟨#[]⟩, .string ⟨#[]⟩, .slice A8 0 c8] 59))
            have HX8 := Lib.hid ((HX7.out.call hb8).alloc (.cells #[.int .i64 0, .int .i64 0, .int .i64 0, .int .i64 0, .int .i64 0, .string ⟨#[]⟩, .string ⟨#[]⟩, .slice A8 0 c8] 59))
            clear hb8 ho8 m0 m1 m2
            obtain ⟨m0, m1, m2, _⟩ := HX8.out.y.facts3
            have HBL := Lib.hid HB8.out
            go_wp2_with fail
            refine (awake3_calls _).mono ?_
            rintro e w9 ⟨rfl, hb9⟩
            have HB9 := Lib.hid (HBL.out.trans (hb9.mono HBL.out.size))
            clear hb9
            go_wp2
            go_ret
            exact ⟨rfl, HB9.out⟩
      · have e0 : (other == who) = false := by simpa using c0
        have HOY := Lib.hid (HO1.out c0)
        clear c0
        go_wp2_with fail
        refine (HOY.out _ _ _ _ _ HK6.out).mono ?_
        rintro e w7 ⟨A7, c7, rfl, hb7, ho7⟩
        have HB7 := Lib.hid ((HB6.out.trans (hb7.mono HB6.out.size)).alloc (HB6.out.trans (hb7.mono HB6.out.size)).size (.cells #[.int .i64 0, .int .i64 0, .int .i64 0, .int .i64 0, .int .i64 0, .string ⟨#[]⟩, .string ⟨#[]⟩, .slice A7 0 c7] 59))
        have HK7 := Lib.hid ((HK6.out.below hb7).alloc (.cells #[.int .i64 0, .int .i64 0, .int .i64 0, .int .i64 0, .int .i64 0, .string ⟨#[]⟩, .string ⟨#[]⟩, .slice A7 0 c7] 59))
        have HX7 := Lib.hid ((HX6.out.call hb7).alloc (.cells #[.int .i64 0, .int .i64 0, .int .i64 0, .int .i64 0, .int .i64 0, .string ⟨#[]⟩, .string ⟨#[]⟩, .slice A7 0 c7] 59))
        clear hb7 ho7 m0 m1 m2
        obtain ⟨m0, m1, m2, _⟩ := HX7.out.y.facts3
        by_cases c1 : body = y
        · have e1 : (body.toList == y.toList) = true := by rw [beq_list]; simpa using c1
          clear c1
          by_cases c2 : sig = g
          · have e2 : (sig.toList == g.toList) = true := by rw [beq_list]; simpa using c2
            clear c2
            have HBL := Lib.hid HB7.out
            go_wp2_with fail
            refine (awake3_calls _).mono ?_
            rintro e w9 ⟨rfl, hb9⟩
            have HB9 := Lib.hid (HBL.out.trans (hb9.mono HBL.out.size))
            clear hb9
            go_wp2
            go_ret
            exact ⟨rfl, HB9.out⟩
          · have e2 : (sig.toList == g.toList) = false := by rw [beq_list]; simpa using c2
            have HOY := Lib.hid (HO3.out c2)
            clear c2
            go_wp2_with fail
            refine (HOY.out _ _ _ _ _ HK7.out).mono ?_
            rintro e w8 ⟨A8, c8, rfl, hb8, ho8⟩
            have HB8 := Lib.hid ((HB7.out.trans (hb8.mono HB7.out.size)).alloc (HB7.out.trans (hb8.mono HB7.out.size)).size (.cells #[.int .i64 0, .int .i64 0, .int .i64 0, .int .i64 0, .int .i64 0, .string ⟨#[]⟩, .string ⟨#[]⟩, .slice A8 0 c8] 59))
            have HK8 := Lib.hid ((HK7.out.below hb8).alloc (.cells #[.int .i64 0, .int .i64 0, .int .i64 0, .int .i64 0, .int .i64 0, .string ⟨#[]⟩, .string ⟨#[]⟩, .slice A8 0 c8] 59))
            have HX8 := Lib.hid ((HX7.out.call hb8).alloc (.cells #[.int .i64 0, .int .i64 0, .int .i64 0, .int .i64 0, .int .i64 0, .string ⟨#[]⟩, .string ⟨#[]⟩, .slice A8 0 c8] 59))
            clear hb8 ho8 m0 m1 m2
            obtain ⟨m0, m1, m2, _⟩ := HX8.out.y.facts3
            have HBL := Lib.hid HB8.out
            go_wp2_with fail
            refine (awake3_calls _).mono ?_
            rintro e w9 ⟨rfl, hb9⟩
            have HB9 := Lib.hid (HBL.out.trans (hb9.mono HBL.out.size))
            clear hb9
            go_wp2
            go_ret
            exact ⟨rfl, HB9.out⟩
        · have e1 : (body.toList == y.toList) = false := by rw [beq_list]; simpa using c1
          have HOY := Lib.hid (HO2.out c1)
          clear c1
          go_wp2_with fail
          refine (HOY.out _ _ _ _ _ HK7.out).mono ?_
          rintro e w8 ⟨A8, c8, rfl, hb8, ho8⟩
          have HB8 := Lib.hid ((HB7.out.trans (hb8.mono HB7.out.size)).alloc (HB7.out.trans (hb8.mono HB7.out.size)).size (.cells #[.int .i64 0, .int .i64 0, .int .i64 0, .int .i64 0, .int .i64 0, .string ⟨#[]⟩, .string ⟨#[]⟩, .slice A8 0 c8] 59))
          have HK8 := Lib.hid ((HK7.out.below hb8).alloc (.cells #[.int .i64 0, .int .i64 0, .int .i64 0, .int .i64 0, .int .i64 0, .string ⟨#[]⟩, .string ⟨#[]⟩, .slice A8 0 c8] 59))
          have HX8 := Lib.hid ((HX7.out.call hb8).alloc (.cells #[.int .i64 0, .int .i64 0, .int .i64 0, .int .i64 0, .int .i64 0, .string ⟨#[]⟩, .string ⟨#[]⟩, .slice A8 0 c8] 59))
          clear hb8 ho8 m0 m1 m2
          obtain ⟨m0, m1, m2, _⟩ := HX8.out.y.facts3
          by_cases c2 : sig = g
          · have e2 : (sig.toList == g.toList) = true := by rw [beq_list]; simpa using c2
            clear c2
            have HBL := Lib.hid HB8.out
            go_wp2_with fail
            refine (awake3_calls _).mono ?_
            rintro e w9 ⟨rfl, hb9⟩
            have HB9 := Lib.hid (HBL.out.trans (hb9.mono HBL.out.size))
            clear hb9
            go_wp2
            go_ret
            exact ⟨rfl, HB9.out⟩
          · have e2 : (sig.toList == g.toList) = false := by rw [beq_list]; simpa using c2
            have HOY := Lib.hid (HO3.out c2)
            clear c2
            go_wp2_with fail
            refine (HOY.out _ _ _ _ _ HK8.out).mono ?_
            rintro e w9 ⟨A9, c9, rfl, hb9, ho9⟩
            have HB9 := Lib.hid ((HB8.out.trans (hb9.mono HB8.out.size)).alloc (HB8.out.trans (hb9.mono HB8.out.size)).size (.cells #[.int .i64 0, .int .i64 0, .int .i64 0, .int .i64 0, .int .i64 0, .string ⟨#[]⟩, .string ⟨#[]⟩, .slice A9 0 c9] 59))
            have HK9 := Lib.hid ((HK8.out.below hb9).alloc (.cells #[.int .i64 0, .int .i64 0, .int .i64 0, .int .i64 0, .int .i64 0, .string ⟨#[]⟩, .string ⟨#[]⟩, .slice A9 0 c9] 59))
            have HX9 := Lib.hid ((HX8.out.call hb9).alloc (.cells #[.int .i64 0, .int .i64 0, .int .i64 0, .int .i64 0, .int .i64 0, .string ⟨#[]⟩, .string ⟨#[]⟩, .slice A9 0 c9] 59))
            clear hb9 ho9 m0 m1 m2
            obtain ⟨m0, m1, m2, _⟩ := HX9.out.y.facts3
            have HBL := Lib.hid HB9.out
            go_wp2_with fail
            refine (awake3_calls _).mono ?_
            rintro e w9 ⟨rfl, hb9⟩
            have HB9 := Lib.hid (HBL.out.trans (hb9.mono HBL.out.size))
            clear hb9
            go_wp2
            go_ret
            exact ⟨rfl, HB9.out⟩
    · have hsn : signE [] who y = ((⟨#[]⟩, 1), []) := signE_not' hw
      rw [hsn, if_neg (by decide)] at hge
      subst hge
      have hd0 : decide (who < 0) = true ∨ (decide (who < 0) = false ∧ decide (255 < who) = true) := by simp; omega
      clear hw hsn HE HOB HYY
      obtain ⟨kind, view, seq, client, stamp, digest, tx, list⟩ := x
      unfold zeroSg Sg.val Bd.val Bd.cells at *
      simp only at *
      rcases hd0 with hd0 | ⟨hd0, hd1⟩
      all_goals
        go_enter Try.func11, Try.ntmps11
        go_wp2_with fail
        refine (H0.out _).mono ?_
        rintro e w1 ⟨b, t, m, n, rfl, hb1, hk1, g1, g2, g3, g4⟩
        have HB1 := Lib.hid ((HB0.out.alloc (Nat.le_refl _) (.cells #[.int .i64 kind, .int .i64 view, .int .i64 seq, .int .i64 client, .int .i64 stamp, .string digest, .string tx, .slice A list.length c] 59)).trans (hb1.mono (by simp)))
        have HK1 := Lib.hid hk1
        have hx1 := (Box.new w #[.int .i64 kind, .int .i64 view, .int .i64 seq, .int .i64 client, .int .i64 stamp, .string digest, .string tx, .slice A list.length c] 59).call hb1
        have HX1 := Lib.hid hx1
        have HS1 := Lib.hid (HS.out.below HB1.out)
        clear hb1 hk1
        obtain ⟨v0, v1, v2, v3, v4, v5, v6, v7, _⟩ := hx1.facts8
        clear hx1
        go_wp2_with fail
        refine (HY.out _ _ _ _ _ HK1.out HS1.out).mono ?_
        rintro e w2 ⟨rfl, hc2, hk2⟩
        have HB2 := Lib.hid (below_ch HB1.out hc2 (by simp at g4; omega) HB1.out.size)
        have HK2 := Lib.hid (hk2.alloc (.cells #[.int .i64 0, .string ⟨#[]⟩, .string ⟨#[]⟩] 61))
        have HX2 := Lib.hid (show TwoBox (w2.alloc (.cells #[.int .i64 0, .string ⟨#[]⟩, .string ⟨#[]⟩] 61)) w.heap.size w2.heap.size #[.int .i64 kind, .int .i64 view, .int .i64 seq, .int .i64 client, .int .i64 stamp, .string digest, .string tx, .slice A list.length c] #[.int .i64 0, .string ⟨#[]⟩, .string ⟨#[]⟩] 59 61 from ⟨(HX1.out.keep hc2 (by simp at g4; omega)).alloc _, Box.new _ _ _⟩)
        have HB3 := Lib.hid (HB2.out.alloc HB2.out.size (.cells #[.int .i64 0, .string ⟨#[]⟩, .string ⟨#[]⟩] 61))
        have HS3 := Lib.hid (HS.out.below HB3.out)
        clear hc2 hk2 v0 v1 v2 v3 v4 v5 v6 v7
        obtain ⟨v0, v1, v2, v3, v4, v5, v6, v7, _⟩ := HX2.out.x.facts8
        go_wp2_with fail
        refine (HR.out _ HS3.out).mono ?_
        rintro e w4 ⟨rfl, hb4⟩
        have HB4 := Lib.hid (HB3.out.trans (hb4.mono HB3.out.size))
        have HK4 := Lib.hid (HK2.out.below hb4)
        have HX4 := Lib.hid (HX2.out.call hb4)
        clear hb4 v0 v1 v2 v3 v4 v5 v6 v7
        obtain ⟨v0, v1, v2, v3, v4, v5, v6, v7, _⟩ := HX4.out.x.facts8
        obtain ⟨m0, m1, m2, _⟩ := HX4.out.y.facts3
        have HBL := Lib.hid HB4.out
        go_wp2_with fail
        refine (awake3_calls _).mono ?_
        rintro e w9 ⟨rfl, hb9⟩
        have HB9 := Lib.hid (HBL.out.trans (hb9.mono HBL.out.size))
        clear hb9
        go_wp2
        go_ret
        exact ⟨rfl, HB9.out⟩
  · have hge := HE.out
    rw [if_neg hf] at hge
    subst hge
    have hd0 : (f == 0) = false := by simpa using hf
    clear hf HE HOB HYY
    obtain ⟨kind, view, seq, client, stamp, digest, tx, list⟩ := x
    unfold zeroSg Sg.val Bd.val Bd.cells at *
    simp only at *
    go_enter Try.func11, Try.ntmps11
    go_wp2_with fail
    refine (H0.out _).mono ?_
    rintro e w1 ⟨b, t, m, n, rfl, hb1, hk1, g1, g2, g3, g4⟩
    have HB1 := Lib.hid ((HB0.out.alloc (Nat.le_refl _) (.cells #[.int .i64 kind, .int .i64 view, .int .i64 seq, .int .i64 client, .int .i64 stamp, .string digest, .string tx, .slice A list.length c] 59)).trans (hb1.mono (by simp)))
    have HK1 := Lib.hid hk1
    have hx1 := (Box.new w #[.int .i64 kind, .int .i64 view, .int .i64 seq, .int .i64 client, .int .i64 stamp, .string digest, .string tx, .slice A list.length c] 59).call hb1
    have HX1 := Lib.hid hx1
    have HS1 := Lib.hid (HS.out.below HB1.out)
    clear hb1 hk1
    obtain ⟨v0, v1, v2, v3, v4, v5, v6, v7, _⟩ := hx1.facts8
    clear hx1
    go_wp2_with fail
    refine (HY.out _ _ _ _ _ HK1.out HS1.out).mono ?_
    rintro e w2 ⟨rfl, hc2, hk2⟩
    have HB2 := Lib.hid (below_ch HB1.out hc2 (by simp at g4; omega) HB1.out.size)
    have HK2 := Lib.hid (hk2.alloc (.cells #[.int .i64 0, .string ⟨#[]⟩, .string ⟨#[]⟩] 61))
    have HX2 := Lib.hid (show TwoBox (w2.alloc (.cells #[.int .i64 0, .string ⟨#[]⟩, .string ⟨#[]⟩] 61)) w.heap.size w2.heap.size #[.int .i64 kind, .int .i64 view, .int .i64 seq, .int .i64 client, .int .i64 stamp, .string digest, .string tx, .slice A list.length c] #[.int .i64 0, .string ⟨#[]⟩, .string ⟨#[]⟩] 59 61 from ⟨(HX1.out.keep hc2 (by simp at g4; omega)).alloc _, Box.new _ _ _⟩)
    have HB3 := Lib.hid (HB2.out.alloc HB2.out.size (.cells #[.int .i64 0, .string ⟨#[]⟩, .string ⟨#[]⟩] 61))
    have HS3 := Lib.hid (HS.out.below HB3.out)
    clear hc2 hk2 v0 v1 v2 v3 v4 v5 v6 v7
    obtain ⟨v0, v1, v2, v3, v4, v5, v6, v7, _⟩ := HX2.out.x.facts8
    go_wp2_with fail
    refine (HR.out _ HS3.out).mono ?_
    rintro e w4 ⟨rfl, hb4⟩
    have HB4 := Lib.hid (HB3.out.trans (hb4.mono HB3.out.size))
    have HK4 := Lib.hid (HK2.out.below hb4)
    have HX4 := Lib.hid (HX2.out.call hb4)
    clear hb4 v0 v1 v2 v3 v4 v5 v6 v7
    obtain ⟨v0, v1, v2, v3, v4, v5, v6, v7, _⟩ := HX4.out.x.facts8
    obtain ⟨m0, m1, m2, _⟩ := HX4.out.y.facts3
    have HBL := Lib.hid HB4.out
    go_wp2_with fail
    refine (awake3_calls _).mono ?_
    rintro e w9 ⟨rfl, hb9⟩
    have HB9 := Lib.hid (HBL.out.trans (hb9.mono HBL.out.size))
    clear hb9
    go_wp2
    go_ret
    exact ⟨rfl, HB9.out⟩
end Go.Proofs.Ytfgpchffkpomoaa
