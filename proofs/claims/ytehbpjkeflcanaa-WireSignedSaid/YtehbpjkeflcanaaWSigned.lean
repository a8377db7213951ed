/- A message is laid, and bytes are read as one: both sides say the same, there and back: the walk. -/
import Derived.Test.YtehbpjkeflcanaaROfSg
import Derived.Test.YtehbpjkeflcanaaPlain
import Derived.Test.YtehbpjkeflcanaaAwake
import Derived.Test.YtehbpjkeflcanaaSameBd
import Derived.Laws.StructEq
namespace Go.Proofs.Ytehbpjkeflcanaa
set_option linter.unusedSimpArgs false
set_option linter.unusedVariables false
open Go.RowKit

theorem ofSg_put {m : Sg} (h : fitsB m = true) : ofSg (bs (putSg m)) = (m, 0) := by
  obtain ⟨f1, f2, f3, f4⟩ := (fitsB_iff m).1 h
  have hl := putSg_len h
  rw [ofSg_short_eq (by rw [bs_size]; omega), signed_put f1 (by omega) f3 (by omega) (at_self _)]
  simp only
  rw [if_neg (by rw [bs_size]; omega), if_pos h]

set_option maxHeartbeats 1000000 in
set_option maxRecDepth 100000 in
theorem wireSigned_calls (m : Sg) (s : ByteArray) (w : World) (hs : s.size ≤ maxLen) : Calls Try.prog 11 #[m.val, .string s] w (BoolPost true w) := by
  have H1 := Lib.hid (putSigned_calls m)
  have H2 := Lib.hid (rfits_calls m)
  have H4 := Lib.hid (fun w => ofSg_calls s w hs)
  have H5 := Lib.hid (fun w => rofSg_calls s w hs)
  unfold StrErr at H1
  unfold OfSgPost at H4 H5
  obtain ⟨⟨⟨xw, xb, xs⟩, g⟩, hr⟩ : ∃ r, ofSg s = r := ⟨_, rfl⟩
  rw [hr] at H4 H5
  clear hr hs
  have HB := Lib.hid ((Below.refl w.heap.size w).alloc (Nat.le_refl _) (.cells #[.int .i64 m.who, .string m.body, .string m.sig] 36))
  have K := Lib.hid (Box.new w #[.int .i64 m.who, .string m.body, .string m.sig] 36)
  by_cases hf : fitsB m = true
  · have ha : putSigned m = (bs (putSg m), 0) := by unfold putSigned; rw [if_pos hf]
    obtain ⟨f1, f2, f3, f4⟩ := (fitsB_iff m).1 hf
    have H6 := Lib.hid (fun w => rOne_calls m w f1 (by omega) (by omega) (by omega))
    have hb := ofSg_put hf
    rw [ha] at H1
    rw [hf] at H2
    obtain ⟨a, hab⟩ : ∃ a, a = bs (putSg m) := ⟨_, rfl⟩
    rw [← hab] at H1 H6 hb
    have hal : a.size ≤ maxLen := by rw [hab, bs_size]; have := putSg_len hf; simp only [maxLen]; omega
    have H3 := Lib.hid (fun w => ofSg_calls a w hal)
    unfold OfSgPost at H3
    rw [hb] at H3
    clear ha hb hab hal f1 f2 f3 f4 hf
    obtain ⟨who, body, sig⟩ := m
    unfold Sg.val at *
    simp only at *
    go_enter Try.func11, Try.ntmps11
    go_wp2_with fail
    refine (H1.out _).mono ?_
    rintro e w1 ⟨rfl, hb⟩
    have HB1 := Lib.hid (HB.out.trans (hb.mono HB.out.size))
    have K1 := Lib.hid (K.out.call hb)
    clear hb HB K
    have HB := HB1
    have K := K1
    clear HB1 K1
    obtain ⟨k0, k1, k2, _⟩ := K.out.facts3
    go_wp2_with fail
    refine (H2.out _).mono ?_
    rintro e w2 ⟨rfl, hb⟩
    have HB2 := Lib.hid (HB.out.trans (hb.mono HB.out.size))
    have K2 := Lib.hid (K.out.call hb)
    clear hb HB K
    have HB := HB2
    have K := K2
    clear HB2 K2
    obtain ⟨k0, k1, k2, _⟩ := K.out.facts3
    go_wp2_with fail
    refine (H3.out _).mono ?_
    rintro e w3 ⟨rfl, hb⟩
    have HB3 := Lib.hid (HB.out.trans (hb.mono HB.out.size))
    have K3 := Lib.hid (K.out.call hb)
    clear hb HB K
    have HB := HB3
    have K := K3
    clear HB3 K3
    have Ka := Lib.hid (K.out.alloc (.cells #[.int .i64 who, .string body, .string sig] 36))
    have R := Lib.hid (Box.new w3 #[.int .i64 who, .string body, .string sig] 36)
    have HBa := Lib.hid (HB.out.alloc HB.out.size (.cells #[.int .i64 who, .string body, .string sig] 36))
    clear K
    clear HB
    have HB := HBa
    clear HBa
    have K := Ka
    clear Ka
    obtain ⟨k0, k1, k2, _⟩ := K.out.facts3
    go_wp2_with fail
    refine (H6.out _).mono ?_
    rintro e w4 ⟨rfl, hb⟩
    have HB4 := Lib.hid (HB.out.trans (hb.mono HB.out.size))
    have K4 := Lib.hid (K.out.call hb)
    have R4 := Lib.hid (R.out.call hb)
    clear hb HB K R
    have HB := HB4
    have K := K4
    have R := R4
    clear HB4 K4 R4
    obtain ⟨k0, k1, k2, _⟩ := K.out.facts3
    obtain ⟨r0, r1, r2, _⟩ := R.out.facts3
    go_wp2_with fail
    refine (H4.out _).mono ?_
    rintro e w5 ⟨rfl, hb⟩
    have HB5 := Lib.hid (HB.out.trans (hb.mono HB.out.size))
    clear hb HB 
    have HB := HB5
    clear HB5 
    have P := Lib.hid (Box.new w5 #[.int .i64 xw, .string xb, .string xs] 36)
    have HBa := Lib.hid (HB.out.alloc HB.out.size (.cells #[.int .i64 xw, .string xb, .string xs] 36))
    clear HB
    have HB := HBa
    clear HBa
    go_wp2_with fail
    refine (H5.out _).mono ?_
    rintro e w6 ⟨rfl, hb⟩
    have HB6 := Lib.hid (HB.out.trans (hb.mono HB.out.size))
    have P6 := Lib.hid (P.out.call hb)
    clear hb HB P
    have HB := HB6
    have P := P6
    clear HB6 P6
    have Pa := Lib.hid (P.out.alloc (.cells #[.int .i64 xw, .string xb, .string xs] 36))
    have Q := Lib.hid (Box.new w6 #[.int .i64 xw, .string xb, .string xs] 36)
    have HBa := Lib.hid (HB.out.alloc HB.out.size (.cells #[.int .i64 xw, .string xb, .string xs] 36))
    clear P
    clear HB
    have HB := HBa
    clear HBa
    have P := Pa
    clear Pa
    obtain ⟨p0, p1, p2, _⟩ := P.out.facts3
    obtain ⟨q0, q1, q2, _⟩ := Q.out.facts3
    go_wp2_with (first | (go_at_call 18; refine (awake_calls _).mono ?_; rintro e wn ⟨rfl, hbn⟩; have HBn := Lib.hid (HB.out.trans (hbn.mono HB.out.size)); clear HB hbn; have HB := HBn; clear HBn))
    go_ret
    exact ⟨rfl, HB.out⟩
  · have hf' : fitsB m = false := by simpa using hf
    have ha : putSigned m = (⟨#[]⟩, 14) := by unfold putSigned; rw [if_neg hf]
    rw [ha] at H1
    rw [hf'] at H2
    clear ha hf' hf
    obtain ⟨who, body, sig⟩ := m
    unfold Sg.val at *
    simp only at *
    go_enter Try.func11, Try.ntmps11
    go_wp2_with fail
    refine (H1.out _).mono ?_
    rintro e w1 ⟨rfl, hb⟩
    have HB1 := Lib.hid (HB.out.trans (hb.mono HB.out.size))
    have K1 := Lib.hid (K.out.call hb)
    clear hb HB K
    have HB := HB1
    have K := K1
    clear HB1 K1
    obtain ⟨k0, k1, k2, _⟩ := K.out.facts3
    go_wp2_with fail
    refine (H2.out _).mono ?_
    rintro e w2 ⟨rfl, hb⟩
    have HB2 := Lib.hid (HB.out.trans (hb.mono HB.out.size))
    have K2 := Lib.hid (K.out.call hb)
    clear hb HB K
    have HB := HB2
    have K := K2
    clear HB2 K2
    obtain ⟨k0, k1, k2, _⟩ := K.out.facts3
    go_wp2_with fail
    refine (H4.out _).mono ?_
    rintro e w3 ⟨rfl, hb⟩
    have HB3 := Lib.hid (HB.out.trans (hb.mono HB.out.size))
    clear hb HB 
    have HB := HB3
    clear HB3 
    have P := Lib.hid (Box.new w3 #[.int .i64 xw, .string xb, .string xs] 36)
    have HBa := Lib.hid (HB.out.alloc HB.out.size (.cells #[.int .i64 xw, .string xb, .string xs] 36))
    clear HB
    have HB := HBa
    clear HBa
    go_wp2_with fail
    refine (H5.out _).mono ?_
    rintro e w4 ⟨rfl, hb⟩
    have HB4 := Lib.hid (HB.out.trans (hb.mono HB.out.size))
    have P4 := Lib.hid (P.out.call hb)
    clear hb HB P
    have HB := HB4
    have P := P4
    clear HB4 P4
    have Pa := Lib.hid (P.out.alloc (.cells #[.int .i64 xw, .string xb, .string xs] 36))
    have Q := Lib.hid (Box.new w4 #[.int .i64 xw, .string xb, .string xs] 36)
    have HBa := Lib.hid (HB.out.alloc HB.out.size (.cells #[.int .i64 xw, .string xb, .string xs] 36))
    clear P
    clear HB
    have HB := HBa
    clear HBa
    have P := Pa
    clear Pa
    obtain ⟨p0, p1, p2, _⟩ := P.out.facts3
    obtain ⟨q0, q1, q2, _⟩ := Q.out.facts3
    go_wp2_with (first | (go_at_call 18; refine (awake_calls _).mono ?_; rintro e wn ⟨rfl, hbn⟩; have HBn := Lib.hid (HB.out.trans (hbn.mono HB.out.size)); clear HB hbn; have HB := HBn; clear HBn))
    go_ret
    exact ⟨rfl, HB.out⟩
end Go.Proofs.Ytehbpjkeflcanaa
