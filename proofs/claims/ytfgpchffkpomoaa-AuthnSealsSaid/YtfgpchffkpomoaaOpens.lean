/- Bytes that somebody signed, but that are no body, are refused for what is wrong with them: the walk. -/
import Derived.Test.YtfgpchffkpomoaaAwake3
import Derived.Test.YtfgpchffkpomoaaRound
import Derived.Test.YtfgpchffkpomoaaRefOf
import Derived.Test.YtfgpchffkpomoaaSameBd
namespace Go.Proofs.Ytfgpchffkpomoaa
set_option linter.unusedSimpArgs false
set_option linter.unusedVariables false
open Go.RowKit

theorem place_one (x : Wd) : place x [x] = some 0 := by simp [place]
theorem signE_new {who : Int} (h : 0 ≤ who ∧ who ≤ 255) (s : ByteArray) : signE [] who s = ((sigOf 0, 0), [(who, s)]) := by
  unfold signE; rw [if_pos h]; rfl
theorem openE_new {who : Int} (h : 0 ≤ who ∧ who ≤ 255) (s : ByteArray) : openE [(who, s)] ⟨who, s, sigOf 0⟩ = ofBody s := by
  unfold openE
  rw [if_pos]
  unfold checkE checkS
  simp only
  rw [place_one, decide_eq_true h]
  simp

set_option maxHeartbeats 1000000 in
set_option maxRecDepth 100000 in
theorem authnOpens_calls (who : Int) (body : ByteArray) (w : World) (hs : body.size ≤ maxLen) : Calls Try.prog 12 #[.int .i64 who, .string body] w (BoolPost true w) := by
  have H0 := Lib.hid (fun w => newBook_calls w)
  unfold NewPost at H0
  have HR := Lib.hid (fun w => round3_calls who 256 w (by decide) (by decide))
  have hr := rnd_lt who (m := 256) (by decide)
  obtain ⟨r, hrr⟩ : ∃ r, r = rnd who 256 := ⟨_, rfl⟩
  rw [← hrr] at HR hr
  clear hrr
  have hrb : (0 : Int) ≤ (r : Int) ∧ (r : Int) ≤ 255 := by omega
  have HG := Lib.hid (fun b t m n w hb => sign_calls b t m n [] [] r body w hb (by decide) hs)
  rw [signE_new hrb] at HG
  have HO := Lib.hid (fun b t m n w hb => open_calls b t m n [] [((r : Int), body)] ⟨r, body, sigOf 0⟩ w hb (by simp) hs)
  rw [openE_new hrb] at HO
  have H2 := Lib.hid (fun w => rOf_calls body w hs)
  unfold OfPost at H2
  unfold BodyErr at HO
  unfold SignsPost at HG
  obtain ⟨g, hg⟩ : ∃ g, g = sigOf 0 := ⟨_, rfl⟩
  rw [← hg] at HG HO
  obtain ⟨⟨y, x⟩, hy⟩ : ∃ y, y = ofBody body := ⟨_, rfl⟩
  rw [← hy] at HO H2
  have H3 := Lib.hid (fun A B p q w hs ht => same_calls y y A B p q w hs ht)
  rw [sameBd_iff.2 rfl] at H3
  obtain ⟨kind, view, seq, client, stamp, digest, tx, list⟩ := y
  unfold Sg.val at HO
  unfold Bd.val Bd.cells at *
  simp only at *
  clear hy hg hrb hs
  have hxx : (x == x) = true := by simp
  go_enter Try.func12, Try.ntmps12
  go_wp2_with fail
  refine (H0.out _).mono ?_
  rintro e w1 ⟨b, t, m, n, rfl, hb1, hk1, g1, g2, g3, g4⟩
  have HB1 := Lib.hid hb1
  have HK1 := Lib.hid hk1
  have hz1 := hb1.size
  clear hb1 hk1
  go_wp2_with fail
  refine (HR.out _).mono ?_
  rintro e w2 ⟨rfl, rfl⟩
  go_wp2_with fail
  refine (HG.out _ _ _ _ _ HK1.out).mono ?_
  rintro e w3 ⟨rfl, hc3, hk3⟩
  have HB3 := Lib.hid (below_ch HB1.out hc3 g4 hz1)
  have HK3 := Lib.hid hk3
  clear hc3 hk3
  go_wp2_with fail
  refine (HO.out _ _ _ _ _ HK3.out).mono ?_
  rintro e w4 ⟨A4, c4, rfl, hb4, ho4⟩
  have HB4 := Lib.hid (HB3.out.trans (hb4.mono HB3.out.size))
  have HO4 := Lib.hid ho4
  have HX4 := Lib.hid (Box.new w4 #[.int .i64 kind, .int .i64 view, .int .i64 seq, .int .i64 client, .int .i64 stamp, .string digest, .string tx, .slice A4 list.length c4] 59)
  have HS4 := Lib.hid ((Sl.of_own ho4).below ((Below.refl _ _).alloc (Nat.le_refl _) (.cells #[.int .i64 kind, .int .i64 view, .int .i64 seq, .int .i64 client, .int .i64 stamp, .string digest, .string tx, .slice A4 list.length c4] 59)))
  clear hb4 ho4
  go_wp2_with fail
  refine (H2.out _).mono ?_
  rintro e w5 ⟨A5, c5, rfl, hb5, ho5⟩
  have HB5 := Lib.hid ((HB4.out.alloc HB4.out.size _).trans (hb5.mono (by have := HB4.out.size; simp; omega)))
  have HX5 := Lib.hid ((HX4.out.call hb5).alloc (.cells #[.int .i64 kind, .int .i64 view, .int .i64 seq, .int .i64 client, .int .i64 stamp, .string digest, .string tx, .slice A5 list.length c5] 59))
  have HS5 := Lib.hid ((HS4.out.below hb5).below ((Below.refl _ _).alloc (Nat.le_refl _) (.cells #[.int .i64 kind, .int .i64 view, .int .i64 seq, .int .i64 client, .int .i64 stamp, .string digest, .string tx, .slice A5 list.length c5] 59)))
  have HT5 := Lib.hid ((Sl.of_own ho5).below ((Below.refl _ _).alloc (Nat.le_refl _) (.cells #[.int .i64 kind, .int .i64 view, .int .i64 seq, .int .i64 client, .int .i64 stamp, .string digest, .string tx, .slice A5 list.length c5] 59)))
  have HB6 := Lib.hid (HB5.out.alloc HB5.out.size (.cells #[.int .i64 kind, .int .i64 view, .int .i64 seq, .int .i64 client, .int .i64 stamp, .string digest, .string tx, .slice A5 list.length c5] 59))
  obtain ⟨v0, v1, v2, v3, v4, v5, v6, v7, _⟩ := HX5.out.facts8
  clear hb5 ho5
  go_wp2_with fail
  refine (H3.out _ _ _ _ _ HS5.out HT5.out).mono ?_
  rintro e w6 ⟨rfl, hb6⟩
  have HB := Lib.hid (HB6.out.trans (hb6.mono HB6.out.size))
  clear hb6
  go_wp2_with ((go_at_call 50; refine (awake3_calls _).mono ?_; rintro e wn ⟨rfl, hbn⟩; have HBn := Lib.hid (HB.out.trans (hbn.mono HB.out.size)); clear HB hbn; have HB := HBn; clear HBn))
  go_ret
  exact ⟨rfl, HB.out⟩
end Go.Proofs.Ytfgpchffkpomoaa
