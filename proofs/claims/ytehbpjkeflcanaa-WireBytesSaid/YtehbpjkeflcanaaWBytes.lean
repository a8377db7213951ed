/- A body's bytes: both sides say the same, and the body stays as it was: the walk. -/
import Derived.Test.YtehbpjkeflcanaaCopied
import Derived.Test.YtehbpjkeflcanaaReads
namespace Go.Proofs.Ytehbpjkeflcanaa
set_option linter.unusedSimpArgs false
set_option linter.unusedVariables false
open Go.RowKit

set_option maxRecDepth 100000 in
theorem wireBytes_calls (b : Bd) (A : Option Addr) (c : Nat) (w : World) (hs : SgS w A c b.list) (hl : b.list.length * 40 ≤ 140737488351232) : Calls Try.prog 4 #[b.val A c] w (BoolPost true w) := by
  have hfit := hs.fits
  have HS := Lib.hid hs
  have H0 := Lib.hid (fun w hs => copied_calls A c b.list w hs hl)
  have H1 := Lib.hid (body_calls b)
  have H2 := Lib.hid (rbytes_calls b)
  have H3 := Lib.hid (fun A B p q w hs ht => same_calls b b A B p q w hs ht)
  rw [sameBd_refl] at H3
  obtain ⟨r, hr⟩ : ∃ r, r = bytesE b := ⟨_, rfl⟩
  unfold StrErr at H1 H2
  rw [← hr] at H1 H2
  clear hr hs
  obtain ⟨str, x⟩ := r
  obtain ⟨kind, view, seq, client, stamp, digest, tx, list⟩ := b
  unfold Bd.val Bd.cells at *
  simp only at *
  go_enter Try.func4, Try.ntmps4
  have HW := Lib.hid (((Below.refl w.heap.size w).alloc (Nat.le_refl _) (.cells #[.int .i64 kind, .int .i64 view, .int .i64 seq, .int .i64 client, .int .i64 stamp, .string digest, .string tx, .slice A list.length c] 24)).alloc (by simp) (.cells #[.int .i64 kind, .int .i64 view, .int .i64 seq, .int .i64 client, .int .i64 stamp, .string digest, .string tx, .slice A list.length c] 24))
  go_wp2_with fail
  refine (H0.out _ (HS.out.below HW.out)).mono ?_
  rintro e w1 ⟨A', c', rfl, hb1, ho1⟩
  have HX := Lib.hid (((Box.new w #[.int .i64 kind, .int .i64 view, .int .i64 seq, .int .i64 client, .int .i64 stamp, .string digest, .string tx, .slice A list.length c] 24).alloc _).call hb1)
  have hy := (Box.new (w.alloc (.cells #[.int .i64 kind, .int .i64 view, .int .i64 seq, .int .i64 client, .int .i64 stamp, .string digest, .string tx, .slice A list.length c] 24)) #[.int .i64 kind, .int .i64 view, .int .i64 seq, .int .i64 client, .int .i64 stamp, .string digest, .string tx, .slice A list.length c] 24).call hb1
  simp only [World.size_alloc] at hy
  have HO := Lib.hid (own_base ho1 (show w.heap.size + 2 ≤ _ by simp))
  have HB1 := Lib.hid (HW.out.trans (hb1.mono HW.out.size))
  have HY := Lib.hid hy
  obtain ⟨_, _, _, _, _, _, _, y7, _, _, _, _, _, _, _, f7⟩ := hy.facts8
  clear hb1 ho1 hy HW
  have hy2 := HY.out.set 7 (.slice A' list.length c')
  have HY2 := Lib.hid (show Box (w1.setCell ⟨w.heap.size + 1, 7, none⟩ (.slice A' list.length c')) (w.heap.size + 1) #[.int .i64 kind, .int .i64 view, .int .i64 seq, .int .i64 client, .int .i64 stamp, .string digest, .string tx, .slice A' list.length c'] 24 by simpa using hy2)
  have HX2 := Lib.hid (HX.out.other (a := ⟨w.heap.size + 1, 7, none⟩) (by simp) (.slice A' list.length c'))
  have HB2 := Lib.hid (HB1.out.setCell (p := ⟨w.heap.size + 1, 7, none⟩) (by simp) (.slice A' list.length c'))
  have HO2 := Lib.hid (own_ch HO.out ((Ch.refl w1.heap.size (· = w.heap.size + 1) w1).setCell (p := ⟨w.heap.size + 1, 7, none⟩) (.inr rfl) (.slice A' list.length c')) (fun k hk => ⟨(own_row HO.out hk).2, by have := (own_row HO.out hk).1; omega⟩))
  clear hy2
  obtain ⟨W2, hW2⟩ : ∃ W2, W2 = w1.setCell ⟨w.heap.size + 1, 7, none⟩ (.slice A' list.length c') := ⟨_, rfl⟩
  rw [← hW2] at HY2 HX2 HB2 HO2
  have HWW := Lib.hid hW2
  obtain ⟨p0, p1, p2, p3, p4, p5, p6, p7⟩ := boxS HY2.out
  clear hW2
  go_wp2_with fail
  rw [← HWW.out]
  refine (H1.out A' c' _ (Sl.of_own HO2.out)).mono ?_
  rintro e w6 ⟨rfl, hb⟩
  have HX6 := Lib.hid (HX2.out.call hb)
  have HY6 := Lib.hid (HY2.out.call hb)
  have HB6 := Lib.hid (HB2.out.trans (hb.mono HB2.out.size))
  have HO6 := Lib.hid (own_ch HO2.out (Ch.of_below (S := fun _ => False) hb) (fun k hk => ⟨(own_row HO2.out hk).2, fun h => h⟩))
  clear HX2 HY2 HB2 HO2 hb
  have HX2 := HX6
  have HY2 := HY6
  have HB2 := HB6
  have HO2 := HO6
  clear HX6 HY6 HB6 HO6
  obtain ⟨p0, p1, p2, p3, p4, p5, p6, p7⟩ := boxS HX2.out
  obtain ⟨q0, q1, q2, q3, q4, q5, q6, q7⟩ := boxS HY2.out
  go_wp2_with fail
  refine (H2.out A c _ (HS.out.below HB2.out)).mono ?_
  rintro e w3 ⟨rfl, hb⟩
  have HX3 := Lib.hid (HX2.out.call hb)
  have HY3 := Lib.hid (HY2.out.call hb)
  have HB3 := Lib.hid (HB2.out.trans (hb.mono HB2.out.size))
  have HO3 := Lib.hid (own_ch HO2.out (Ch.of_below (S := fun _ => False) hb) (fun k hk => ⟨(own_row HO2.out hk).2, fun h => h⟩))
  clear HX2 HY2 HB2 HO2 hb
  have HX2 := HX3
  have HY2 := HY3
  have HB2 := HB3
  have HO2 := HO3
  clear HX3 HY3 HB3 HO3
  obtain ⟨p0, p1, p2, p3, p4, p5, p6, p7⟩ := boxS HX2.out
  obtain ⟨q0, q1, q2, q3, q4, q5, q6, q7⟩ := boxS HY2.out
  go_wp2_with fail
  refine (H3.out A' A c' c _ (Sl.of_own HO2.out) (HS.out.below HB2.out)).mono ?_
  rintro e w4 ⟨rfl, hb⟩
  have HX4 := Lib.hid (HX2.out.call hb)
  have HY4 := Lib.hid (HY2.out.call hb)
  have HB4 := Lib.hid (HB2.out.trans (hb.mono HB2.out.size))
  have HO4 := Lib.hid (own_ch HO2.out (Ch.of_below (S := fun _ => False) hb) (fun k hk => ⟨(own_row HO2.out hk).2, fun h => h⟩))
  clear HX2 HY2 HB2 HO2 hb
  have HX2 := HX4
  have HY2 := HY4
  have HB2 := HB4
  have HO2 := HO4
  clear HX4 HY4 HB4 HO4
  obtain ⟨p0, p1, p2, p3, p4, p5, p6, p7⟩ := boxS HX2.out
  obtain ⟨q0, q1, q2, q3, q4, q5, q6, q7⟩ := boxS HY2.out
  go_wp2_with fail
  refine (awake_calls _).mono ?_
  rintro e w5 ⟨rfl, hb⟩
  have HX5 := Lib.hid (HX2.out.call hb)
  have HY5 := Lib.hid (HY2.out.call hb)
  have HB5 := Lib.hid (HB2.out.trans (hb.mono HB2.out.size))
  have HO5 := Lib.hid (own_ch HO2.out (Ch.of_below (S := fun _ => False) hb) (fun k hk => ⟨(own_row HO2.out hk).2, fun h => h⟩))
  clear HX2 HY2 HB2 HO2 hb
  have HX2 := HX5
  have HY2 := HY5
  have HB2 := HB5
  have HO2 := HO5
  clear HX5 HY5 HB5 HO5
  obtain ⟨p0, p1, p2, p3, p4, p5, p6, p7⟩ := boxS HX2.out
  obtain ⟨q0, q1, q2, q3, q4, q5, q6, q7⟩ := boxS HY2.out
  go_wp2_with fail
  go_ret
  exact ⟨rfl, HB2.out⟩
end Go.Proofs.Ytehbpjkeflcanaa
