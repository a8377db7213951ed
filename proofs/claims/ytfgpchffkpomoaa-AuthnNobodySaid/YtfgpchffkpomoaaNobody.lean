/- A book that nobody made makes nothing, takes nothing, and does not fail: the walk. -/
import Derived.Test.YtfgpchffkpomoaaNoBook
import Derived.Test.YtfgpchffkpomoaaAwake3
namespace Go.Proofs.Ytfgpchffkpomoaa
set_option linter.unusedSimpArgs false
set_option linter.unusedVariables false
open Go.RowKit

set_option maxHeartbeats 2000000 in
set_option maxRecDepth 100000 in
theorem authnNobody_calls (who : Int) (s : ByteArray) (x : Bd) (A : Option Addr) (c : Nat) (w : World) : Calls Try.prog 18 #[.int .i64 who, .string s, x.val A c] w (BoolPost true w) := by
  have HQ := Lib.hid (fun v A c w h hs => quorum_no v s A c w h hs)
  have HY := Lib.hid (fun v w h => seal_no v who x A c w h)
  have HO := Lib.hid (fun v w h => open_no v zeroSg w h)
  obtain ⟨kind, view, seq, client, stamp, digest, tx, list⟩ := x
  unfold zeroSg zeroBd at HO
  unfold zeroSg at HY
  unfold Sg.val at *
  unfold Bd.val Bd.cells at *
  simp only at *
  obtain ⟨W, hW⟩ : ∃ W, W = (w.alloc (.cells #[.int .i64 kind, .int .i64 view, .int .i64 seq, .int .i64 client, .int .i64 stamp, .string digest, .string tx, .slice A list.length c] 59)).alloc (.cells #[.nilIface] 97) := ⟨_, rfl⟩
  have HA := Lib.hid (show Below w.heap.size w W by rw [hW]; exact ((Below.refl _ _).alloc (Nat.le_refl _) _).alloc (by simp) _)
  have HX := Lib.hid (show Box W (w.heap.size + 1) #[.nilIface] 97 by rw [hW]; have h := Box.new (w.alloc (.cells #[.int .i64 kind, .int .i64 view, .int .i64 seq, .int .i64 client, .int .i64 stamp, .string digest, .string tx, .slice A list.length c] 59)) #[.nilIface] 97; simp only [World.size_alloc] at h; exact h)
  have HZ := Lib.hid (fun (w' : World) (hx : Box w' (w.heap.size + 1) #[.nilIface] 97) => (show NoBk w' (.pointer (some ⟨w.heap.size + 1, 0, none⟩)) from .inr ⟨_, rfl, hx.cell 0⟩))
  have HN := Lib.hid (fun (w' : World) => (show NoBk w' (.pointer none) from .inl rfl))
  have hb8 := ((Box.new w #[.int .i64 kind, .int .i64 view, .int .i64 seq, .int .i64 client, .int .i64 stamp, .string digest, .string tx, .slice A list.length c] 59).alloc (.cells #[.nilIface] 97))
  rw [← hW] at hb8
  obtain ⟨q0, q1, q2, q3, q4, q5, q6, q7, _⟩ := hb8.facts8
  have HWW := Lib.hid hW
  clear hW hb8
  go_enter Try.func18, Try.ntmps18
  go_wp2_with fail
  rw [← HWW.out]
  refine (sign_no _ who s _ (HN.out _)).mono ?_
  rintro e w1 ⟨rfl, rfl⟩
  go_wp2_with fail
  refine (sign_no _ who s _ (HZ.out _ HX.out)).mono ?_
  rintro e w1 ⟨rfl, rfl⟩
  go_wp2_with fail
  refine (HY.out _ _ (HN.out _)).mono ?_
  rintro e w2 ⟨rfl, hb2⟩
  have HB2 := Lib.hid (HA.out.trans (hb2.mono HA.out.size))
  have HX2 := Lib.hid (HX.out.call hb2)
  clear hb2 q0 q1 q2 q3 q4 q5 q6 q7
  have HX3 := Lib.hid (HX2.out.alloc (.cells #[.int .i64 0, .string ⟨#[]⟩, .string ⟨#[]⟩] 61))
  have HB3 := Lib.hid (HB2.out.alloc HB2.out.size (.cells #[.int .i64 0, .string ⟨#[]⟩, .string ⟨#[]⟩] 61))
  go_wp2_with fail
  refine (HO.out _ _ (HZ.out _ HX3.out)).mono ?_
  rintro e w4 ⟨rfl, hb4⟩
  have HB4 := Lib.hid ((HB3.out.trans (hb4.mono HB3.out.size)).alloc (HB3.out.trans (hb4.mono HB3.out.size)).size (.cells #[.int .i64 0, .int .i64 0, .int .i64 0, .int .i64 0, .int .i64 0, .string ⟨#[]⟩, .string ⟨#[]⟩, .slice none 0 0] 59))
  have HX4 := Lib.hid ((HX3.out.call hb4).alloc (.cells #[.int .i64 0, .int .i64 0, .int .i64 0, .int .i64 0, .int .i64 0, .string ⟨#[]⟩, .string ⟨#[]⟩, .slice none 0 0] 59))
  clear hb4
  obtain ⟨W5, hW5⟩ : ∃ W, W = (w4.alloc (.cells #[.int .i64 0, .int .i64 0, .int .i64 0, .int .i64 0, .int .i64 0, .string ⟨#[]⟩, .string ⟨#[]⟩, .slice none 0 0] 59)) := ⟨_, rfl⟩
  rw [← hW5] at HB4 HX4
  go_wp2_with fail
  rw [← hW5]
  clear hW5
  refine (digest_no _ s _ (HN.out _)).mono ?_
  rintro e w1 ⟨rfl, rfl⟩
  go_wp2_with fail
  refine (digest_no _ s _ (HZ.out _ HX4.out)).mono ?_
  rintro e w1 ⟨rfl, rfl⟩
  go_wp2_with fail
  refine (check_no _ who s ⟨#[]⟩ _ (HN.out _)).mono ?_
  rintro e w1 ⟨rfl, rfl⟩
  go_wp2_with fail
  refine (check_no _ who s ⟨#[]⟩ _ (HZ.out _ HX4.out)).mono ?_
  rintro e w1 ⟨rfl, rfl⟩
  go_wp2_with fail
  refine (issued_no _ who s _ (HN.out _)).mono ?_
  rintro e w1 ⟨rfl, rfl⟩
  have HX6 := Lib.hid (HX4.out.alloc (.cells #[.int .i64 0, .string ⟨#[]⟩, .string ⟨#[]⟩] 61))
  have HB6 := Lib.hid (HB4.out.alloc HB4.out.size (.cells #[.int .i64 0, .string ⟨#[]⟩, .string ⟨#[]⟩] 61))
  have HS6 := Lib.hid (show SgS (W5.alloc (.cells #[.int .i64 0, .string ⟨#[]⟩, .string ⟨#[]⟩] 61)) (some ⟨W5.heap.size, 0, none⟩) 1 [zeroSg] from Sl.of_box (Box.new W5 _ _) rfl rfl (by decide))
  go_wp2_with fail
  refine (HQ.out _ _ 1 _ (HZ.out _ HX6.out) HS6.out).mono ?_
  rintro e w7 ⟨rfl, hb7⟩
  have HB := Lib.hid (HB6.out.trans (hb7.mono HB6.out.size))
  clear hb7
  go_wp2_with ((go_at_call 50; refine (awake3_calls _).mono ?_; rintro e wn ⟨rfl, hbn⟩; have HBn := Lib.hid (HB.out.trans (hbn.mono HB.out.size)); clear HB hbn; have HB := HBn; clear HBn))
  go_ret
  exact ⟨rfl, HB.out⟩
end Go.Proofs.Ytfgpchffkpomoaa
