/- Two bodies have the same bytes just if they are the same: the walk. -/
import Derived.Test.YtehbpjkeflcanaaCanon
namespace Go.Proofs.Ytehbpjkeflcanaa
set_option linter.unusedSimpArgs false
set_option linter.unusedVariables false
open Go.RowKit

theorem apart_eq {a b : Bd} {s t : ByteArray} (ha : bytesE a = (s, 0)) (hb : bytesE b = (t, 0)) : (s.toList == t.toList) = sameBd a b := by
  have h1 := (of_bytes ha).1
  have h2 := (of_bytes hb).1
  by_cases h : a = b
  · subst h
    rw [ha] at hb
    simp only [Prod.mk.injEq, and_true] at hb
    subst hb
    rw [sameBd_refl, beq_self_eq_true]
  · rw [sameBd_no h]
    refine toList_ne ?_
    rintro rfl
    rw [h1] at h2
    exact h (by simpa using h2)

set_option maxRecDepth 100000 in
theorem wireApart_calls (a b : Bd) (A B : Option Addr) (p q : Nat) (w : World) (hs : SgS w A p a.list) (ht : SgS w B q b.list) : Calls Try.prog 8 #[a.val A p, b.val B q] w (BoolPost true w) := by
  have hb0 : Below w.heap.size w ((w.alloc (.cells (a.cells A p) 24)).alloc (.cells (b.cells B q) 24)) := ((Below.refl _ _).alloc (Nat.le_refl _) _).alloc (by simp) _
  have HB := Lib.hid hb0
  have HX := Lib.hid ((Box.new w (a.cells A p) 24).alloc (.cells (b.cells B q) 24))
  have hy := Box.new (w.alloc (.cells (a.cells A p) 24)) (b.cells B q) 24
  simp only [World.size_alloc] at hy
  have HY := Lib.hid hy
  clear hy
  have HS := Lib.hid hs
  have HT := Lib.hid ht
  have H1 := Lib.hid (body_calls a)
  have H2 := Lib.hid (body_calls b)
  have H3 := Lib.hid (fun w hs ht => same_calls a b A B p q w hs ht)
  unfold StrErr at H1 H2
  obtain ⟨⟨s, x⟩, ha⟩ : ∃ r, bytesE a = r := ⟨_, rfl⟩
  obtain ⟨⟨t, y⟩, hb⟩ : ∃ r, bytesE b = r := ⟨_, rfl⟩
  rw [ha] at H1
  rw [hb] at H2
  have HA := Lib.hid ha
  have HBB := Lib.hid hb
  obtain ⟨m, hm⟩ : ∃ m, m = sameBd a b := ⟨_, rfl⟩
  rw [← hm] at H3
  have HM := Lib.hid hm
  clear ha hb hm hs ht hb0
  have HEQ := Lib.hid (fun (hx : x = 0) (hy : y = 0) => (apart_eq (by rw [HA.out, hx]) (by rw [HBB.out, hy]) : (s.toList == t.toList) = sameBd a b).trans HM.out.symm)
  clear HA HBB HM
  obtain ⟨akind, aview, aseq, aclient, astamp, adigest, atx, alist⟩ := a
  obtain ⟨kind, view, seq, client, stamp, digest, tx, list⟩ := b
  unfold Bd.val Bd.cells at *
  simp only at *
  obtain ⟨W, hW⟩ : ∃ W, W = (w.alloc (.cells #[.int .i64 akind, .int .i64 aview, .int .i64 aseq, .int .i64 aclient, .int .i64 astamp, .string adigest, .string atx, .slice A alist.length p] 24)).alloc (.cells #[.int .i64 kind, .int .i64 view, .int .i64 seq, .int .i64 client, .int .i64 stamp, .string digest, .string tx, .slice B list.length q] 24) := ⟨_, rfl⟩
  rw [← hW] at HB HX HY
  have HWW := Lib.hid hW
  clear hW
  go_enter Try.func8, Try.ntmps8
  go_wp2_with fail
  rw [← HWW.out]
  refine (H1.out A p _ (HS.out.below HB.out)).mono ?_
  rintro e w1 ⟨rfl, hb1⟩
  have HX1 := Lib.hid (HX.out.call hb1)
  have HY1 := Lib.hid (HY.out.call hb1)
  have HB1 := Lib.hid (HB.out.trans (hb1.mono HB.out.size))
  clear hb1 HX HY HB
  obtain ⟨r0, r1, r2, r3, r4, r5, r6, r7⟩ := boxS HY1.out
  go_wp2_with fail
  refine (H2.out B q _ (HT.out.below HB1.out)).mono ?_
  rintro e w2 ⟨rfl, hb2⟩
  have HX2 := Lib.hid (HX1.out.call hb2)
  have HY2 := Lib.hid (HY1.out.call hb2)
  have HB := Lib.hid (HB1.out.trans (hb2.mono HB1.out.size))
  clear hb2 HX1 HY1 HB1
  obtain ⟨e0, e1, e2, e3, e4, e5, e6, e7⟩ := boxS HX2.out
  obtain ⟨g0, g1, g2, g3, g4, g5, g6, g7⟩ := boxS HY2.out
  by_cases hx : x = 0
  · by_cases hy : y = 0
    · have hd := HEQ.out hx hy
      subst hx
      subst hy
      go_wp2_with (first | (go_at_call 22; refine (H3.out _ (HS.out.below HB.out) (HT.out.below HB.out)).mono ?_; rintro e wn ⟨rfl, hbn⟩; have HBn := Lib.hid (HB.out.trans (hbn.mono HB.out.size)); clear HB hbn; have HB := HBn; clear HBn) | (go_at_call 18; refine (awake_calls _).mono ?_; rintro e wn ⟨rfl, hbn⟩; have HBn := Lib.hid (HB.out.trans (hbn.mono HB.out.size)); clear HB hbn; have HB := HBn; clear HBn))
      go_ret
      exact ⟨rfl, HB.out⟩
    · have hd1 : (y == 0) = false := by simpa using hy
      subst hx
      clear hy HEQ
      go_wp2_with (first | (go_at_call 18; refine (awake_calls _).mono ?_; rintro e wn ⟨rfl, hbn⟩; have HBn := Lib.hid (HB.out.trans (hbn.mono HB.out.size)); clear HB hbn; have HB := HBn; clear HBn))
      go_ret
      exact ⟨rfl, HB.out⟩
  · have hd1 : (x == 0) = false := by simpa using hx
    clear hx HEQ
    go_wp2_with (first | (go_at_call 18; refine (awake_calls _).mono ?_; rintro e wn ⟨rfl, hbn⟩; have HBn := Lib.hid (HB.out.trans (hbn.mono HB.out.size)); clear HB hbn; have HB := HBn; clear HBn))
    go_ret
    exact ⟨rfl, HB.out⟩
end Go.Proofs.Ytehbpjkeflcanaa
