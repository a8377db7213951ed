/- A proof that goes over as bytes tells what there is: the walks. -/
import Derived.Test.YtfgpchffkpomoaaCarry
namespace Go.Proofs.Ytfgpchffkpomoaa
set_option linter.unusedSimpArgs false
set_option linter.unusedVariables false
open Go.RowKit

set_option maxRecDepth 100000 in
theorem around256_calls (k : Int) (w : World) (h0 : -9223372036854775808 ≤ k) (h1 : k ≤ 9223372036854775807) : Calls Try.prog 95 #[.int .i64 k, .int .i64 256] w fun e w' => ∃ r : Int, e = .returned (.int .i64 r) ∧ 0 ≤ r ∧ r ≤ 255 ∧ w' = w := by
  have hlo := Int.lt_tmod_of_pos k (show (0 : Int) < 256 by decide)
  have hhi := Int.tmod_lt_of_pos k (show (0 : Int) < 256 by decide)
  obtain ⟨r, hr⟩ : ∃ r, r = Int.tmod k 256 := ⟨_, rfl⟩
  rw [← hr] at hlo hhi
  have HR := Lib.hid hr
  have hw : IntKind.i64.wrap (Int.tmod k 256) = r := by rw [← hr]; exact wrap_small2 _ (by omega) (by omega)
  by_cases hn : r < 0
  · have hd : decide (r < 0) = true := decide_eq_true hn
    have hw2 : IntKind.i64.wrap (0 - r) = 0 - r := wrap_small2 _ (by omega) (by omega)
    have hw3 : IntKind.i64.wrap (-r) = -r := wrap_small2 _ (by omega) (by omega)
    go_enter Try.func95, Try.ntmps95
    go_wp2_with fail
    go_ret
    exact ⟨-(Int.tmod k 256), rfl, by rw [← HR.out]; omega, by rw [← HR.out]; omega, rfl⟩
  · have hd : decide (r < 0) = false := decide_eq_false hn
    go_enter Try.func95, Try.ntmps95
    go_wp2_with fail
    go_ret
    exact ⟨Int.tmod k 256, rfl, by rw [← HR.out]; omega, by rw [← HR.out]; omega, rfl⟩
def exW : List Rc := [⟨⟨#[97]⟩, ⟨#[49]⟩⟩]
theorem exW_rise : riseE exW = 0 := by
  have h0 : codeAt exW 0 = 0 := codeAt_first (by decide) (by decide)
  unfold riseE
  rw [if_neg (show ¬ 4096 < exW.length by decide)]
  exact riseN_next rfl h0
theorem exW_place : placeP exW ⟨#[97]⟩ = 0 := by
  refine plc_eq (by decide) (fun k x hk hx => by omega) (fun x hx => ?_)
  obtain rfl : _ = x := by simpa [exW] using hx
  exact lsB_irrefl _
theorem exW_shown : shownP exW ⟨#[97]⟩ = [0] := by
  have hi : isP exW ⟨#[97]⟩ = true := by
    unfold isP
    rw [exW_place]
    rfl
  unfold shownP
  rw [hi, exW_place]
  rfl
theorem exW_proof (h : ByteArray → ByteArray) : proofP h exW ⟨#[97]⟩ = [⟨0, ⟨#[97]⟩, ⟨#[49]⟩, sidesP h (leavesH h exW) 0⟩] := by
  unfold proofP
  rw [exW_shown]
  rfl
theorem exW_a {T : List ByteArray} : verifyP (hh T) (rootP (hh T) exW) ⟨#[97]⟩ 1 (proofP (hh T) exW ⟨#[97]⟩) = (⟨#[49]⟩, true, 0) := by
  have hv : verifyP (hh T) (rootP (hh T) exW) ⟨#[97]⟩ 1 (proofP (hh T) exW ⟨#[97]⟩) = shownE (hh T) (rootP (hh T) exW) ⟨#[97]⟩ 1 (proofP (hh T) exW ⟨#[97]⟩) := by
    refine ver_shown (by decide) ?_ ?_
    · exact (verify_honest (T := T) exW_rise (key := ⟨#[97]⟩) (by decide)).1
    · intro x hx
      unfold proofP at hx
      obtain ⟨i, hi, rfl⟩ := List.mem_map.1 hx
      exact led_honest (shown_lt hi)
  rw [hv, exW_proof]
  unfold shownE
  dsimp only
  rw [if_pos rfl]
theorem own_off {w : World} {base n : Nat} {e : TypeId} {size : Nat} {A : Option Addr} {c m : Nat} {xs : List Value} (h : w.ownsRow base e size (.slice A n c) n xs) (hm : m < base) : Off A n m := fun _ k hk => by have := (own_row h hk).1; omega

set_option maxHeartbeats 4000000 in
set_option maxRecDepth 100000 in
theorem works_calls (w : World) : Calls Try.prog 93 #[] w (AwakePost w) := by
  have HN := Lib.hid (newBook_calls w)
  go_enter Try.func93, Try.ntmps93
  go_wp2_with fail
  refine HN.out.mono ?_
  rintro e w1 ⟨b, t, m, n, rfl, hb1, hk1, hb, ht, hm, hn⟩
  have hz1 := hb1.size
  have hlt1 := hk1.all_lt
  have HB1 := Lib.hid hb1
  have hbx := Box.new w1 #[.string ⟨#[97]⟩, .string ⟨#[49]⟩] 131
  have hrs : RcS (w1.alloc (.cells #[.string ⟨#[97]⟩, .string ⟨#[49]⟩] 131)) (some ⟨w1.heap.size, 0, none⟩) 1 exW := ⟨rfl, by decide, fun j u hj => ⟨_, rfl, news_box hbx j u hj⟩⟩
  have hrow : Off (some ⟨w1.heap.size, 0, none⟩) exW.length m := fun _ k hk => by
    obtain rfl : w1.heap.size = k := by simpa [Row] using hk
    omega
  have HROW := Lib.hid hrow
  have HRS := Lib.hid hrs
  have HK1 := Lib.hid (hk1.alloc (.cells #[.string ⟨#[97]⟩, .string ⟨#[49]⟩] 131))
  have HRT := Lib.hid (mRoot_calls b t m n [] [] _ 1 exW _ HK1.out (by decide) hrs hrow)
  clear hbx hrs hrow hb1 hk1
  go_wp2_with fail
  refine HRT.out.mono ?_
  rintro e w2 ⟨T2, x2, rfl, hx2, e2, l2, ch2, k2⟩
  rw [exW_rise]
  obtain ⟨hx2a, hx2b⟩ := hx2.out.1 exW_rise
  have hx8 : x2.size = 8 := by rw [hx2a]; exact hh_size _ _
  have HXA := Lib.hid hx2a
  have HXB := Lib.hid hx2b
  have HRS2 := Lib.hid (HRS.out.off ch2 HROW.out)
  have HC2 := Lib.hid (((Ch.of_below (S := fun _ => False) HB1.out).alloc hz1 (.cells #[.string ⟨#[97]⟩, .string ⟨#[49]⟩] 131)).step ch2 (by simp; omega) (fun i hi e => by omega))
  have hz2 := HC2.out.size
  have hm2 := k2.all_lt
  have HPV := Lib.hid (mProve_calls b t m n T2 [] _ 1 exW ⟨#[97]⟩ w2 k2 (by simp at l2; omega) HRS2.out HROW.out)
  clear hx2 hx2a hx2b ch2 k2
  go_wp2_with fail
  refine HPV.out.mono ?_
  rintro e w3 ⟨T3, A3, c3, ps, cnt, cd, rfl, hpv, e3, l3, ch3, k3, p3, r3⟩
  obtain ⟨rfl, rfl, hps, hli3, hsi3⟩ := hpv.out.1 exW_rise (by decide)
  have hz3 := ch3.size
  have HC3 := Lib.hid (HC2.out.step ch3 hz2 (fun i hi e => by omega))
  have hpk : pfOk ((exW.length : Nat) : Int) (ps.map Pm.pt) = true := by rw [hps]; exact (verify_honest (T := T3) exW_rise (key := ⟨#[97]⟩) (by decide)).1
  have HPX := Lib.hid (fun T' (he : Ext T3 T') => (hps.trans (proof_ext he hli3 hsi3).symm : ps.map Pm.pt = proofP (hh T') exW ⟨#[97]⟩))
  have HRX := Lib.hid (fun T' (he : Ext T3 T') => (HXA.out.trans (HXB.out.ext (e3.trans he)).2.symm : x2 = rootP (hh T') exW))
  have hal := (Below.refl w3.heap.size w3).alloc (Nat.le_refl _) (.cells #[.int .i64 1, .slice A3 ps.length c3] 35)
  have HBX3 := Lib.hid (Box.new w3 #[.int .i64 1, .slice A3 ps.length c3] 35)
  have HK3 := Lib.hid (k3.alloc (.cells #[.int .i64 1, .slice A3 ps.length c3] 35))
  have HCR := Lib.hid (carried_calls b t m n T3 2 x2 1 A3 c3 ps _ HK3.out ⟨by decide, by decide⟩ hx8 (p3.below hal) hpk (fun _ k hk => by have := r3.1 k hk; omega) (fun x hx _ k hk => by have := r3.2.1 x hx k hk; omega))
  have hlen : (((exW.length : Nat) : Int)) = 1 := rfl
  have hpfit := p3.1.fits
  have HC3' := Lib.hid (HC3.out.alloc (by omega) (.cells #[.int .i64 1, .slice A3 ps.length c3] 35))
  clear hpv hps hli3 hsi3 e3 ch3 k3 p3 r3 hal hpk
  obtain ⟨x0, x1, y0, y1⟩ := HBX3.out.facts2
  go_wp2_with fail
  refine HCR.out.mono ?_
  rintro e w4 ⟨B, bc, ms, S', rfl, hms, ch4, k4, po⟩
  have hz4 : w3.heap.size + 1 ≤ w4.heap.size := by have := ch4.size; simpa using this
  have hmp : ms.length = ps.length := by have := congrArg List.length hms; simpa using this
  have HC4 := Lib.hid ((HC3'.out.step ch4 (by simp; omega) (fun i hi e => by omega)).alloc (by omega) (.cells #[.int .i64 1, .slice B ms.length bc] 35))
  have hal := (Below.refl w4.heap.size w4).alloc (Nat.le_refl _) (.cells #[.int .i64 1, .slice B ms.length bc] 35)
  have HBX4 := Lib.hid (Box.new w4 #[.int .i64 1, .slice B ms.length bc] 35)
  have HV := Lib.hid (mVerify_calls b t m n T3 S' x2 ⟨#[97]⟩ 1 B bc ms _ (k4.alloc (.cells #[.int .i64 1, .slice B ms.length bc] 35)) (by simp at l2; omega) (po.pm.below hal) (fun x hx => own_cap (po.sides x hx)) (own_off po.row (by simp; omega)) (fun x hx => own_off (po.sides x hx) (by simp; omega)))
  have HMS := Lib.hid hms
  have hmf := po.pm.1.fits
  clear ch4 k4 po hal hms hmp x0 x1 y0 y1
  obtain ⟨x0, x1, y0, y1⟩ := HBX4.out.facts2
  go_wp2_with fail
  refine HV.out.mono ?_
  rintro e w5 ⟨T5, v, has, cd, rfl, hv, _, e5, l5, ch5, k5⟩
  have hv1 : (v, has, cd) = (⟨#[49]⟩, true, 0) := by rw [hv.out, HMS.out, HPX.out T5 e5, HRX.out T5 e5]; exact exW_a
  obtain ⟨rfl, h2⟩ := Prod.mk.inj hv1
  obtain ⟨rfl, rfl⟩ := Prod.mk.inj h2
  have HC5 := Lib.hid (HC4.out.step ch5 HC4.out.size (fun i hi e => by omega))
  clear hv hv1 h2 ch5 k5 e5
  go_wp2
  go_ret
  exact ⟨rfl, HC5.out.below (fun _ _ e => e)⟩
end Go.Proofs.Ytfgpchffkpomoaa
