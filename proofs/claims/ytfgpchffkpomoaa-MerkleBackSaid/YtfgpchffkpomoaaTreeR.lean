/- A value is laid at a key that the tree had not: the walk through Put. -/
import Derived.Test.YtfgpchffkpomoaaTreeP
namespace Go.Proofs.Ytfgpchffkpomoaa
set_option linter.unusedSimpArgs false
set_option linter.unusedVariables false
open Go.RowKit

set_option maxHeartbeats 4000000 in
set_option maxRecDepth 100000 in
theorem tPut_new (q b t m n : Nat) (T : List ByteArray) (S : List Wd) (l : List Rc) (A : Option Addr) (c : Nat) (D : Option Addr) (d : Nat) (key val : ByteArray) (w : World) (h : TrS w q b t m n T S l A c D d) (hT : T.length ≤ 50000000) (hl : l.length ≤ 1000) (hr : Rising l) (hyes : okP key val = true) (hiq : isP l key = false) :
    Calls Try.prog 80 #[.pointer (some ⟨q, 0, none⟩), .string key, .string val] w (PutPost w q b t m n T S (putD l key val) A D 0) := by
  have hfk : fitK key = true := by unfold okP at hyes; simp only [Bool.and_eq_true] at hyes; exact hyes.1
  have hvs : val.size ≤ 4096 := by unfold okP at hyes; simp only [Bool.and_eq_true, decide_eq_true_eq] at hyes; exact hyes.2
  have hks : key.size ≤ 64 := by unfold fitK at hfk; have := of_decide_eq_true hfk; omega
  have hv : decide ((4096 : Int) < (val.size : Int)) = false := by simp; omega
  have hl4 : ((l.length : Int) == 4096) = false := by rw [beq_eq_false_iff_ne]; omega
  have HM := Lib.hid (tmade_calls q b A l.length c D l.length d w h.box)
  have HF := Lib.hid (fun w => mfits_calls key w)
  rw [hfk] at HF
  have hA := (Below.refl w.heap.size w).alloc (Nat.le_refl _) (.cells #[.string key, .string val] 131)
  have h1 := h.below hA
  have HP := Lib.hid (tplace_calls q b A c D l.length d l key _ h1.box h1.rcs hr (by omega))
  unfold PlacePost at HP
  have HX := Lib.hid (Box.new w #[.string key, .string val] 131)
  have HBA := Lib.hid hA
  have H1 := Lib.hid h1
  have hpl := plc_le l key
  have HPUT := Lib.hid (putT_eq hr key val)
  obtain ⟨p, hp⟩ : ∃ p, p = placeP l key := ⟨_, rfl⟩
  unfold putT at HPUT
  rw [← hp] at HP hpl HPUT
  have HIS := Lib.hid (show isP l key = true → p < l.length by rw [hp]; intro h; exact (is_split h).choose_spec.2.2)
  rw [hiq] at HP HIS HPUT
  have hqA : q < w.heap.size := h.ql
  have HRA := Lib.hid (show ¬ Row A w.heap.size from fun e => by have := (own_row h.recs e).2; omega)
  have HRD := Lib.hid (show ¬ Row D w.heap.size from fun e => by have := (own_row h.digs e).2; omega)
  have hlt := h.lt
  obtain ⟨kn1, kn2, kn3⟩ := dig_known T (leafT ⟨key, val⟩)
  have kl := digT_len T (leafT ⟨key, val⟩)
  have HLF := Lib.hid (fun w hb => leaf_calls b t m n T S ⟨key, val⟩ w hb (by omega) (by simp only [maxLen]; omega) (by simp only [maxLen]; omega))
  obtain ⟨⟨dg, T1⟩, hq⟩ : ∃ Q, Q = digS T (leafT ⟨key, val⟩) := ⟨_, rfl⟩
  rw [← hq] at kn1 kn2 kn3 kl HLF
  simp only at kn1 kn2 kn3 kl HLF
  have KN1 := Lib.hid kn1
  have KN2 := Lib.hid kn2
  have KN3 := Lib.hid kn3
  clear h h1 hA hp hiq hr hq kn1 kn2 kn3 hyes hfk
  go_enter Try.func80, Try.ntmps80
  go_wp2_with fail
  refine HM.out.mono ?_
  rintro e wx ⟨rfl, hwx⟩
  obtain rfl := hwx.symm
  go_wp2_with fail
  refine (HF.out _).mono ?_
  rintro e wy ⟨rfl, hwy⟩
  obtain rfl := hwy.symm
  go_wp2_with fail
  refine HP.out.mono ?_
  rintro e w2 ⟨rfl, hb2⟩
  have HT2 := Lib.hid (H1.out.below hb2)
  have HX2 := Lib.hid (Box.call HX.out hb2)
  have HB2 := Lib.hid (HBA.out.trans (hb2.mono HBA.out.size))
  clear hb2 HP H1 HX HBA
  obtain ⟨k0, k1, k2, f0, f1, f2⟩ := Box.facts3 HT2.out.box
  go_wp2_with fail
  have ht0 : TrS w2.drew q b t m n T S l A c D d := HT2.out.below ((Below.refl w2.heap.size w2).drew)
  have HT0 := Lib.hid ht0
  have hz2 := HB2.out.size
  have hq0 := Box.drew HT2.out.box
  have hx0 := Box.drew HX2.out
  have hq1 := Box.alloc hq0 (.cells #[.string key, .string val] 131)
  have hx1 := Box.alloc hx0 (.cells #[.string key, .string val] 131)
  clear k0 k1 k2 f0 f1 f2
  obtain ⟨r0, r1, r2, -⟩ := Box.facts3 HT2.out.box
  obtain ⟨k0, k1, k2, f0, f1, f2⟩ := Box.facts3 hq0
  obtain ⟨x00, x01, -⟩ := hx0.facts2
  obtain ⟨l0, l1, l2, l3, l4', l5⟩ := Box.facts3 hq1
  obtain ⟨x10, x11, -⟩ := hx1.facts2
  have hq2 : q < w2.heap.size := HT2.out.ql
  have hw2 : w.heap.size < w2.heap.size := HX2.out.lt
  have hqw : q ≠ w.heap.size := by omega
  have HX1 := Lib.hid hx1
  have HXA := Lib.hid (show ¬ Row A w.heap.size from HRA.out)
  have HXM := Lib.hid (show ¬ w.heap.size = m by omega)
  have HXD := Lib.hid (show ¬ Row D w.heap.size from HRD.out)
  have HI1 := Lib.hid (insRec_calls (q + 1) A c l.length p (l.flatMap Rc.cells) [.string key, .string val] w2.heap.size #[.string key, .string val] 131 (w2.drew.alloc (.cells #[.string key, .string val] 131)) (ht0.recs.alloc _) hpl (by omega) (rc_ones l) (Box.new w2.drew _ _) rfl rfl (fun u hu => by simp at hu; rcases hu with rfl | rfl <;> rfl) (fun e => by have := (own_row HT2.out.recs e).2; omega) (by show q + 1 ≤ (w2.drew.alloc _).heap.size; simp; omega))
  clear ht0 hx1
  go_region_held3 (fun w' => w'.cell? ⟨q, 0, none⟩ = some (.pointer (some ⟨b, 0, none⟩)) ∧ w'.cell? ⟨w.heap.size, 0, none⟩ = some (.string key) ∧ w'.cell? ⟨w.heap.size, 1, none⟩ = some (.string val)) (first | exact ⟨k0, x00, x01⟩ | exact ⟨l0, x10, x11⟩ | exact ⟨g0, x30, x31⟩ | exact ⟨h0, x40, x41⟩ | exact ⟨i0, x50, x51⟩ | exact ⟨j0, x60, x61⟩ | exact ⟨(Box.set hq6 1 _).cell 0, (hx6.other hqw _).cell 0, (hx6.other hqw _).cell 1⟩ | exact ⟨(Box.set (Box.set hq6 1 _) 2 _).cell 0, ((hx6.other hqw _).other hqw _).cell 0, ((hx6.other hqw _).other hqw _).cell 1⟩) (first | (go_at_call 140; refine HI1.out.mono ?_; rintro e w3 ⟨A', c', rfl, ho3, hc3, hr3⟩; have HO3 := Lib.hid ho3; have HC3 := Lib.hid hc3; have HR3 := Lib.hid hr3; have hq3 := HT0.out.box3 hc3; have hx3 := HX1.out.ch hc3 HX1.out.lt HXA.out; have hk3 := HT0.out.bk3 hc3; have HD3 := Lib.hid (HT0.out.digs3 hc3); clear ho3 hc3 hr3; obtain ⟨g0, g1, g2, g3, g4, g5⟩ := Box.facts3 hq3; obtain ⟨x30, x31, -⟩ := hx3.facts2) | (go_at_call 139; refine (HLF.out _ hk3).mono ?_; rintro e w4 ⟨rfl, hc4, hk4⟩; have HC4 := Lib.hid hc4; have HK4 := Lib.hid hk4; have hq4 := Box.ch hq3 hc4 (Box.lt hq3) (by omega); have hx4 := hx3.ch hc4 hx3.lt HXM.out; have HD4 := Lib.hid (HT0.out.digs4 HC3.out hc4); have hq4l := Box.lt hq4; have hx4l := hx4.lt; have hz34 := hc4.size; have hz3 := HC3.out.size; clear hc4 hk4; have hq5 := Box.alloc hq4 (.cells #[.string dg] 9); have hx5 := hx4.alloc (.cells #[.string dg] 9); obtain ⟨h0, h1, h2, h3, h4, h5⟩ := Box.facts3 hq4; obtain ⟨x40, x41, -⟩ := hx4.facts2; obtain ⟨i0, i1, i2, i3, i4, i5⟩ := Box.facts3 hq5; obtain ⟨x50, x51, -⟩ := hx5.facts2; have HI2 := Lib.hid (insStr_calls (q + 1) D d l.length p ((leavesH (hh T) l).flatMap textCells) [.string dg] w4.heap.size #[.string dg] 9 (w4.alloc (.cells #[.string dg] 9)) (HD4.out.alloc _) hpl (by omega) (tx_ones _) (Box.new _ _ _) rfl rfl (fun u hu => by simp at hu; subst hu; rfl) (fun e => by have := (own_row HD4.out e).2; omega) (by have := Box.lt hq4; simp; omega))) | (go_at_call 141; refine HI2.out.mono ?_; rintro e w6 ⟨D', d', rfl, ho6, hc6, hr6⟩; have HO6 := Lib.hid ho6; have HC6 := Lib.hid hc6; have HR6 := Lib.hid hr6; have hq6 := Box.ch hq5 hc6 (Box.lt hq5) (fun e => by have := (own_row HD4.out e).1; omega); have hx6 := hx5.ch hc6 hx5.lt HXD.out; clear ho6 hc6 hr6; obtain ⟨j0, j1, j2, j3, j4, j5⟩ := Box.facts3 hq6; obtain ⟨x60, x61, -⟩ := hx6.facts2))
  all_goals
    have hfin := HT0.out.ins (p := p) (x := ⟨key, val⟩) hpl HO3.out HC3.out HR3.out HC4.out KN1.out HK4.out KN2.out KN3.out HO6.out HC6.out HR6.out
    have HFIN := Lib.hid hfin
    clear hfin
    go_wp2
    go_ret
    have hput := HPUT.out
    rw [if_neg (by decide)] at hput
    rw [← hput]
    have hch : Ch w.heap.size (Tch q m A D) w w2.drew := ((Ch.of_below HB2.out).drew)
    exact ⟨T1, A', c', D', d', rfl, KN1.out, kl, HFIN.out.1, hch.step HFIN.out.2.1 hz2 (fun _ _ e => e), fun k hk => (HFIN.out.2.2.1 k hk).imp_right (fun h => by have h2 : w2.heap.size ≤ k := h; omega), fun k hk => (HFIN.out.2.2.2 k hk).imp_right (fun h => by have h2 : w2.heap.size ≤ k := h; omega)⟩
end Go.Proofs.Ytfgpchffkpomoaa
