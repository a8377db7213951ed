/- A value is laid at a key that the tree had not: the walk through Put. -/
import Derived.Test.YtfgpchffkpomoaaTreeP
import Derived.Test.YtfgpchffkpomoaaPast
namespace Go.Proofs.Ytfgpchffkpomoaa
set_option linter.unusedSimpArgs false
set_option linter.unusedVariables false
open Go.RowKit

set_option maxHeartbeats 4000000 in
set_option maxRecDepth 100000 in
theorem tPut_new (q b t m n : Nat) (T : List ByteArray) (S : List Wd) (l : List Rc) (A : Option Addr) (c : Nat) (D : Option Addr) (d : Nat) (key val : ByteArray) (w : World) (h : TrS w q b t m n T S l A c D d) (hT : T.length ≤ 50000000) (hl : l.length ≤ 1000) (hr : Rising l) (hyes : okP key val = true) (hiq : isP l key = false) :
    Calls Try.prog 80 #[.pointer (some ⟨q, 0, none⟩), .string key, .string val] w (PutPost w q b t m n T S (putD l key val) A D 0) := by
  have hfk : fitK key = true := by unfold okP at hyes; simp only [Bool.and_eq_true] at hyes; exact hyes.1
  have hvs : val.size ≤ 4096 := by unfold okP at hyes; simp only [Bool.and_eq_true, decide_eq_true_eq] at hyes; exact hyes.2
  have hks : key.size ≤ 64 := by unfold fitK at hfk; have := of_decide_eq_true hfk; omega
  have hv : decide ((4096 : Int) < (val.size : Int)) = false := by simp; omega
  have hl4 : ((l.length : Int) == 4096) = false := by rw [beq_eq_false_iff_ne]; omega
  have HM := Lib.hid (tmade_calls q b A l.length c D l.length d w h.box)
  have HF := Lib.hid (fun w => mfits_calls key w)
  rw [hfk] at HF
  have hA := (Below.refl w.heap.size w).alloc (Nat.le_refl _) (.cells #[.string key, .string val] 131)
  have h1 := h.below hA
  have HP := Lib.hid (tplace_calls q b A c D l.length d l key _ h1.box h1.rcs hr (by omega))
  unfold PlacePost at HP
  have HX := Lib.hid (Box.new w #[.string key, .string val] 131)
  have HBA := Lib.hid hA
  have H1 := Lib.hid h1
  have hpl := plc_le l key
  have HPUT := Lib.hid (putT_eq hr key val)
  obtain ⟨p, hp⟩ : ∃ p, p = placeP l key := ⟨_, rfl⟩
  unfold putT at HPUT
  rw [← hp] at HP hpl HPUT
  have HIS := Lib.hid (show isP l key = true → p < l.length by rw [hp]; intro h; exact (is_split h).choose_spec.2.2)
  rw [hiq] at HP HIS HPUT
  have hqA : q < w.heap.size := h.ql
  have HRA := Lib.hid (show ¬ Row A w.heap.size from fun e => by have := (own_row h.recs e).2; omega)
  have HRD := Lib.hid (show ¬ Row D w.heap.size from fun e => by have := (own_row h.digs e).2; omega)
  have hlt := h.lt
  obtain ⟨kn1, kn2, kn3⟩ := dig_known T (leafT ⟨key, val⟩)
  have kl := digT_len T (leafT ⟨key, val⟩)
  have HLF := Lib.hid (fun w hb => leaf_calls b t m n T S ⟨key, val⟩ w hb (by omega) (by simp only [maxLen]; omega) (by simp only [maxLen]; omega))
  obtain ⟨⟨dg, T1⟩, hq⟩ : ∃ Q, Q = digS T (leafT ⟨key, val⟩) := ⟨_, rfl⟩
  rw [← hq] at kn1 kn2 kn3 kl HLF
  simp only at kn1 kn2 kn3 kl HLF
  have KN1 := Lib.hid kn1
  have KN2 := Lib.hid kn2
  have KN3 := Lib.hid kn3
  clear h h1 hA hp hiq hr hq kn1 kn2 kn3 hyes hfk
  go_enter Try.func80, Try.ntmps80
  go_wp2_with fail
  refine HM.out.mono ?_
  rintro e wx ⟨rfl, hwx⟩
  obtain rfl := hwx.symm
  go_wp2_with fail
  refine (HF.out _).mono ?_
  rintro e wy ⟨rfl, hwy⟩
  obtain rfl := hwy.symm
  go_wp2_with fail
  refine HP.out.mono ?_
  rintro e w2 ⟨rfl, hb2⟩
  have HT2 := Lib.hid (H1.out.below hb2)
  have HX2 := Lib.hid (Box.call HX.out hb2)
  have HB2 := Lib.hid (HBA.out.trans (hb2.mono HBA.out.size))
  clear hb2 HP H1 HX HBA
  obtain ⟨k0, k1, k2, f0, f1, f2⟩ := Box.facts3 HT2.out.box
  go_wp2_with fail
  have ht0 : TrS w2.drew q b t m n T S l A c D d := HT2.out.below ((Below.refl w2.heap.size w2).drew)
  have HT0 := Lib.hid ht0
  have hz2 := HB2.out.size
  have hq0 := Box.drew HT2.out.box
  have hx0 := Box.drew HX2.out
  have hq1 := Box.alloc hq0 (.cells #[.string key, .string val] 131)
  have hx1 := Box.alloc hx0 (.cells #[.string key, .string val] 131)
  clear k0 k1 k2 f0 f1 f2
  obtain ⟨r0, r1, r2, -⟩ := Box.facts3 HT2.out.box
  obtain ⟨k0, k1, k2, f0, f1, f2⟩ := Box.facts3 hq0
  obtain ⟨x00, x01, -⟩ := hx0.facts2
  obtain ⟨l0, l1, l2, l3, l4', l5⟩ := Box.facts3 hq1
  obtain ⟨x10, x11, -⟩ := hx1.facts2
  have hq2 : q < w2.heap.size := HT2.out.ql
  have hw2 : w.heap.size < w2.heap.size := HX2.out.lt
  have hqw : q ≠ w.heap.size := by omega
  have HX1 := Lib.hid hx1
  have HXA := Lib.hid (show ¬ Row A w.heap.size from HRA.out)
  have HXM := Lib.hid (show ¬ w.heap.size = m by omega)
  have HXD := Lib.hid (show ¬ Row D w.heap.size from HRD.out)
  have HI1 := Lib.hid (insRec_calls (q + 1) A c l.length p (l.flatMap Rc.cells) [.string key, .string val] w2.heap.size #[.string key, .string val] 131 (w2.drew.alloc (.cells #[.string key, .string val] 131)) (ht0.recs.alloc _) hpl (by omega) (rc_ones l) (Box.new w2.drew _ _) rfl rfl (fun u hu => by simp at hu; rcases hu with rfl | rfl <;> rfl) (fun e => by have := (own_row HT2.out.recs e).2; omega) (by show q + 1 ≤ (w2.drew.alloc _).heap.size; simp; omega))
  clear ht0 hx1
  refine AnyP.start [25, 28] (fun w' => w'.cell? ⟨q, 0, none⟩ = some (.pointer (some ⟨b, 0, none⟩)) ∧ w'.cell? ⟨q, 1, none⟩ = some (.slice A l.length c) ∧ w'.cell? ⟨q, 2, none⟩ = some (.slice D l.length d) ∧ w'.cell? ⟨w.heap.size, 0, none⟩ = some (.string key) ∧ w'.cell? ⟨w.heap.size, 1, none⟩ = some (.string val)) (by kernel_rfl) ⟨k0, k1, k2, x00, x01⟩ (n := 29) (listed := #[false, false, false, false, false, false, false, false, false, false, false, false, false, false, false, false, false, false, false, false, false, false, false, false, false, false, false, false, false]) (by kernel_rfl) (by kernel_rfl) (fun hHeld => ?_)
  refine AnyP.take (i := 0) (fuel := 28) (d := some 56) (listed' := #[true, false, false, false, false, false, false, false, false, false, false, false, false, false, false, false, false, false, false, false, false, false, false, false, false, false, false, false, false]) (oi := _) (v := ?v0) rfl (by kernel_rfl) (by kernel_rfl) (by kernel_rfl) (fun _ _ _ h => h) (Or.inl ⟨by rfl, ?hy0⟩) (by rfl) (by rfl) ?rest0
  case hy0 => intro w; go_simp; try with_reducible rfl
  try simp only [Act.put, List.setIfInBounds_toArray, List.set_cons_zero, List.set_cons_succ]
  refine AnyP.take (i := 1) (fuel := 27) (d := some 57) (listed' := #[true, true, false, false, false, false, false, false, false, false, false, false, false, false, false, false, false, false, false, false, false, false, false, false, false, false, false, false, false]) (oi := _) (v := ?v1) rfl (by kernel_rfl) (by kernel_rfl) (by kernel_rfl) (fun _ _ _ h => h) (Or.inl ⟨by rfl, ?hy1⟩) (by rfl) (by rfl) ?rest1
  case hy1 => intro w; go_simp; try with_reducible rfl
  try simp only [Act.put, List.setIfInBounds_toArray, List.set_cons_zero, List.set_cons_succ]
  refine AnyP.take (i := 2) (fuel := 26) (d := some 58) (listed' := #[true, true, true, false, false, false, false, false, false, false, false, false, false, false, false, false, false, false, false, false, false, false, false, false, false, false, false, false, false]) (oi := _) (v := ?v2) rfl (by kernel_rfl) (by kernel_rfl) (by kernel_rfl) (fun _ _ _ h => h) (Or.inl ⟨by rfl, ?hy2⟩) (by rfl) (by rfl) ?rest2
  case hy2 => intro w; go_simp; try with_reducible rfl
  try simp only [Act.put, List.setIfInBounds_toArray, List.set_cons_zero, List.set_cons_succ]
  refine AnyP.take (i := 3) (fuel := 25) (d := some 59) (listed' := #[true, true, true, true, false, false, false, false, false, false, false, false, false, false, false, false, false, false, false, false, false, false, false, false, false, false, false, false, false]) (oi := _) (v := ?v3) rfl (by kernel_rfl) (by kernel_rfl) (by kernel_rfl) (fun _ _ _ h => h) (Or.inl ⟨by rfl, ?hy3⟩) (by rfl) (by rfl) ?rest3
  case hy3 => intro w; go_simp; try with_reducible rfl
  try simp only [Act.put, List.setIfInBounds_toArray, List.set_cons_zero, List.set_cons_succ]
  refine AnyP.take (i := 4) (fuel := 24) (d := some 60) (listed' := #[true, true, true, true, true, false, false, false, false, false, false, false, false, false, false, false, false, false, false, false, false, false, false, false, false, false, false, false, false]) (oi := _) (v := ?v4) rfl (by kernel_rfl) (by kernel_rfl) (by kernel_rfl) (fun _ _ _ h => h) (Or.inl ⟨by rfl, ?hy4⟩) (by rfl) (by rfl) ?rest4
  case hy4 => intro w; go_simp; try with_reducible rfl
  try simp only [Act.put, List.setIfInBounds_toArray, List.set_cons_zero, List.set_cons_succ]
  refine AnyP.load (i := 5) (fuel := 23) (d := some 61) (listed' := #[true, true, true, true, true, true, false, false, false, false, false, false, false, false, false, false, false, false, false, false, false, false, false, false, false, false, false, false, false]) (oi := _) (v := ?v5) [9, 20, 21, 22, 25, 28] rfl (by kernel_rfl) (by kernel_rfl) (by kernel_rfl) (by kernel_rfl) (by kernel_rfl) (by kernel_rfl) (fun _ _ _ h => h) (Or.inl ⟨by rfl, ?hy5⟩) hHeld (by rfl) (by rfl) ?rest5
  case hy5 => intro w hSw; (try dsimp only at hSw); go_simp; try with_reducible rfl
  try simp only [Act.put, List.setIfInBounds_toArray, List.set_cons_zero, List.set_cons_succ]
  refine AnyP.take (i := 6) (fuel := 22) (d := some 62) (listed' := #[true, true, true, true, true, true, true, false, false, false, false, false, false, false, false, false, false, false, false, false, false, false, false, false, false, false, false, false, false]) (oi := _) (v := ?v6) rfl (by kernel_rfl) (by kernel_rfl) (by kernel_rfl) (fun _ _ _ h => h) (Or.inl ⟨by rfl, ?hy6⟩) (by rfl) (by rfl) ?rest6
  case hy6 => intro w; go_simp; try with_reducible rfl
  try simp only [Act.put, List.setIfInBounds_toArray, List.set_cons_zero, List.set_cons_succ]
  refine AnyP.load (i := 7) (fuel := 21) (d := some 63) (listed' := #[true, true, true, true, true, true, true, true, false, false, false, false, false, false, false, false, false, false, false, false, false, false, false, false, false, false, false, false, false]) (oi := _) (v := ?v7) [8, 9, 20, 21, 22, 25, 28] rfl (by kernel_rfl) (by kernel_rfl) (by kernel_rfl) (by kernel_rfl) (by kernel_rfl) (by kernel_rfl) (fun _ _ _ h => h) (Or.inl ⟨by rfl, ?hy7⟩) hHeld (by rfl) (by rfl) ?rest7
  case hy7 => intro w hSw; (try dsimp only at hSw); go_simp; try with_reducible rfl
  try simp only [Act.put, List.setIfInBounds_toArray, List.set_cons_zero, List.set_cons_succ]
  refine AnyP.take (i := 10) (fuel := 20) (d := some 66) (listed' := #[true, true, true, true, true, true, true, true, false, false, true, false, false, false, false, false, false, false, false, false, false, false, false, false, false, false, false, false, false]) (oi := _) (v := ?v10) rfl (by kernel_rfl) (by kernel_rfl) (by kernel_rfl) (fun _ _ _ h => h) (Or.inl ⟨by rfl, ?hy10⟩) (by rfl) (by rfl) ?rest10
  case hy10 => intro w; go_simp; try with_reducible rfl
  try simp only [Act.put, List.setIfInBounds_toArray, List.set_cons_zero, List.set_cons_succ]
  refine AnyP.take (i := 11) (fuel := 19) (d := some 67) (listed' := #[true, true, true, true, true, true, true, true, false, false, true, true, false, false, false, false, false, false, false, false, false, false, false, false, false, false, false, false, false]) (oi := _) (v := ?v11) rfl (by kernel_rfl) (by kernel_rfl) (by kernel_rfl) (fun _ _ _ h => h) (Or.inl ⟨by rfl, ?hy11⟩) (by rfl) (by rfl) ?rest11
  case hy11 => intro w; go_simp; try with_reducible rfl
  try simp only [Act.put, List.setIfInBounds_toArray, List.set_cons_zero, List.set_cons_succ]
  refine AnyP.take (i := 12) (fuel := 18) (d := some 68) (listed' := #[true, true, true, true, true, true, true, true, false, false, true, true, true, false, false, false, false, false, false, false, false, false, false, false, false, false, false, false, false]) (oi := _) (v := ?v12) rfl (by kernel_rfl) (by kernel_rfl) (by kernel_rfl) (fun _ _ _ h => h) (Or.inl ⟨by rfl, ?hy12⟩) (by rfl) (by rfl) ?rest12
  case hy12 => intro w; go_simp; try with_reducible rfl
  try simp only [Act.put, List.setIfInBounds_toArray, List.set_cons_zero, List.set_cons_succ]
  refine AnyP.load (i := 13) (fuel := 17) (d := some 69) (listed' := #[true, true, true, true, true, true, true, true, false, false, true, true, true, true, false, false, false, false, false, false, false, false, false, false, false, false, false, false, false]) (oi := _) (v := ?v13) [22, 25, 28] rfl (by kernel_rfl) (by kernel_rfl) (by kernel_rfl) (by kernel_rfl) (by kernel_rfl) (by kernel_rfl) (fun _ _ _ h => h) (Or.inl ⟨by rfl, ?hy13⟩) hHeld (by rfl) (by rfl) ?rest13
  case hy13 => intro w hSw; (try dsimp only at hSw); go_simp; try with_reducible rfl
  try simp only [Act.put, List.setIfInBounds_toArray, List.set_cons_zero, List.set_cons_succ]
  refine AnyP.take (i := 14) (fuel := 16) (d := some 70) (listed' := #[true, true, true, true, true, true, true, true, false, false, true, true, true, true, true, false, false, false, false, false, false, false, false, false, false, false, false, false, false]) (oi := _) (v := ?v14) rfl (by kernel_rfl) (by kernel_rfl) (by kernel_rfl) (fun _ _ _ h => h) (Or.inl ⟨by rfl, ?hy14⟩) (by rfl) (by rfl) ?rest14
  case hy14 => intro w; go_simp; try with_reducible rfl
  try simp only [Act.put, List.setIfInBounds_toArray, List.set_cons_zero, List.set_cons_succ]
  refine AnyP.take (i := 15) (fuel := 15) (d := some 71) (listed' := #[true, true, true, true, true, true, true, true, false, false, true, true, true, true, true, true, false, false, false, false, false, false, false, false, false, false, false, false, false]) (oi := _) (v := ?v15) rfl (by kernel_rfl) (by kernel_rfl) (by kernel_rfl) (fun _ _ _ h => h) (Or.inl ⟨by rfl, ?hy15⟩) (by rfl) (by rfl) ?rest15
  case hy15 => intro w; go_simp; try with_reducible rfl
  try simp only [Act.put, List.setIfInBounds_toArray, List.set_cons_zero, List.set_cons_succ]
  refine AnyP.take (i := 16) (fuel := 14) (d := some 72) (listed' := #[true, true, true, true, true, true, true, true, false, false, true, true, true, true, true, true, true, false, false, false, false, false, false, false, false, false, false, false, false]) (oi := _) (v := ?v16) rfl (by kernel_rfl) (by kernel_rfl) (by kernel_rfl) (fun _ _ _ h => h) (Or.inl ⟨by rfl, ?hy16⟩) (by rfl) (by rfl) ?rest16
  case hy16 => intro w; go_simp; try with_reducible rfl
  try simp only [Act.put, List.setIfInBounds_toArray, List.set_cons_zero, List.set_cons_succ]
  refine AnyP.take (i := 17) (fuel := 13) (d := some 73) (listed' := #[true, true, true, true, true, true, true, true, false, false, true, true, true, true, true, true, true, true, false, false, false, false, false, false, false, false, false, false, false]) (oi := _) (v := ?v17) rfl (by kernel_rfl) (by kernel_rfl) (by kernel_rfl) (fun _ _ _ h => h) (Or.inl ⟨by rfl, ?hy17⟩) (by rfl) (by rfl) ?rest17
  case hy17 => intro w; go_simp; try with_reducible rfl
  try simp only [Act.put, List.setIfInBounds_toArray, List.set_cons_zero, List.set_cons_succ]
  refine AnyP.load (i := 18) (fuel := 12) (d := some 74) (listed' := #[true, true, true, true, true, true, true, true, false, false, true, true, true, true, true, true, true, true, true, false, false, false, false, false, false, false, false, false, false]) (oi := _) (v := ?v18) [20, 21, 22, 25, 28] rfl (by kernel_rfl) (by kernel_rfl) (by kernel_rfl) (by kernel_rfl) (by kernel_rfl) (by kernel_rfl) (fun _ _ _ h => h) (Or.inl ⟨by rfl, ?hy18⟩) hHeld (by rfl) (by rfl) ?rest18
  case hy18 => intro w hSw; (try dsimp only at hSw); go_simp; try with_reducible rfl
  try simp only [Act.put, List.setIfInBounds_toArray, List.set_cons_zero, List.set_cons_succ]
  refine AnyP.load (i := 19) (fuel := 11) (d := some 75) (listed' := #[true, true, true, true, true, true, true, true, false, false, true, true, true, true, true, true, true, true, true, true, false, false, false, false, false, false, false, false, false]) (oi := _) (v := ?v19) [20, 21, 22, 25, 28] rfl (by kernel_rfl) (by kernel_rfl) (by kernel_rfl) (by kernel_rfl) (by kernel_rfl) (by kernel_rfl) (fun _ _ _ h => h) (Or.inl ⟨by rfl, ?hy19⟩) hHeld (by rfl) (by rfl) ?rest19
  case hy19 => intro w hSw; (try dsimp only at hSw); go_simp; try with_reducible rfl
  try simp only [Act.put, List.setIfInBounds_toArray, List.set_cons_zero, List.set_cons_succ]
  refine AnyP.one (i := 8) (o := ?o8) (fuel := 10) (listed' := #[true, true, true, true, true, true, true, true, true, false, true, true, true, true, true, true, true, true, true, true, false, false, false, false, false, false, false, false, false]) (by kernel_rfl) ?ho8 (by rfl) (fun K hK => ?step8)
  case ho8 => simp only [List.getElem?_toArray, List.getElem?_cons_succ, List.getElem?_cons_zero]; rfl
  go_simp
  refine hK.out _ _ (fun _ => ⟨l0, l1, l2, x10, x11⟩) (fun _ => ?_)
  clear hK K
  refine AnyP.one (i := 9) (o := ?o9) (fuel := 9) (listed' := #[true, true, true, true, true, true, true, true, true, true, true, true, true, true, true, true, true, true, true, true, false, false, false, false, false, false, false, false, false]) (by kernel_rfl) ?ho9 (by rfl) (fun K hK => ?step9)
  case ho9 => simp only [List.getElem?_toArray, List.getElem?_cons_succ, List.getElem?_cons_zero]; rfl
  go_simp
  refine HI1.out.mono ?_
  rintro e w3 ⟨A', c', rfl, ho3, hc3, hr3⟩
  have HO3 := Lib.hid ho3
  have HC3 := Lib.hid hc3
  have HR3 := Lib.hid hr3
  have hq3 := HT0.out.box3 hc3
  have hx3 := HX1.out.ch hc3 HX1.out.lt HXA.out
  have hk3 := HT0.out.bk3 hc3
  have HD3 := Lib.hid (HT0.out.digs3 hc3)
  clear ho3 hc3 hr3
  obtain ⟨g0, g1, g2, g3, g4, g5⟩ := Box.facts3 hq3
  obtain ⟨x30, x31, -⟩ := hx3.facts2
  go_wp2_with fail
  refine hK.out _ _ (fun _ => ⟨g0, g1, g2, x30, x31⟩) (fun _ => ?_)
  clear hK K
  refine AnyP.one (i := 20) (o := ?o20) (fuel := 8) (listed' := #[true, true, true, true, true, true, true, true, true, true, true, true, true, true, true, true, true, true, true, true, true, false, false, false, false, false, false, false, false]) (by kernel_rfl) ?ho20 (by rfl) (fun K hK => ?step20)
  case ho20 => simp only [List.getElem?_toArray, List.getElem?_cons_succ, List.getElem?_cons_zero]; rfl
  go_simp
  refine (HLF.out _ hk3).mono ?_
  rintro e w4 ⟨rfl, hc4, hk4⟩
  have HC4 := Lib.hid hc4
  have HK4 := Lib.hid hk4
  have hq4 := Box.ch hq3 hc4 (Box.lt hq3) (by omega)
  have hx4 := hx3.ch hc4 hx3.lt HXM.out
  have HD4 := Lib.hid (HT0.out.digs4 HC3.out hc4)
  have hq4l := Box.lt hq4
  have hx4l := hx4.lt
  have hz34 := hc4.size
  have hz3 := HC3.out.size
  clear hc4 hk4
  have hq5 := Box.alloc hq4 (.cells #[.string dg] 9)
  have hx5 := hx4.alloc (.cells #[.string dg] 9)
  obtain ⟨h0, h1, h2, h3, h4, h5⟩ := Box.facts3 hq4
  obtain ⟨x40, x41, -⟩ := hx4.facts2
  obtain ⟨i0, i1, i2, i3, i4, i5⟩ := Box.facts3 hq5
  obtain ⟨x50, x51, -⟩ := hx5.facts2
  have HI2 := Lib.hid (insStr_calls (q + 1) D d l.length p ((leavesH (hh T) l).flatMap textCells) [.string dg] w4.heap.size #[.string dg] 9 (w4.alloc (.cells #[.string dg] 9)) (HD4.out.alloc _) hpl (by omega) (tx_ones _) (Box.new _ _ _) rfl rfl (fun u hu => by simp at hu; subst hu; rfl) (fun e => by have := (own_row HD4.out e).2; omega) (by have := Box.lt hq4; simp; omega))
  go_wp2_with fail
  refine hK.out _ _ (fun _ => ⟨h0, h1, h2, x40, x41⟩) (fun _ => ?_)
  clear hK K
  refine AnyP.one (i := 21) (o := ?o21) (fuel := 7) (listed' := #[true, true, true, true, true, true, true, true, true, true, true, true, true, true, true, true, true, true, true, true, true, true, false, false, false, false, false, false, false]) (by kernel_rfl) ?ho21 (by rfl) (fun K hK => ?step21)
  case ho21 => simp only [List.getElem?_toArray, List.getElem?_cons_succ, List.getElem?_cons_zero]; rfl
  go_simp
  refine hK.out _ _ (fun _ => ⟨i0, i1, i2, x50, x51⟩) (fun _ => ?_)
  clear hK K
  refine AnyP.one (i := 22) (o := ?o22) (fuel := 6) (listed' := #[true, true, true, true, true, true, true, true, true, true, true, true, true, true, true, true, true, true, true, true, true, true, true, false, false, false, false, false, false]) (by kernel_rfl) ?ho22 (by rfl) (fun K hK => ?step22)
  case ho22 => simp only [List.getElem?_toArray, List.getElem?_cons_succ, List.getElem?_cons_zero]; rfl
  go_simp
  refine HI2.out.mono ?_
  rintro e w6 ⟨D', d', rfl, ho6, hc6, hr6⟩
  have HO6 := Lib.hid ho6
  have HC6 := Lib.hid hc6
  have HR6 := Lib.hid hr6
  have hq6 := Box.ch hq5 hc6 (Box.lt hq5) (fun e => by have := (own_row HD4.out e).1; omega)
  have hx6 := hx5.ch hc6 hx5.lt HXD.out
  clear ho6 hc6 hr6
  obtain ⟨j0, j1, j2, j3, j4, j5⟩ := Box.facts3 hq6
  obtain ⟨x60, x61, -⟩ := hx6.facts2
  go_wp2_with fail
  refine hK.out _ _ (fun _ => ⟨j0, j1, j2, x60, x61⟩) (fun _ => ?_)
  clear hK K
  refine AnyP.take (i := 23) (fuel := 5) (d := some 79) (listed' := #[true, true, true, true, true, true, true, true, true, true, true, true, true, true, true, true, true, true, true, true, true, true, true, true, false, false, false, false, false]) (oi := _) (v := ?v23) rfl (by kernel_rfl) (by kernel_rfl) (by kernel_rfl) (fun _ _ _ h => h) (Or.inl ⟨by rfl, ?hy23⟩) (by rfl) (by rfl) ?rest23
  case hy23 => intro w; go_simp; try with_reducible rfl
  try simp only [Act.put, List.setIfInBounds_toArray, List.set_cons_zero, List.set_cons_succ]
  refine AnyP.take (i := 24) (fuel := 4) (d := some 80) (listed' := #[true, true, true, true, true, true, true, true, true, true, true, true, true, true, true, true, true, true, true, true, true, true, true, true, true, false, false, false, false]) (oi := _) (v := ?v24) rfl (by kernel_rfl) (by kernel_rfl) (by kernel_rfl) (fun _ _ _ h => h) (Or.inl ⟨by rfl, ?hy24⟩) (by rfl) (by rfl) ?rest24
  case hy24 => intro w; go_simp; try with_reducible rfl
  try simp only [Act.put, List.setIfInBounds_toArray, List.set_cons_zero, List.set_cons_succ]
  refine AnyP.one (i := 25) (o := ?o25) (fuel := 3) (listed' := #[true, true, true, true, true, true, true, true, true, true, true, true, true, true, true, true, true, true, true, true, true, true, true, true, true, true, false, false, false]) (by kernel_rfl) ?ho25 (by rfl) (fun K hK => ?step25)
  case ho25 => simp only [List.getElem?_toArray, List.getElem?_cons_succ, List.getElem?_cons_zero]; rfl
  go_simp
  refine hK.out _ _ (fun h => absurd (by decide) h) (fun _ => ?_)
  clear hK K
  refine AnyP.take (i := 26) (fuel := 2) (d := some 81) (listed' := #[true, true, true, true, true, true, true, true, true, true, true, true, true, true, true, true, true, true, true, true, true, true, true, true, true, true, true, false, false]) (oi := _) (v := ?v26) rfl (by kernel_rfl) (by kernel_rfl) (by kernel_rfl) (fun _ _ _ h => h) (Or.inl ⟨by rfl, ?hy26⟩) (by rfl) (by rfl) ?rest26
  case hy26 => intro w; go_simp; try with_reducible rfl
  try simp only [Act.put, List.setIfInBounds_toArray, List.set_cons_zero, List.set_cons_succ]
  refine AnyP.take (i := 27) (fuel := 1) (d := some 82) (listed' := #[true, true, true, true, true, true, true, true, true, true, true, true, true, true, true, true, true, true, true, true, true, true, true, true, true, true, true, true, false]) (oi := _) (v := ?v27) rfl (by kernel_rfl) (by kernel_rfl) (by kernel_rfl) (fun _ _ _ h => h) (Or.inl ⟨by rfl, ?hy27⟩) (by rfl) (by rfl) ?rest27
  case hy27 => intro w; go_simp; try with_reducible rfl
  try simp only [Act.put, List.setIfInBounds_toArray, List.set_cons_zero, List.set_cons_succ]
  refine AnyP.one (i := 28) (o := ?o28) (fuel := 0) (listed' := #[true, true, true, true, true, true, true, true, true, true, true, true, true, true, true, true, true, true, true, true, true, true, true, true, true, true, true, true, true]) (by kernel_rfl) ?ho28 (by rfl) (fun K hK => ?step28)
  case ho28 => simp only [List.getElem?_toArray, List.getElem?_cons_succ, List.getElem?_cons_zero]; rfl
  go_simp
  refine hK.out _ _ (fun h => absurd (by decide) h) (fun _ => ?_)
  clear hK K
  refine AnyP.done (by kernel_rfl) ?_ _
  all_goals
    have hfin := HT0.out.ins (p := p) (x := ⟨key, val⟩) hpl HO3.out HC3.out HR3.out HC4.out KN1.out HK4.out KN2.out KN3.out HO6.out HC6.out HR6.out
    have HFIN := Lib.hid hfin
    clear hfin
    go_wp2
    go_ret
    have hput := HPUT.out
    rw [if_neg (by decide)] at hput
    rw [← hput]
    have hch : Ch w.heap.size (Tch q m A D) w w2.drew := ((Ch.of_below HB2.out).drew)
    exact ⟨T1, A', c', D', d', rfl, KN1.out, kl, HFIN.out.1, hch.step HFIN.out.2.1 hz2 (fun _ _ e => e), fun k hk => (HFIN.out.2.2.1 k hk).imp_right (fun h => by have h2 : w2.heap.size ≤ k := h; omega), fun k hk => (HFIN.out.2.2.2 k hk).imp_right (fun h => by have h2 : w2.heap.size ≤ k := h; omega)⟩
end Go.Proofs.Ytfgpchffkpomoaa
