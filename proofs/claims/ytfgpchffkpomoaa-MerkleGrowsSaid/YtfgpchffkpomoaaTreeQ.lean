/- A value is laid at a key of a tree: the walk through Put. -/
import Derived.Test.YtfgpchffkpomoaaTreeP
namespace Go.Proofs.Ytfgpchffkpomoaa
set_option linter.unusedSimpArgs false
set_option linter.unusedVariables false
open Go.RowKit

set_option maxHeartbeats 2000000 in
set_option maxRecDepth 100000 in
theorem tPut_no (q b t m n : Nat) (T : List ByteArray) (S : List Wd) (l : List Rc) (A : Option Addr) (c : Nat) (D : Option Addr) (d : Nat) (key val : ByteArray) (w : World) (h : TrS w q b t m n T S l A c D d) (hno : okP key val = false) :
    Calls Try.prog 80 #[.pointer (some ⟨q, 0, none⟩), .string key, .string val] w (fun e w' => e = .returned (.int .i64 14) ∧ w' = w) := by
  have HM := Lib.hid (tmade_calls q b A l.length c D l.length d w h.box)
  have HF := Lib.hid (fun w => mfits_calls key w)
  clear h
  cases hk : fitK key with
  | false =>
    rw [hk] at HF
    clear hk hno
    go_enter Try.func80, Try.ntmps80
    go_wp2_with fail
    refine HM.out.mono ?_
    rintro e wx ⟨rfl, hwx⟩
    subst hwx
    go_wp2_with fail
    refine (HF.out _).mono ?_
    rintro e wy ⟨rfl, hwy⟩
    subst hwy
    go_wp2
    go_ret
    exact ⟨rfl, rfl⟩
  | true =>
    have hv : decide ((4096 : Int) < (val.size : Int)) = true := by
      unfold okP at hno
      rw [hk] at hno
      simp at hno
      simp
      omega
    rw [hk] at HF
    clear hk hno
    go_enter Try.func80, Try.ntmps80
    go_wp2_with fail
    refine HM.out.mono ?_
    rintro e wx ⟨rfl, hwx⟩
    subst hwx
    go_wp2_with fail
    refine (HF.out _).mono ?_
    rintro e wy ⟨rfl, hwy⟩
    subst hwy
    go_wp2
    go_ret
    exact ⟨rfl, rfl⟩

set_option maxHeartbeats 4000000 in
set_option maxRecDepth 100000 in
theorem tPut_old (q b t m n : Nat) (T : List ByteArray) (S : List Wd) (l : List Rc) (A : Option Addr) (c : Nat) (D : Option Addr) (d : Nat) (key val : ByteArray) (w : World) (h : TrS w q b t m n T S l A c D d) (hT : T.length ≤ 50000000) (hl : l.length ≤ 1000) (hr : Rising l) (hyes : okP key val = true) (hiq : isP l key = true) :
    Calls Try.prog 80 #[.pointer (some ⟨q, 0, none⟩), .string key, .string val] w (PutPost w q b t m n T S (putD l key val) A D 0) := by
  have hfk : fitK key = true := by unfold okP at hyes; simp only [Bool.and_eq_true] at hyes; exact hyes.1
  have hvs : val.size ≤ 4096 := by unfold okP at hyes; simp only [Bool.and_eq_true, decide_eq_true_eq] at hyes; exact hyes.2
  have hks : key.size ≤ 64 := by unfold fitK at hfk; have := of_decide_eq_true hfk; omega
  have hv : decide ((4096 : Int) < (val.size : Int)) = false := by simp; omega
  have hl4 : ((l.length : Int) == 4096) = false := by rw [beq_eq_false_iff_ne]; omega
  have HM := Lib.hid (tmade_calls q b A l.length c D l.length d w h.box)
  have HF := Lib.hid (fun w => mfits_calls key w)
  rw [hfk] at HF
  have hA := (Below.refl w.heap.size w).alloc (Nat.le_refl _) (.cells #[.string key, .string val] 131)
  have h1 := h.below hA
  have HP := Lib.hid (tplace_calls q b A c D l.length d l key _ h1.box h1.rcs hr (by omega))
  unfold PlacePost at HP
  have HX := Lib.hid (Box.new w #[.string key, .string val] 131)
  have HBA := Lib.hid hA
  have H1 := Lib.hid h1
  have hpl := plc_le l key
  have HPUT := Lib.hid (putT_eq hr key val)
  obtain ⟨p, hp⟩ : ∃ p, p = placeP l key := ⟨_, rfl⟩
  unfold putT at HPUT
  rw [← hp] at HP hpl HPUT
  have HIS := Lib.hid (show isP l key = true → p < l.length by rw [hp]; intro h; exact (is_split h).choose_spec.2.2)
  rw [hiq] at HP HIS HPUT
  have hqA : q < w.heap.size := h.ql
  have HRA := Lib.hid (show ¬ Row A w.heap.size from fun e => by have := (own_row h.recs e).2; omega)
  have HRD := Lib.hid (show ¬ Row D w.heap.size from fun e => by have := (own_row h.digs e).2; omega)
  have hlt := h.lt
  obtain ⟨kn1, kn2, kn3⟩ := dig_known T (leafT ⟨key, val⟩)
  have kl := digT_len T (leafT ⟨key, val⟩)
  have HLF := Lib.hid (fun w hb => leaf_calls b t m n T S ⟨key, val⟩ w hb (by omega) (by simp only [maxLen]; omega) (by simp only [maxLen]; omega))
  obtain ⟨⟨dg, T1⟩, hq⟩ : ∃ Q, Q = digS T (leafT ⟨key, val⟩) := ⟨_, rfl⟩
  rw [← hq] at kn1 kn2 kn3 kl HLF
  simp only at kn1 kn2 kn3 kl HLF
  have KN1 := Lib.hid kn1
  have KN2 := Lib.hid kn2
  have KN3 := Lib.hid kn3
  clear h h1 hA hp hiq hr hq kn1 kn2 kn3 hyes hfk
  go_enter Try.func80, Try.ntmps80
  go_wp2_with fail
  refine HM.out.mono ?_
  rintro e wx ⟨rfl, hwx⟩
  obtain rfl := hwx.symm
  go_wp2_with fail
  refine (HF.out _).mono ?_
  rintro e wy ⟨rfl, hwy⟩
  obtain rfl := hwy.symm
  go_wp2_with fail
  refine HP.out.mono ?_
  rintro e w2 ⟨rfl, hb2⟩
  have HT2 := Lib.hid (H1.out.below hb2)
  have HX2 := Lib.hid (Box.call HX.out hb2)
  have HB2 := Lib.hid (HBA.out.trans (hb2.mono HBA.out.size))
  clear hb2 HP H1 HX HBA
  have hpi := HIS.out (by trivial)
  obtain ⟨gA, rfl⟩ := rw_some HT2.out.recs (by omega)
  obtain ⟨gD, rfl⟩ := rw_some HT2.out.digs (by omega)
  obtain ⟨k0, k1, k2, f0, f1, f2⟩ := Box.facts3 HT2.out.box
  go_wp2_with fail
  have ht0 : TrS w2.drew q b t m n T S l (some ⟨gA, 0, none⟩) c (some ⟨gD, 0, none⟩) d := HT2.out.below ((Below.refl w2.heap.size w2).drew)
  have HT0 := Lib.hid ht0
  have hz2 := HB2.out.size
  have hq0 := Box.drew HT2.out.box
  have hx0 := Box.drew HX2.out
  clear k0 k1 k2 f0 f1 f2
  obtain ⟨r0, r1, r2, -⟩ := Box.facts3 HT2.out.box
  obtain ⟨k0, k1, k2, f0, f1, f2⟩ := Box.facts3 hq0
  obtain ⟨x00, x01, -⟩ := hx0.facts2
  have hq2 : q < w2.heap.size := HT2.out.ql
  have hw2 : w.heap.size < w2.heap.size := HX2.out.lt
  have hqw : q ≠ w.heap.size := by omega
  have hgA := own_row ht0.recs (k := gA) rfl
  have hgD := own_row ht0.digs (k := gD) rfl
  have hAq : ¬ gA = q := by omega
  have hDq : ¬ gD = q := by omega
  have hAw : ¬ gA = w.heap.size := fun e => HRA.out (by rw [← e]; rfl)
  have hDw : ¬ gD = w.heap.size := fun e => HRD.out (by rw [← e]; rfl)
  have hAD : ¬ gA = gD := fun e => rows_apart ht0.recs ht0.digs (k1 := gA) rfl (by rw [e]; rfl)
  have hDA : ¬ gD = gA := fun e => hAD e.symm
  clear ht0
  go_region_held3 (fun w' => w'.cell? ⟨q, 0, none⟩ = some (.pointer (some ⟨b, 0, none⟩)) ∧ w'.cell? ⟨q, 1, none⟩ = some (.slice (some ⟨gA, 0, none⟩) l.length c) ∧ w'.cell? ⟨q, 2, none⟩ = some (.slice (some ⟨gD, 0, none⟩) l.length d) ∧ w'.cell? ⟨w.heap.size, 0, none⟩ = some (.string key) ∧ w'.cell? ⟨w.heap.size, 1, none⟩ = some (.string val)) (first | exact ⟨k0, k1, k2, x00, x01⟩ | exact ⟨h0, h1, h2, x40, x41⟩ | exact ⟨(hq4.two hAq).1, (hq4.two hAq).2.1, (hq4.two hAq).2.2, (hx4.two2 hAw).1, (hx4.two2 hAw).2⟩ | exact ⟨((hq4.two' hAq).one hDq).1, ((hq4.two' hAq).one hDq).2.1, ((hq4.two' hAq).one hDq).2.2, ((hx4.two' hAw).one2 hDw).1, ((hx4.two' hAw).one2 hDw).2⟩) (first | (go_at_call 139; refine (HLF.out _ HT0.out.bk).mono ?_; rintro e w4 ⟨rfl, hc4, hk4⟩; have HC4 := Lib.hid hc4; have HK4 := Lib.hid hk4; have hq4 := Box.ch hq0 hc4 (Box.lt hq0) (by omega); have hx4 := hx0.ch hc4 hx0.lt (by omega); have ht4 := HT0.out.grow hc4 KN1.out hk4; obtain ⟨h0, h1, h2, h3, h4, h5⟩ := Box.facts3 hq4; obtain ⟨x40, x41, -⟩ := hx4.facts2; have a0 := rc_at0 ht4.recs hpi; have a1 := rc_at1 ht4.recs hpi; obtain ⟨s2, a2⟩ := tx_at ht4.digs hpi; have b0 := ht4.recs.frozenAt (p * 2); have b1 := ht4.recs.frozenAt (p * 2 + 1); have b2 := ht4.digs.frozenAt p; clear hc4 hk4 ht4))
  have HSET := Lib.hid (HT0.out.set (p := p) (x := ⟨key, val⟩) hpi HC4.out KN1.out HK4.out KN2.out KN3.out)
  clear a0 a1 a2 b0 b1 b2 h0 h1 h2 h3 h4 h5 x40 x41 k0 k1 k2 f0 f1 f2 x00 x01 r0 r1 r2
  go_wp2
  go_ret
  have hput := HPUT.out
  rw [if_pos (by trivial)] at hput
  rw [← hput]
  have hch : Ch w.heap.size (Tch q m (some ⟨gA, 0, none⟩) (some ⟨gD, 0, none⟩)) w w4 := ((Ch.of_below HB2.out).drew).step HC4.out hz2 (fun i hi e => .inl e)
  exact ⟨T1, _, c, _, d, rfl, KN1.out, kl, HSET.out, ((hch.setCell (p := ⟨gA, p * 2, none⟩) (.inr (.inr (.inr (.inl rfl)))) _).setCell (p := ⟨gA, p * 2 + 1, none⟩) (.inr (.inr (.inr (.inl rfl)))) _).setCell (p := ⟨gD, p, none⟩) (.inr (.inr (.inr (.inr rfl)))) _, fun k hk => .inl hk, fun k hk => .inl hk⟩
end Go.Proofs.Ytfgpchffkpomoaa
