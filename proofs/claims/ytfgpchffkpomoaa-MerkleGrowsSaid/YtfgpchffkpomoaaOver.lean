/- The document's root by a book: the walks through chapter 4's laid, leaf, over, root. -/
import Derived.Test.YtfgpchffkpomoaaPk20
import Derived.Test.YtfgpchffkpomoaaPk15
import Derived.Test.YtfgpchffkpomoaaPk02
import Derived.Test.YtfgpchffkpomoaaPk22
namespace Go.Proofs.Ytfgpchffkpomoaa
set_option linter.unusedSimpArgs false
set_option linter.unusedVariables false
open Go.RowKit

set_option maxRecDepth 100000 in
theorem laid4_calls (t : ByteArray) (w : World) (ht : t.size ≤ 1048576) : Calls Try.prog 102 #[.string t] w fun e w' => e = .returned (.string (txt t)) ∧ Below w.heap.size w w' := by
  have HL := Lib.hid (rLaid_calls t w (by omega))
  have HT := Lib.hid (txt_eq ht)
  go_enter Try.func102, Try.ntmps102
  go_wp2_with fail
  refine HL.out.mono ?_
  rintro e w1 ⟨rfl, hb⟩
  go_wp2
  go_ret
  exact ⟨by rw [HT.out]; rfl, hb⟩
set_option maxHeartbeats 1000000 in
set_option maxRecDepth 100000 in
theorem leaf4_calls (b t m n : Nat) (T : List ByteArray) (S : List Wd) (x : Rc) (w : World) (hb : Bk w b t m n T S) (hT : T.length ≤ 1000000000) (h1 : x.key.size ≤ 1048576) (h2 : x.val.size ≤ 1048576) :
    Calls Try.prog 155 #[.pointer (some ⟨b, 0, none⟩), .agg #[.string x.key, .string x.val]] w (TextPost (digS T (leafT x)).1 (· = m) (fun w' => Bk w' b t m n (digS T (leafT x)).2 S) w) := by
  obtain ⟨key, val⟩ := x
  simp only at *
  have H1 := Lib.hid (fun w => laid4_calls key w h1)
  have H2 := Lib.hid (fun w => laid4_calls val w h2)
  have s1 := txt_size key
  have s2 := txt_size val
  have HN := Lib.hid (show leafT ⟨key, val⟩ = ⟨#[76]⟩ ++ txt key ++ txt val from rfl)
  obtain ⟨y, hy⟩ : ∃ y, y = txt key := ⟨_, rfl⟩
  obtain ⟨z, hz⟩ : ∃ z, z = txt val := ⟨_, rfl⟩
  rw [← hy] at H1 HN s1
  rw [← hz] at H2 HN s2
  clear hy hz h1 h2
  have hq1 : ¬ 9223372036854775807 < 1 + y.size := by omega
  have hq2 : ¬ 9223372036854775807 < 1 + y.size + z.size := by omega
  have HD := Lib.hid (fun w hb => digest_calls b t m n T S (⟨#[76]⟩ ++ y ++ z) w hb hT (by simp only [maxLen, ByteArray.size_append, one76]; omega))
  rw [← HN.out] at HD
  have hml := hb.tm.lt
  have HB := Lib.hid (hb.alloc (.cells #[.string key, .string val] 131))
  have hst := (St.mk ((Below.refl w.heap.size w).alloc (Nat.le_refl _) _) (Box.new w #[.string key, .string val] 131)).drew
  clear hb
  go_enter Try.func155, Try.ntmps155
  go_wp2_with fail
  have hbl := (Below.refl w.heap.size w).alloc (Nat.le_refl _) (.cells #[.string key, .string val] 131)
  have hbd := hbl.drew
  have hbk := HB.out.drew
  go_region_held3 (fun w' => w'.cell? ⟨w.heap.size, 0, none⟩ = some (.string key) ∧ w'.cell? ⟨w.heap.size, 1, none⟩ = some (.string val)) (first | exact ⟨hst.x.cell 0, hst.x.cell 1⟩ | exact ⟨hx3.cell 0, hx3.cell 1⟩) (first | (go_at_call 102; (first | (with_reducible refine (H1.out _).mono ?_) | (with_reducible refine (H2.out _).mono ?_)); rintro e wn ⟨rfl, hc1⟩; have hst1 := hst.call (Nat.le_refl _) hc1; have hbk1 := hbk.below hc1; clear hc1 hst hbk; have hst := hst1; have hbk := hbk1; clear hst1 hbk1) | (go_at_call 49; rw [← HN.out]; refine (HD.out _ hbk).mono ?_; rintro e w3 ⟨rfl, hc3, hk3⟩; have hx3 := hst.x.ch hc3 hst.x.lt (by omega)))
  all_goals go_wp2
  all_goals go_ret
  all_goals exact ⟨rfl, (Ch.of_below hst.b).step hc3 hst.b.size (fun _ _ e => e), hk3⟩

def OverPost (w0 : World) (b t m n : Nat) (T : List ByteArray) (S : List Wd) (L : List Rc) (e : Ending) (w' : World) : Prop :=
  ∃ T' x, e = .returned (.string x) ∧ Hid (x = topP (hh T') (leavesH (hh T') L)) ∧ x.size ≤ 1000 ∧ Ext T T' ∧ T'.length ≤ T.length + (2 * L.length - 1) ∧ OverIn T' L ∧ Ch w0.heap.size (· = m) w0 w' ∧ Bk w' b t m n T' S
theorem leavesH_take (h : ByteArray → ByteArray) (l : List Rc) (k : Nat) : leavesH h (l.take k) = (leavesH h l).take k := by unfold leavesH; rw [List.map_take]
theorem leavesH_drop (h : ByteArray → ByteArray) (l : List Rc) (k : Nat) : leavesH h (l.drop k) = (leavesH h l).drop k := by unfold leavesH; rw [List.map_drop]
theorem leaves_size1 (T : List ByteArray) (l : List Rc) : ∀ y ∈ leavesH (hh T) l, y.size ≤ 1000 := fun y hy => by rw [leaves_size T l y hy]; omega
theorem over_join {T T1 T2 : List ByteArray} {L : List Rc} {x y : ByteArray} (hl : 1 < L.length) (e1 : Ext T T1) (e2 : Ext T1 T2) (t1 : OverIn T1 (L.take (half L.length))) (t2 : OverIn T2 (L.drop (half L.length)))
    (hx : x = topP (hh T1) (leavesH (hh T1) (L.take (half L.length)))) (hy : y = topP (hh T2) (leavesH (hh T2) (L.drop (half L.length)))) :
    (digS T2 (nodeT x y)).1 = topP (hh (digS T2 (nodeT x y)).2) (leavesH (hh (digS T2 (nodeT x y)).2) L) ∧ Ext T (digS T2 (nodeT x y)).2 ∧ OverIn (digS T2 (nodeT x y)).2 L := by
  obtain ⟨kn1, kn2, kn3⟩ := dig_known T2 (nodeT x y)
  rw [kn3]
  obtain ⟨T3, hT3⟩ : ∃ z, z = (digS T2 (nodeT x y)).2 := ⟨_, rfl⟩
  rw [← hT3] at kn1 kn2 ⊢
  obtain ⟨a1, a2⟩ := t1.ext (e2.trans kn1)
  obtain ⟨b1, b2⟩ := t2.ext kn1
  rw [← a2] at hx
  rw [← b2] at hy
  rw [leavesH_take] at hx
  rw [leavesH_drop] at hy
  have hll := leavesH_len (hh T3) L
  have hl3 : 1 < (leavesH (hh T3) L).length := by omega
  refine ⟨?_, (e1.trans e2).trans kn1, ⟨fun z hz => ?_, .more hl3 ?_ ?_ ?_⟩⟩
  · rw [topP_more hl3, hll, ← hx, ← hy]
  · rw [← List.take_append_drop (half L.length) L, List.mem_append] at hz
    rcases hz with hz | hz
    · exact a1.leaves z hz
    · exact b1.leaves z hz
  · rw [hll, ← leavesH_take]; exact a1.top
  · rw [hll, ← leavesH_drop]; exact b1.top
  · rw [hll, ← hx, ← hy]; exact kn2

set_option maxHeartbeats 4000000 in
set_option maxRecDepth 100000 in
theorem over_calls (b t m n : Nat) (S : List Wd) (A : Option Addr) (c : Nat) (l : List Rc) (hl : l.length ≤ 4096) (hok : Short l) (hA : Off A l.length m) : ∀ (N : Nat) (T : List ByteArray) (i j : Nat) (w : World), j - i = N → i ≤ j → j ≤ l.length → Bk w b t m n T S → T.length + 2 * N ≤ 1000000000 → RcS w A c l →
    Calls Try.prog 103 #[.pointer (some ⟨b, 0, none⟩), .slice A l.length c, .int .i64 i, .int .i64 j] w (OverPost w b t m n T S (seg l i j)) := by
  intro N
  induction N using Nat.strongRecOn with
  | ind N ih =>
    intro T i j w hN hij hj hb hT hs
    have IH := Lib.hid ih
    have HS := Lib.hid hs
    have HA := Lib.hid hA
    have HOK := Lib.hid hok
    have hfit := hs.fits
    have hml := hb.tm.lt
    have HB := Lib.hid hb
    have hsl := seg_len (a := i) hj
    clear ih hb hs
    rcases Nat.lt_trichotomy N 1 with h1 | h1 | h1
    · have hd0 : decide ((j : Int) ≤ (i : Int)) = true := by simp; omega
      have HE := Lib.hid (show seg l i j = [] from List.eq_nil_of_length_eq_zero (by omega))
      go_enter Try.func103, Try.ntmps103
      go_wp2
      go_ret
      refine ⟨T, ⟨#[]⟩, rfl, ?_, by simp [ByteArray.size], Ext.refl _, by omega, ⟨fun x hx => ?_, .few ?_⟩, Ch.refl _ _ _, HB.out⟩
      · rw [HE.out, show leavesH (hh T) [] = [] from rfl, topP_few (by simp)]
        rfl
      · rw [HE.out] at hx; cases hx
      · rw [HE.out]; simp [leavesH]
    · have hd0 : decide ((j : Int) ≤ (i : Int)) = false := by simp; omega
      have hwr : IntKind.i64.wrap ((j : Int) - (i : Int)) = (j : Int) - (i : Int) := wrap_small _ (by omega) (by omega)
      have hd1 : ((j : Int) - (i : Int) == 1) = true := by rw [beq_iff_eq]; omega
      have hi : i < l.length := by omega
      obtain ⟨a, rfl, e0, e1⟩ := HS.out.elem i hi
      have hshi := HOK.out _ (List.getElem_mem hi)
      have hseg : seg l i j = [l[i]] := by rw [show j = i + 1 by omega]; exact seg_one hi
      obtain ⟨x, hx⟩ : ∃ x, x = l[i] := ⟨_, rfl⟩
      rw [← hx] at e0 e1 hshi hseg
      clear hx
      obtain ⟨key, val⟩ := x
      simp only at e0 e1 hshi
      have HLF := Lib.hid (leaf4_calls b t m n T S ⟨key, val⟩ w HB.out (by omega) (by simp only; omega) (by simp only; omega))
      obtain ⟨kn1, kn2, kn3⟩ := dig_known T (leafT ⟨key, val⟩)
      have kl := digT_len T (leafT ⟨key, val⟩)
      have k8 := hh_size T (leafT ⟨key, val⟩)
      unfold hh at k8
      obtain ⟨⟨d, T1⟩, hq⟩ : ∃ q, q = digS T (leafT ⟨key, val⟩) := ⟨_, rfl⟩
      rw [← hq] at HLF kn1 kn2 kn3 kl k8
      simp only at HLF kn1 kn2 kn3 kl k8
      clear hq
      have KN1 := Lib.hid kn1
      have KN2 := Lib.hid kn2
      have KN3 := Lib.hid kn3
      have HSEG := Lib.hid hseg
      have hi0 : (0 : Int) ≤ (i : Int) := by omega
      have hi1 : (i : Int) < (l.length : Int) := by omega
      clear kn1 kn2 kn3 hseg hshi
      go_enter Try.func103, Try.ntmps103
      go_wp2_with fail
      refine HLF.out.mono ?_
      rintro e w1 ⟨rfl, ch1, k1⟩
      go_wp2
      go_ret
      refine ⟨T1, d, rfl, ?_, by omega, KN1.out, by omega, ⟨fun x hx => ?_, .few ?_⟩, ch1, k1⟩
      · rw [HSEG.out]
        show d = topP (hh T1) [hh T1 (leafT ⟨key, val⟩)]
        rw [topP_few (by simp), ← KN3.out]
        rfl
      · rw [HSEG.out] at hx
        obtain rfl := List.mem_singleton.1 hx
        exact KN2.out
      · rw [HSEG.out]; simp [leavesH]
    · have hd0 : decide ((j : Int) ≤ (i : Int)) = false := by simp; omega
      have hwr : IntKind.i64.wrap ((j : Int) - (i : Int)) = (j : Int) - (i : Int) := wrap_small _ (by omega) (by omega)
      have hd1 : ((j : Int) - (i : Int) == 1) = false := by rw [beq_eq_false_iff_ne]; omega
      have hhl := half_lt h1
      have HH := Lib.hid (fun w => rhalf_calls N w (by omega))
      rw [show ((N : Nat) : Int) = (j : Int) - (i : Int) by omega] at HH
      obtain ⟨k, hk⟩ : ∃ k, k = half N := ⟨_, rfl⟩
      rw [← hk] at HH hhl
      have HK := Lib.hid hk
      clear hk
      have hwr2 : IntKind.i64.wrap ((i : Int) + (k : Int)) = (i : Int) + (k : Int) := wrap_small _ (by omega) (by omega)
      have C1 := Lib.hid (show Calls Try.prog 103 #[.pointer (some ⟨b, 0, none⟩), .slice A l.length c, .int .i64 i, .int .i64 ((i : Int) + (k : Int))] w (OverPost w b t m n T S (seg l i (i + k))) from by
        have := IH.out k (by omega) T i (i + k) w (by omega) (by omega) (by omega) HB.out (by omega) HS.out
        rwa [show (((i + k : Nat) : Nat) : Int) = (i : Int) + (k : Int) by omega] at this)
      have C2 := Lib.hid (show ∀ w T1, Bk w b t m n T1 S → T1.length + 2 * (N - k) ≤ 1000000000 → RcS w A c l → Calls Try.prog 103 #[.pointer (some ⟨b, 0, none⟩), .slice A l.length c, .int .i64 ((i : Int) + (k : Int)), .int .i64 j] w (OverPost w b t m n T1 S (seg l (i + k) j)) from fun w T1 hb ht hs => by
        have := IH.out (N - k) (by omega) T1 (i + k) j w (by omega) (by omega) (by omega) hb (by omega) hs
        rwa [show (((i + k : Nat) : Nat) : Int) = (i : Int) + (k : Int) by omega] at this)
      have hs1 := seg_len (l := l) (a := i) (b := i + k) (by omega)
      have hs2 := seg_len (l := l) (a := i + k) hj
      go_enter Try.func103, Try.ntmps103
      go_wp2_with fail
      refine (HH.out _).mono ?_
      rintro e w0 ⟨rfl, hw⟩
      subst hw
      go_wp2_with fail
      refine C1.out.mono ?_
      rintro e w1 ⟨T1, x, rfl, hx, xs, e1, l1, i1, ch1, k1⟩
      have HC1 := Lib.hid ch1
      have HI1 := Lib.hid i1
      go_wp2_with fail
      refine (C2.out w1 T1 k1 (by omega) (HS.out.off ch1 HA.out)).mono ?_
      rintro e w2 ⟨T2, y, rfl, hy, ys, e2, l2, i2, ch2, k2⟩
      have HC2 := Lib.hid (HC1.out.step ch2 ch1.size (fun _ _ e => e))
      have hz2 := HC2.out.size
      have H1 := Lib.hid (fun w => laid4_calls x w (by omega))
      have H2 := Lib.hid (fun w => laid4_calls y w (by omega))
      have s1 := txt_size x
      have s2 := txt_size y
      have HN2 := Lib.hid (show nodeT x y = ⟨#[78]⟩ ++ txt x ++ txt y from rfl)
      have hkk := HK.out
      have hst : (seg l i j).take (half (seg l i j).length) = seg l i (i + k) := by rw [hsl, hN, ← hkk]; exact seg_take (by omega)
      have hsd : (seg l i j).drop (half (seg l i j).length) = seg l (i + k) j := by rw [hsl, hN, ← hkk]; exact seg_drop
      obtain ⟨j1, j2, j3⟩ := over_join (L := seg l i j) (x := x) (y := y) (by omega) e1 e2 (by rw [hst]; exact i1) (by rw [hsd]; exact i2) (by rw [hst]; exact hx.out) (by rw [hsd]; exact hy.out)
      have hdl := digT_len T2 (nodeT x y)
      have k8 := hh_size T2 (nodeT x y)
      unfold hh at k8
      have HD := Lib.hid (fun w hb => digest_calls b t m n T2 S (nodeT x y) w hb (by omega) (by rw [HN2.out]; simp only [maxLen, ByteArray.size_append, one78]; omega))
      have J1 := Lib.hid j1
      have J2 := Lib.hid j2
      have J3 := Lib.hid j3
      obtain ⟨⟨g, T3⟩, hq⟩ : ∃ q, q = digS T2 (nodeT x y) := ⟨_, rfl⟩
      rw [← hq] at HD J1 J2 J3 hdl k8
      simp only at hdl k8
      obtain ⟨X, hX⟩ : ∃ X, X = txt x := ⟨_, rfl⟩
      obtain ⟨Y, hY⟩ : ∃ Y, Y = txt y := ⟨_, rfl⟩
      rw [← hX] at H1 HN2 s1
      rw [← hY] at H2 HN2 s2
      have HK2 := Lib.hid k2
      clear hX hY hq j1 j2 j3 hst hsd hkk ch1 ch2 k1 k2 i1 i2 hx hy
      go_wp2_with fail
      refine (H1.out _).mono ?_
      rintro e w3 ⟨rfl, hb3⟩
      go_wp2_with fail
      refine (H2.out _).mono ?_
      rintro e w4 ⟨rfl, hb4⟩
      go_wp2_with fail
      rw [← HN2.out]
      refine (HD.out _ ((HK2.out.below hb3).below hb4)).mono ?_
      rintro e w5 ⟨rfl, ch5, k5⟩
      go_wp2
      go_ret
      have hz3 := hb3.size
      have hz4 := hb4.size
      exact ⟨T3, g, rfl, J1.out, by omega, J2.out, by omega, J3.out, ((HC2.out.step (Ch.of_below (S := fun _ => False) hb3) hz2 (fun _ _ e => e.elim)).step (Ch.of_below (S := fun _ => False) hb4) (by omega) (fun _ _ e => e.elim)).step ch5 (by omega) (fun _ _ e => e), k5⟩

def Root4Post (w0 : World) (b t m n : Nat) (T : List ByteArray) (S : List Wd) (l : List Rc) (e : Ending) (w' : World) : Prop :=
  ∃ T' x, e = .returned (.string x) ∧ Hid (x = rootP (hh T') l ∧ RootIn T' l) ∧ Ext T T' ∧ T'.length ≤ T.length + 10000 ∧ Ch w0.heap.size (· = m) w0 w' ∧ Bk w' b t m n T' S
set_option maxHeartbeats 2000000 in
set_option maxRecDepth 100000 in
theorem root4_calls (b t m n : Nat) (T : List ByteArray) (S : List Wd) (A : Option Addr) (c : Nat) (l : List Rc) (w : World) (hb : Bk w b t m n T S) (hT : T.length ≤ 500000000) (hs : RcS w A c l) (hl : l.length ≤ 4096) (hok : Short l) (hA : Off A l.length m) :
    Calls Try.prog 38 #[.pointer (some ⟨b, 0, none⟩), .slice A l.length c] w (Root4Post w b t m n T S l) := by
  have HNU := Lib.hid (fun w => rNumber_calls (l.length : Nat) w (by omega) (by omega))
  rw [Int.toNat_natCast] at HNU
  have hnl := putNum_len 8 l.length (by omega)
  have HOV := Lib.hid (fun w hb hs => over_calls b t m n S A c l hl hok hA l.length T 0 l.length w (by omega) (by omega) (by omega) hb (by omega) hs)
  rw [seg_all, show ((0 : Nat) : Int) = 0 from rfl] at HOV
  have HS := Lib.hid hs
  have HB := Lib.hid hb
  have hfit := hs.fits
  obtain ⟨nv, hnv⟩ : ∃ nv, nv = bs (putNum l.length) := ⟨_, rfl⟩
  rw [← hnv] at HNU
  have hns : nv.size ≤ 9 := by rw [hnv, bs_size]; exact hnl
  have HNV := Lib.hid hnv
  clear hb hs hok hA hnv
  go_enter Try.func38, Try.ntmps38
  go_wp2_with fail
  refine (HNU.out _).mono ?_
  rintro e w1 ⟨rfl, hb1⟩
  go_wp2_with fail
  refine (HOV.out _ (HB.out.below hb1) (HS.out.below hb1)).mono ?_
  rintro e w2 ⟨T2, x, rfl, hx, xs, e2, l2, i2, ch2, k2⟩
  have hz1 := hb1.size
  have HC2 := Lib.hid ((Ch.of_below (S := (· = m)) hb1).step ch2 hz1 (fun _ _ e => e))
  have hz2 := HC2.out.size
  have H1 := Lib.hid (fun w => laid4_calls x w (by omega))
  have s1 := txt_size x
  have hpi : (putInt (l.length : Int)).1 = nv := by
    rw [HNV.out]
    unfold putInt
    rw [if_pos (by omega)]
    simp
  have HN2 := Lib.hid (show rootT l.length x = ⟨#[82]⟩ ++ nv ++ txt x by unfold rootT; rw [hpi])
  obtain ⟨j1, j2, j3⟩ := root_join (T2 := T2) (T3 := T2) (l := l) (x := x) i2.leaves (Ext.refl _) i2.top hx.out
  have hdl := digT_len T2 (rootT l.length x)
  have HD := Lib.hid (fun w hb => digest_calls b t m n T2 S (rootT l.length x) w hb (by omega) (by rw [HN2.out]; simp only [maxLen, ByteArray.size_append, one82]; omega))
  have J1 := Lib.hid j1
  have J2 := Lib.hid j2
  have J3 := Lib.hid (e2.trans j3)
  obtain ⟨⟨g, T3⟩, hq⟩ : ∃ q, q = digS T2 (rootT l.length x) := ⟨_, rfl⟩
  rw [← hq] at HD J1 J2 J3 hdl
  simp only at hdl
  obtain ⟨X, hX⟩ : ∃ X, X = txt x := ⟨_, rfl⟩
  rw [← hX] at H1 HN2 s1
  have HK2 := Lib.hid k2
  clear hX hq j1 j2 j3 ch2 k2 i2 hx hpi
  go_wp2_with fail
  refine (H1.out _).mono ?_
  rintro e w3 ⟨rfl, hb3⟩
  go_wp2_with fail
  rw [← HN2.out]
  refine (HD.out _ (HK2.out.below hb3)).mono ?_
  rintro e w5 ⟨rfl, ch5, k5⟩
  go_wp2
  go_ret
  have hz3 := hb3.size
  exact ⟨T3, g, rfl, ⟨J1.out, J2.out⟩, J3.out, by omega, (HC2.out.step (Ch.of_below (S := fun _ => False) hb3) hz2 (fun _ _ e => e.elim)).step ch5 (by omega) (fun _ _ e => e), k5⟩
end Go.Proofs.Ytfgpchffkpomoaa
