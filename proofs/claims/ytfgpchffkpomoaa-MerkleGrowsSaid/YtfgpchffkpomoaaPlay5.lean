/- A call of a tree beside the document's records: the walk through chapter 4's play. -/
import Derived.Test.YtfgpchffkpomoaaPlay4
namespace Go.Proofs.Ytfgpchffkpomoaa
set_option linter.unusedSimpArgs false
set_option linter.unusedVariables false
open Go.RowKit

theorem at_dec {l : List Rc} {key : ByteArray} {r : Int} (hr : Rising l) (h : (r = -1 ∧ atP l key = none) ∨ ∃ (i : Nat) (x : Rc), r = (i : Int) ∧ l[i]? = some x ∧ atP l key = some x) : decide ((0 : Int) ≤ r) = isP l key := by
  rcases h with ⟨rfl, h⟩ | ⟨i, x, rfl, hx, h⟩
  · cases hi : isP l key with
    | false => rfl
    | true =>
      obtain ⟨x, hx, hk⟩ := isP_some hi
      unfold atP at h
      have := List.find?_eq_none.1 h x (List.mem_of_getElem? hx)
      exact absurd hk (by simpa using this)
  · have hxk : x.key = key := by unfold atP at h; simpa using List.find?_some h
    rw [decide_eq_true (by omega)]
    cases hi : isP l key with
    | true => rfl
    | false => exact absurd hxk (isP_none hr hi i x hx)
/-- The document's list has rows that are not the tree's. -/
def Play5Post (w0 : World) (q b t m n : Nat) (T : List ByteArray) (S : List Wd) (l : List Rc) (A D B : Option Addr) (key val : ByteArray) (e : Ending) (w' : World) : Prop :=
  ∃ v l' B' bc' T' A' c' D' d', e = .returned (.tuple #[.slice B' l'.length bc', .bool v]) ∧ Hid (v = true) ∧ Hid (l' = dropD l key ∨ l' = l ∨ (l' = putD l key val ∧ okP key val = true)) ∧ Ext T T' ∧ T'.length ≤ T.length + 1 ∧ TrS w' q b t m n T' S l' A' c' D' d' ∧ RcS w' B' bc' l' ∧ (∀ j, Row B' j → (Row B j ∨ w0.heap.size ≤ j) ∧ j < w'.heap.size ∧ ¬ Row A' j ∧ ¬ Row D' j) ∧ Ch w0.heap.size (Tch q m A D) w0 w'

set_option maxHeartbeats 4000000 in
set_option maxRecDepth 100000 in
theorem play5_calls (q b t m n : Nat) (T : List ByteArray) (S : List Wd) (l : List Rc) (A : Option Addr) (c : Nat) (D : Option Addr) (d : Nat) (B : Option Addr) (bc : Nat) (kind : Int) (key val : ByteArray) (w : World) (h : TrS w q b t m n T S l A c D d) (hb : RcS w B bc l) (hB : ∀ j, Row B j → j < w.heap.size ∧ ¬ Tch q m A D j) (hT : T.length ≤ 40000000) (hl : l.length ≤ 900) (hr : Rising l) (hk : -9223372036854775808 ≤ kind ∧ kind ≤ 9223372036854775807) (hks : key.size ≤ maxLen) :
    Calls Try.prog 82 #[.pointer (some ⟨q, 0, none⟩), .slice B l.length bc, .agg #[.int .i64 kind, .string key, .string val]] w (Play5Post w q b t m n T S l A D B key val) := by
  obtain ⟨r, hr4, HAR⟩ := round4_det kind 4 (by decide) (by decide) hk.1 hk.2
  have hA := (Below.refl w.heap.size w).alloc (Nat.le_refl _) (.cells #[.int .i64 kind, .string key, .string val] 139)
  have HA := Lib.hid hA
  have HX := Lib.hid (Box.new w #[.int .i64 kind, .string key, .string val] 139)
  have h1 := h.below hA
  have HT1 := Lib.hid h1
  have HB1 := Lib.hid (hb.below hA)
  have HBN := Lib.hid hB
  have hq := h.ql
  have hlt := h.lt
  have HRA := Lib.hid (show ∀ k, Tch q m A D k → k < w.heap.size from fun k hk => by
    rcases hk with e | e | e | e
    · omega
    · omega
    · exact (own_row h.recs e).2
    · exact (own_row h.digs e).2)
  have HR := Lib.hid hr
  have HBA := Lib.hid (show ∀ j, Row B j → ¬ Row A j ∧ ¬ Row D j from fun j hj => ⟨fun e => (hB j hj).2 (.inr (.inr (.inl e))), fun e => (hB j hj).2 (.inr (.inr (.inr e)))⟩)
  have hbl := hb.fits
  clear h h1 hA hr hb hB
  have hr4' : r = 2 ∨ r = 3 ∨ (r = 0 ∨ r = 1) := by omega
  obtain ⟨x0, x1, x2, y0, y1, y2⟩ := Box.facts3 HX.out
  rcases hr4' with rfl | rfl | h01
  · go_enter Try.func82, Try.ntmps82
    go_wp2_with fail
    refine (HAR.out _).mono ?_
    rintro e wx ⟨rfl, hwx⟩
    subst hwx
    go_wp2_with fail
    have hx0 := Box.drew HX.out
    have ht0 : TrS (w.alloc (.cells #[.int .i64 kind, .string key, .string val] 139)).drew q b t m n T S l A c D d := HT1.out.below ((Below.refl _ _).drew)
    have HT0 := Lib.hid ht0
    have hb0 : RcS (w.alloc (.cells #[.int .i64 kind, .string key, .string val] 139)).drew B bc l := HB1.out.below ((Below.refl _ _).drew)
    have HB0 := Lib.hid hb0
    clear x0 x1 x2 y0 y1 y2 ht0 hb0
    obtain ⟨x0, x1, x2, -⟩ := Box.facts3 hx0
    have HRD := Lib.hid (fun w hs => rDrop_calls B bc l key w hs (by omega))
    have HAT := Lib.hid (fun w hs => at_calls B bc l key w hs (by omega))
    have hnx : ¬ Tch q m A D w.heap.size := fun e => by have := HRA.out _ e; omega
    obtain ⟨iv, hiv⟩ : ∃ iv, iv = isP l key := ⟨_, rfl⟩
    have HTD := Lib.hid (fun w h => tDrop_calls q b t m n T S l A c D d key w h (by omega) HR.out)
    rw [← hiv] at HTD
    have HIV := Lib.hid hiv
    clear hiv
    go_region_held3 (fun w' => w'.cell? ⟨w.heap.size, 1, none⟩ = some (.string key)) (first | exact x1 | exact g1 | exact h1) (first | (go_at_call 142; refine (HRD.out _ HB0.out).mono ?_; rintro e w2 ⟨Bq, Bc, rfl, hst⟩; have HST := Lib.hid hst; have HB2 := Lib.hid hst.1; have hx2 := hx0.call hst.1; have HT2 := Lib.hid (HT0.out.below hst.1); have HR2 := Lib.hid (HB0.out.below hst.1); obtain ⟨g0, g1, g2, -⟩ := Box.facts3 hx2; clear hst) | (go_at_call 84; refine (HTD.out _ HT2.out).mono ?_; rintro e w3 ⟨rfl, ht3, ch3⟩; have HT3 := Lib.hid ht3; have HC3 := Lib.hid ch3; have HR3 := Lib.hid (HR2.out.ch ch3 (fun i hi hl => ⟨hl, (HBN.out i hi).2⟩)); have hx3 := hx2.ch ch3 hx2.lt hnx; obtain ⟨h0, h1, h2, -⟩ := Box.facts3 hx3; clear ht3 ch3) | (go_at_call 91; refine (HAT.out _ HR3.out).mono ?_; rintro e wz ⟨ra, rfl, hwz, hra⟩; obtain rfl := hwz.symm))
    all_goals
      have hdec := at_dec HR.out hra.out
      rw [← HIV.out] at hdec
      have HDEC := Lib.hid hdec
      clear hdec
      go_wp2
      go_ret2
      have hz2 : w.heap.size + 1 ≤ w2.heap.size := by have := HB2.out.size; simpa using this
      have hz3 := HC3.out.size
      have hch : Ch w.heap.size (Tch q m A D) w w2 := (Ch.of_below (((HA.out.drew)).trans (HB2.out.mono (HA.out.drew).size)))
      have hrow : ∀ j, Row Bq j → w.heap.size + 1 ≤ j ∧ j < w2.heap.size := fun j hj => by
        have := own_row HST.out.2 hj
        exact ⟨by simpa using this.1, this.2⟩
      have hnt : ∀ j, Row Bq j → ¬ Tch q m A D j := fun j hj e => by have := HRA.out _ e; have := hrow j hj; omega
      have hbq : RcS w2 Bq Bc (dropD l key) := Sl.of_own HST.out.2
      exact ⟨_, dropD l key, Bq, Bc, T, A, c, D, d, rfl, Lib.hid (by simp [HDEC.out]), Lib.hid (.inl rfl), Ext.refl _, by omega, HT3.out, hbq.ch HC3.out (fun j hj hl => ⟨hl, hnt j hj⟩), fun j hj => ⟨.inr (by have := hrow j hj; omega), by have := hrow j hj; omega, fun e => hnt j hj (.inr (.inr (.inl e))), fun e => hnt j hj (.inr (.inr (.inr e)))⟩, hch.step HC3.out hch.size (fun _ _ e => e)⟩
  · go_enter Try.func82, Try.ntmps82
    go_wp2_with fail
    refine (HAR.out _).mono ?_
    rintro e wx ⟨rfl, hwx⟩
    subst hwx
    go_wp2_with fail
    have HG := Lib.hid (tGet_calls q b t m n T S l A c D d key _ HT1.out HR.out (by omega))
    unfold GetPost at HG
    obtain ⟨iv, hiv⟩ : ∃ iv, iv = isP l key := ⟨_, rfl⟩
    rw [← hiv] at HG
    clear hiv
    refine HG.out.mono ?_
    rintro e w2 ⟨v, rfl, hv, hb2⟩
    have HB2 := Lib.hid hb2
    have HX2 := Lib.hid (Box.call HX.out hb2)
    have HT2 := Lib.hid (HT1.out.below hb2)
    have HR2 := Lib.hid (HB1.out.below hb2)
    have hz2 : w.heap.size + 1 ≤ w2.heap.size := by have := hb2.size; simpa using this
    clear hb2 x0 x1 x2 y0 y1 y2
    obtain ⟨x0, x1, x2, y0, y1, y2⟩ := Box.facts3 HX2.out
    go_wp2_with fail
    refine (truth_calls B bc l key v iv w2 HR2.out (by omega)).mono ?_
    rintro e w3 ⟨rfl, hw3⟩
    subst hw3
    go_wp2
    go_ret2
    exact ⟨_, l, B, bc, T, A, c, D, d, rfl, hv, Lib.hid (.inr (.inl rfl)), Ext.refl _, by omega, HT2.out, HR2.out, fun j hj => ⟨.inl hj, by have := (HBN.out j hj).1; omega, HBA.out j hj⟩, Ch.of_below (HA.out.trans (HB2.out.mono HA.out.size))⟩
  · go_enter Try.func82, Try.ntmps82
    go_wp2_with fail
    refine (HAR.out _).mono ?_
    rintro e wx ⟨rfl, hwx⟩
    subst hwx
    have hd2 : ((r : Int) == 2) = false := by rw [beq_eq_false_iff_ne]; omega
    have hd3 : ((r : Int) == 3) = false := by rw [beq_eq_false_iff_ne]; omega
    go_wp2_with fail
    have HP := Lib.hid (tPut_calls q b t m n T S l A c D d key val _ HT1.out (by omega) (by omega) HR.out)
    unfold PutAll at HP
    have HF := Lib.hid (fun w => rfits4_calls key w)
    have hnx : ¬ Tch q m A D w.heap.size := fun e => by have := HRA.out _ e; omega
    by_cases ho : okP key val = true
    · rw [if_pos ho, if_pos ho] at HP
      have HO := Lib.hid ho
      have hfk : fitK key = true := by unfold okP at ho; simp only [Bool.and_eq_true] at ho; exact ho.1
      have hvs : val.size ≤ 4096 := by unfold okP at ho; simp only [Bool.and_eq_true, decide_eq_true_eq] at ho; exact ho.2
      have hdv : decide ((4096 : Int) < (val.size : Int)) = false := by simp; omega
      rw [hfk] at HF
      clear ho hfk
      refine HP.out.mono ?_
      rintro e w2 ⟨T', A', c', D', d', rfl, e2, l2, ht2, ch2, ra2, rd2⟩
      have HT2 := Lib.hid ht2
      have HE2 := Lib.hid e2
      have HC2 := Lib.hid (((Ch.refl w.heap.size (Tch q m A D) w).alloc (Nat.le_refl _) (.cells #[.int .i64 kind, .string key, .string val] 139)).step ch2 (by simp) (fun _ _ e => e))
      have HX2 := Lib.hid (Box.ch HX.out ch2 HX.out.lt hnx)
      have HR2 := Lib.hid (HB1.out.ch ch2 (fun i hi hl => ⟨hl, (HBN.out i hi).2⟩))
      have hz2 := HC2.out.size
      clear ht2 e2 ch2 ra2 rd2 x0 x1 x2 y0 y1 y2
      obtain ⟨x0, x1, x2, y0, y1, y2⟩ := Box.facts3 HX2.out
      have HRP := Lib.hid (rPut_calls B bc l key val w2 HR2.out (by omega) HR.out)
      go_wp2_with fail
      refine (HF.out _).mono ?_
      rintro e w3 ⟨rfl, hw3⟩
      obtain rfl := hw3.symm
      go_wp2_with fail
      refine HRP.out.mono ?_
      rintro e w4 ⟨Bq, Bc, rfl, hst⟩
      have HST := Lib.hid hst
      have HB4 := Lib.hid hst.1
      clear hst
      go_wp2
      go_ret2
      have hz4 := HB4.out.size
      exact ⟨_, putD l key val, Bq, Bc, T', A', c', D', d', rfl, Lib.hid (by simp), Lib.hid (.inr (.inr ⟨rfl, HO.out⟩)), HE2.out, l2, HT2.out.below HB4.out, Sl.of_own HST.out.2, fun j hj => by
        have := own_row HST.out.2 hj
        exact ⟨.inr (by omega), this.2, fun e => by have := (own_row HT2.out.recs e).2; omega, fun e => by have := (own_row HT2.out.digs e).2; omega⟩, HC2.out.step (Ch.of_below (S := fun _ => False) HB4.out) hz2 (fun _ _ e => e.elim)⟩
    · rw [if_neg ho, if_neg ho] at HP
      refine HP.out.mono ?_
      rintro e w2 ⟨T', A', c', D', d', rfl, e2, l2, ht2, ch2, ra2, rd2⟩
      have HT2 := Lib.hid ht2
      have HE2 := Lib.hid e2
      have HC2 := Lib.hid (((Ch.refl w.heap.size (Tch q m A D) w).alloc (Nat.le_refl _) (.cells #[.int .i64 kind, .string key, .string val] 139)).step ch2 (by simp) (fun _ _ e => e))
      have HX2 := Lib.hid (Box.ch HX.out ch2 HX.out.lt hnx)
      have HR2 := Lib.hid (HB1.out.ch ch2 (fun i hi hl => ⟨hl, (HBN.out i hi).2⟩))
      have hz2 := HC2.out.size
      have HEND := Lib.hid (show ∀ j, Row B j → (Row B j ∨ w.heap.size ≤ j) ∧ j < w2.heap.size ∧ ¬ Row A' j ∧ ¬ Row D' j from fun j hj => by
        have h1 := (HBN.out j hj).1
        refine ⟨.inl hj, by omega, fun e => ?_, fun e => ?_⟩
        · rcases ra2 j e with e | e
          · exact (HBA.out j hj).1 e
          · have : w.heap.size + 1 ≤ j := by simpa using e
            omega
        · rcases rd2 j e with e | e
          · exact (HBA.out j hj).2 e
          · have : w.heap.size + 1 ≤ j := by simpa using e
            omega)
      clear ht2 e2 ch2 ra2 rd2 x0 x1 x2 y0 y1 y2
      obtain ⟨x0, x1, x2, y0, y1, y2⟩ := Box.facts3 HX2.out
      obtain ⟨fv, hfv⟩ : ∃ fv, fv = fitK key := ⟨_, rfl⟩
      rw [← hfv] at HF
      have hdv : fv = false ∨ (fv = true ∧ decide ((4096 : Int) < (val.size : Int)) = true) := by
        cases fv with
        | false => exact .inl rfl
        | true =>
          refine .inr ⟨rfl, ?_⟩
          unfold okP at ho
          rw [← hfv] at ho
          simp only [Bool.true_and, decide_eq_true_eq] at ho
          simp; omega
      clear hfv ho
      rcases hdv with rfl | ⟨rfl, hdv⟩
      · go_wp2_with fail
        refine (HF.out _).mono ?_
        rintro e w3 ⟨rfl, hw3⟩
        obtain rfl := hw3.symm
        go_wp2
        go_ret2
        exact ⟨_, l, B, bc, T', A', c', D', d', rfl, Lib.hid (by simp), Lib.hid (.inr (.inl rfl)), HE2.out, l2, HT2.out, HR2.out, HEND.out, HC2.out⟩
      · go_wp2_with fail
        refine (HF.out _).mono ?_
        rintro e w3 ⟨rfl, hw3⟩
        obtain rfl := hw3.symm
        go_wp2
        go_ret2
        exact ⟨_, l, B, bc, T', A', c', D', d', rfl, Lib.hid (by simp), Lib.hid (.inr (.inl rfl)), HE2.out, l2, HT2.out, HR2.out, HEND.out, HC2.out⟩
end Go.Proofs.Ytfgpchffkpomoaa
