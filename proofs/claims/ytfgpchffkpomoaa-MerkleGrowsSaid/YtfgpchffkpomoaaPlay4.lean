/- A call of a tree beside no records: the walk through chapter 4's play. -/
import Derived.Test.YtfgpchffkpomoaaTreeQ
import Derived.Test.YtfgpchffkpomoaaTreeR
import Derived.Test.YtfgpchffkpomoaaTreeD
import Derived.Test.YtfgpchffkpomoaaRDrop
import Derived.Test.YtfgpchffkpomoaaPk28
import Derived.Test.YtfgpchffkpomoaaRowAct4
import Derived.Test.YtfgpchffkpomoaaAround4
namespace Go.Proofs.Ytfgpchffkpomoaa
set_option linter.unusedSimpArgs false
set_option linter.unusedVariables false
open Go.RowKit

/-- Put, whatever the key and the value. -/
def PutAll (w0 : World) (q b t m n : Nat) (T : List ByteArray) (S : List Wd) (l : List Rc) (A D : Option Addr) (key val : ByteArray) (e : Ending) (w' : World) : Prop :=
  PutPost w0 q b t m n T S (if okP key val = true then putD l key val else l) A D (if okP key val = true then 0 else 14) e w'
theorem tPut_calls (q b t m n : Nat) (T : List ByteArray) (S : List Wd) (l : List Rc) (A : Option Addr) (c : Nat) (D : Option Addr) (d : Nat) (key val : ByteArray) (w : World) (h : TrS w q b t m n T S l A c D d) (hT : T.length ≤ 50000000) (hl : l.length ≤ 1000) (hr : Rising l) :
    Calls Try.prog 80 #[.pointer (some ⟨q, 0, none⟩), .string key, .string val] w (PutAll w q b t m n T S l A D key val) := by
  unfold PutAll
  cases ho : okP key val with
  | false =>
    refine (tPut_no q b t m n T S l A c D d key val w h ho).mono ?_
    rintro e w' ⟨rfl, rfl⟩
    exact ⟨T, A, c, D, d, rfl, Ext.refl _, by omega, h, Ch.refl _ _ _, fun k hk => .inl hk, fun k hk => .inl hk⟩
  | true =>
    cases hi : isP l key with
    | true => exact tPut_old q b t m n T S l A c D d key val w h hT hl hr ho hi
    | false => exact tPut_new q b t m n T S l A c D d key val w h hT hl hr ho hi
def PlayPost (w0 : World) (q b t m n : Nat) (T : List ByteArray) (S : List Wd) (l : List Rc) (A D : Option Addr) (key val : ByteArray) (e : Ending) (w' : World) : Prop :=
  ∃ v l' T' A' c' D' d', e = .returned v ∧ Hid (l' = dropD l key ∨ l' = l ∨ (l' = putD l key val ∧ okP key val = true)) ∧ Ext T T' ∧ T'.length ≤ T.length + 1 ∧ TrS w' q b t m n T' S l' A' c' D' d' ∧ Ch w0.heap.size (Tch q m A D) w0 w'
theorem RcS.nil (w : World) : RcS w none 0 [] := ⟨rfl, by simp, fun j u hj => by simp at hj⟩

set_option maxHeartbeats 4000000 in
set_option maxRecDepth 100000 in
theorem playNil_calls (q b t m n : Nat) (T : List ByteArray) (S : List Wd) (l : List Rc) (A : Option Addr) (c : Nat) (D : Option Addr) (d : Nat) (kind : Int) (key val : ByteArray) (w : World) (h : TrS w q b t m n T S l A c D d) (hT : T.length ≤ 40000000) (hl : l.length ≤ 900) (hr : Rising l) (hk : -9223372036854775808 ≤ kind ∧ kind ≤ 9223372036854775807) (hks : key.size ≤ maxLen) :
    Calls Try.prog 82 #[.pointer (some ⟨q, 0, none⟩), .slice none 0 0, .agg #[.int .i64 kind, .string key, .string val]] w (PlayPost w q b t m n T S l A D key val) := by
  obtain ⟨r, hr4, HAR⟩ := round4_det kind 4 (by decide) (by decide) hk.1 hk.2
  have hA := (Below.refl w.heap.size w).alloc (Nat.le_refl _) (.cells #[.int .i64 kind, .string key, .string val] 139)
  have HA := Lib.hid hA
  have HX := Lib.hid (Box.new w #[.int .i64 kind, .string key, .string val] 139)
  have h1 := h.below hA
  have HT1 := Lib.hid h1
  have hq := h.ql
  have hlt := h.lt
  have HRA := Lib.hid (show ∀ k, Tch q m A D k → k < w.heap.size from fun k hk => by
    rcases hk with e | e | e | e
    · omega
    · omega
    · exact (own_row h.recs e).2
    · exact (own_row h.digs e).2)
  have HR := Lib.hid hr
  clear h h1 hA hr
  have hr4' : r = 2 ∨ r = 3 ∨ (r = 0 ∨ r = 1) := by omega
  obtain ⟨x0, x1, x2, y0, y1, y2⟩ := Box.facts3 HX.out
  rcases hr4' with rfl | rfl | h01
  · go_enter Try.func82, Try.ntmps82
    go_wp2_with fail
    refine (HAR.out _).mono ?_
    rintro e wx ⟨rfl, hwx⟩
    subst hwx
    go_wp2_with fail
    have hx0 := Box.drew HX.out
    have ht0 : TrS (w.alloc (.cells #[.int .i64 kind, .string key, .string val] 139)).drew q b t m n T S l A c D d := HT1.out.below ((Below.refl _ _).drew)
    have HT0 := Lib.hid ht0
    clear x0 x1 x2 y0 y1 y2 ht0
    obtain ⟨x0, x1, x2, -⟩ := Box.facts3 hx0
    have HRD := Lib.hid (fun w => rDrop_calls none 0 [] key w (RcS.nil w) (by simp))
    have HAT := Lib.hid (fun w => at_calls none 0 [] key w (RcS.nil w) (by simp))
    have hnx : ¬ Tch q m A D w.heap.size := fun e => by have := HRA.out _ e; omega
    obtain ⟨iv, hiv⟩ : ∃ iv, iv = isP l key := ⟨_, rfl⟩
    have HTD := Lib.hid (fun w h => tDrop_calls q b t m n T S l A c D d key w h (by omega) HR.out)
    rw [← hiv] at HTD
    clear hiv
    go_region_held3 (fun w' => w'.cell? ⟨w.heap.size, 1, none⟩ = some (.string key)) (first | exact x1 | exact g1 | exact h1) (first | (go_at_call 142; refine (HRD.out _).mono ?_; rintro e w2 ⟨Bq, Bc, rfl, hst⟩; have HB2 := Lib.hid hst.1; have hx2 := hx0.call hst.1; have HT2 := Lib.hid (HT0.out.below hst.1); obtain ⟨g0, g1, g2, -⟩ := Box.facts3 hx2; clear hst) | (go_at_call 84; refine (HTD.out _ HT2.out).mono ?_; rintro e w3 ⟨rfl, ht3, ch3⟩; have HT3 := Lib.hid ht3; have HC3 := Lib.hid ch3; have hx3 := hx2.ch ch3 hx2.lt hnx; obtain ⟨h0, h1, h2, -⟩ := Box.facts3 hx3; clear ht3 ch3) | (go_at_call 91; refine (HAT.out _).mono ?_; rintro e wz ⟨ra, rfl, hwz, -⟩; obtain rfl := hwz.symm))
    all_goals
      go_wp2
      go_ret2
      have hch : Ch w.heap.size (Tch q m A D) w w2 := (Ch.of_below (((HA.out.drew)).trans (HB2.out.mono (HA.out.drew).size)))
      exact ⟨_, dropD l key, T, A, c, D, d, rfl, .inl rfl, Ext.refl _, by omega, HT3.out, hch.step HC3.out hch.size (fun _ _ e => e)⟩
  · go_enter Try.func82, Try.ntmps82
    go_wp2_with fail
    refine (HAR.out _).mono ?_
    rintro e wx ⟨rfl, hwx⟩
    subst hwx
    go_wp2_with fail
    have HG := Lib.hid (tGet_calls q b t m n T S l A c D d key _ HT1.out HR.out (by omega))
    unfold GetPost at HG
    obtain ⟨iv, hiv⟩ : ∃ iv, iv = isP l key := ⟨_, rfl⟩
    rw [← hiv] at HG
    clear hiv
    refine HG.out.mono ?_
    rintro e w2 ⟨v, rfl, hv, hb2⟩
    have HB2 := Lib.hid hb2
    have HX2 := Lib.hid (Box.call HX.out hb2)
    have HT2 := Lib.hid (HT1.out.below hb2)
    clear hb2 hv x0 x1 x2 y0 y1 y2
    obtain ⟨x0, x1, x2, y0, y1, y2⟩ := Box.facts3 HX2.out
    go_wp2_with fail
    refine (truth_calls none 0 [] key v iv w2 (RcS.nil _) (by simp)).mono ?_
    rintro e w3 ⟨rfl, hw3⟩
    subst hw3
    go_wp2
    go_ret2
    exact ⟨_, l, T, A, c, D, d, rfl, .inr (.inl rfl), Ext.refl _, by omega, HT2.out, Ch.of_below (HA.out.trans (HB2.out.mono HA.out.size))⟩
  · go_enter Try.func82, Try.ntmps82
    go_wp2_with fail
    refine (HAR.out _).mono ?_
    rintro e wx ⟨rfl, hwx⟩
    subst hwx
    have hd2 : ((r : Int) == 2) = false := by rw [beq_eq_false_iff_ne]; omega
    have hd3 : ((r : Int) == 3) = false := by rw [beq_eq_false_iff_ne]; omega
    go_wp2_with fail
    have HP := Lib.hid (tPut_calls q b t m n T S l A c D d key val _ HT1.out (by omega) (by omega) HR.out)
    unfold PutAll at HP
    have HL := Lib.hid (show (if okP key val = true then putD l key val else l) = dropD l key ∨ (if okP key val = true then putD l key val else l) = l ∨ ((if okP key val = true then putD l key val else l) = putD l key val ∧ okP key val = true) by
      by_cases ho : okP key val = true
      · rw [if_pos ho]; exact .inr (.inr ⟨rfl, ho⟩)
      · rw [if_neg ho]; exact .inr (.inl rfl))
    obtain ⟨l', hl'⟩ : ∃ l', l' = (if okP key val = true then putD l key val else l) := ⟨_, rfl⟩
    obtain ⟨cd, hcd⟩ : ∃ cd : Int, cd = (if okP key val = true then 0 else 14) := ⟨_, rfl⟩
    rw [← hl', ← hcd] at HP
    rw [← hl'] at HL
    have hnx : ¬ Tch q m A D w.heap.size := fun e => by have := HRA.out _ e; omega
    clear hl' hcd
    refine HP.out.mono ?_
    rintro e w2 ⟨T', A', c', D', d', rfl, e2, l2, ht2, ch2, -, -⟩
    have HT2 := Lib.hid ht2
    have HE2 := Lib.hid e2
    have HC2 := Lib.hid (((Ch.refl w.heap.size (Tch q m A D) w).alloc (Nat.le_refl _) (.cells #[.int .i64 kind, .string key, .string val] 139)).step ch2 (by simp) (fun _ _ e => e))
    have HX2 := Lib.hid (Box.ch HX.out ch2 HX.out.lt hnx)
    have hz2 := HC2.out.size
    clear ht2 e2 ch2 x0 x1 x2 y0 y1 y2
    obtain ⟨x0, x1, x2, y0, y1, y2⟩ := Box.facts3 HX2.out
    have HF := Lib.hid (fun w => rfits4_calls key w)
    have HRP := Lib.hid (fun w => rPut_calls none 0 [] key val w (RcS.nil w) (by simp) Rising.nil)
    obtain ⟨fv, hfv⟩ : ∃ fv, fv = fitK key := ⟨_, rfl⟩
    rw [← hfv] at HF
    clear hfv
    cases fv with
    | false =>
      go_wp2_with fail
      refine (HF.out _).mono ?_
      rintro e w3 ⟨rfl, hw3⟩
      obtain rfl := hw3.symm
      go_wp2
      go_ret2
      exact ⟨_, l', T', A', c', D', d', rfl, HL.out, HE2.out, l2, HT2.out, HC2.out⟩
    | true =>
      by_cases hvs : 4096 < val.size
      · have hdv : decide ((4096 : Int) < (val.size : Int)) = true := by simp; omega
        go_wp2_with fail
        refine (HF.out _).mono ?_
        rintro e w3 ⟨rfl, hw3⟩
        obtain rfl := hw3.symm
        go_wp2
        go_ret2
        exact ⟨_, l', T', A', c', D', d', rfl, HL.out, HE2.out, l2, HT2.out, HC2.out⟩
      · have hdv : decide ((4096 : Int) < (val.size : Int)) = false := by simp; omega
        go_wp2_with fail
        refine (HF.out _).mono ?_
        rintro e w3 ⟨rfl, hw3⟩
        obtain rfl := hw3.symm
        go_wp2_with fail
        refine (HRP.out _).mono ?_
        rintro e w4 ⟨Bq, Bc, rfl, hst⟩
        have HB4 := Lib.hid hst.1
        clear hst
        go_wp2
        go_ret2
        exact ⟨_, l', T', A', c', D', d', rfl, HL.out, HE2.out, l2, HT2.out.below HB4.out, HC2.out.step (Ch.of_below (S := fun _ => False) HB4.out) hz2 (fun _ _ e => e.elim)⟩
end Go.Proofs.Ytfgpchffkpomoaa
