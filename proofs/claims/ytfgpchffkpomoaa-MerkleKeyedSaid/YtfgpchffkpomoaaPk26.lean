/- Texts of this proof, several in one file; each says ahead of it what it proves. -/
import Derived.Test.YtfgpchffkpomoaaPk25
/- The proof of a key among records: the walk through merkle's Prove. -/
namespace Go.Proofs.Ytfgpchffkpomoaa
set_option linter.unusedSimpArgs false
set_option linter.unusedVariables false
open Go.RowKit

/-- What is proved of a key: the proof's count and paths, or why there is none. -/
def ProvedAs (T : List ByteArray) (l : List Rc) (key : ByteArray) (ps : List Pm) (cnt cd : Int) : Prop :=
  (riseE l = 0 → fitK key = true → cd = 0 ∧ cnt = (l.length : Int) ∧ ps.map Pm.pt = proofP (hh T) l key ∧ LeavesIn T l ∧ ∀ i ∈ shownP l key, SidesIn T (leavesH (hh T) l) i) ∧
  (riseE l = 0 → fitK key = false → cd = 14 ∧ cnt = 0 ∧ ps = []) ∧ (riseE l ≠ 0 → cd = riseE l ∧ cnt = 0 ∧ ps = [])
def MProvesPost (w0 : World) (b t m n : Nat) (T : List ByteArray) (S : List Wd) (l : List Rc) (key : ByteArray) (e : Ending) (w' : World) : Prop :=
  ∃ T' A c ps cnt cd, e = .returned (.tuple #[.agg #[.int .i64 cnt, .slice A ps.length c], .int .i64 cd]) ∧ Hid (ProvedAs T' l key ps cnt cd) ∧
    Ext T T' ∧ T'.length ≤ T.length + 20000 ∧ Ch w0.heap.size (· = m) w0 w' ∧ Bk w' b t m n T' S ∧ PmS w' A c ps ∧ NewRows w0.heap.size A ps

theorem RcS.keep {w w' : World} {A : Option Addr} {c q : Nat} {l : List Rc} (h : RcS w A c l) (hc : Ch w.heap.size (· = q) w w') (hq : 0 < l.length → ∀ k, Row A k → k ≠ q) : RcS w' A c l := by
  rcases Nat.eq_zero_or_pos l.length with h0 | h0
  · obtain rfl := List.eq_nil_of_length_eq_zero h0
    exact ⟨rfl, by simp, fun j u hj => by simp at hj⟩
  · exact h.ch hc (fun j hj hlt => ⟨hlt, hq h0 j hj⟩)
theorem PmS.ch {w w' : World} {A : Option Addr} {c B : Nat} {S : Nat → Prop} {ps : List Pm} (h : PmS w A c ps) (hc : Ch B S w w') (hA : ∀ k, Row A k → k < w.heap.size → k < B ∧ ¬ S k) (hP : ∀ x ∈ ps, ∀ k, Row x.A k → k < w.heap.size → k < B ∧ ¬ S k) : PmS w' A c ps :=
  ⟨Sl.ch h.1 hc hA, fun x hx => (h.2 x hx).ch hc (hP x hx)⟩
theorem PmS.off {w w' : World} {A : Option Addr} {c m : Nat} {ps : List Pm} (h : PmS w A c ps) (hc : Ch w.heap.size (· = m) w w') (hA : Off A ps.length m) (hP : ∀ x ∈ ps, Off x.A x.sides.length m) : PmS w' A c ps :=
  ⟨Sl.off h.1 hc hA, fun x hx => (h.2 x hx).off hc (hP x hx)⟩
theorem NewRows.mono {B B' : Nat} {A : Option Addr} {ps : List Pm} (h : NewRows B A ps) (hB : B' ≤ B) : NewRows B' A ps := ⟨fun k hk => Nat.le_trans hB (h.1 k hk), fun x hx k hk => Nat.le_trans hB (h.2.1 x hx k hk), h.2.2⟩

set_option maxHeartbeats 4000000 in
set_option maxRecDepth 100000 in
theorem mProve_calls (b t m n : Nat) (T : List ByteArray) (S : List Wd) (A : Option Addr) (c : Nat) (l : List Rc) (key : ByteArray) (w : World) (hb : Bk w b t m n T S) (hT : T.length ≤ 50000000) (hs : RcS w A c l) (hA : Off A l.length m) :
    Calls Try.prog 40 #[.pointer (some ⟨b, 0, none⟩), .slice A l.length c, .string key] w (MProvesPost w b t m n T S l key) := by
  have hlt0 := hb.all_lt
  have hbl := (Below.refl w.heap.size w).alloc (Nat.le_refl _) (.cells #[.int .i64 0, .slice none 0 0] 35)
  have HX0 := Lib.hid (Box.new w #[.int .i64 0, .slice none 0 0] 35)
  have HBL := Lib.hid hbl
  have HBK := Lib.hid (hb.alloc (.cells #[.int .i64 0, .slice none 0 0] 35))
  have HS := Lib.hid (hs.below hbl)
  have hfit := hs.fits
  have HN := Lib.hid (mNew_calls b t m n T S _ HBK.out (by omega))
  have HC := Lib.hid (fun w hs => check_errs A c l w hs)
  have HA := Lib.hid hA
  have HLT := Lib.hid hlt0
  have hml := hlt0.2.2.1
  have HROW := Lib.hid (fun h => hs.row_lt h)
  clear hb hs hA hlt0
  by_cases hr : riseE l = 0
  · have hok := rise_ok hr
    rw [hr] at HC
    have HR := Lib.hid hr
    have hl4 := hok.1
    have HSH := Lib.hid (rise_short hr)
    have HRI := Lib.hid (rise_rising hr)
    clear hok hr
    go_enter Try.func40, Try.ntmps40
    go_wp2_with fail
    refine HN.out.mono ?_
    rintro e w1 ⟨T1, q, rfl, e1, l1, ch1, k1, hq, tb1⟩
    have hz1 : w.heap.size + 1 ≤ w1.heap.size := by have := ch1.size; simpa using this
    have hq1 : w.heap.size + 1 ≤ q := by simpa using hq
    have HX1 := Lib.hid (HX0.out.ch ch1 HX0.out.lt (by omega))
    have HS1 := Lib.hid (HS.out.off ch1 HA.out)
    have HC1 := Lib.hid ((Ch.of_below (S := (· = m)) HBL.out).step ch1 (by simp) (fun _ _ e => e))
    have HK1 := Lib.hid k1
    have HT1 := Lib.hid tb1
    clear ch1 k1 tb1 hq
    go_wp2_with fail
    refine (HC.out _ HS1.out).mono ?_
    rintro e w2 ⟨rfl, hb2⟩
    have hz2 := hb2.size
    have HX2 := Lib.hid (HX1.out.ch (Ch.of_below (S := fun _ => False) hb2) HX1.out.lt (fun e => e))
    have HS2 := Lib.hid (HS1.out.below hb2)
    have HC2 := Lib.hid (HC1.out.step (Ch.of_below (S := fun _ => False) hb2) HC1.out.size (fun _ _ e => e.elim))
    have HK2 := Lib.hid (HK1.out.below hb2)
    have HT2 := Lib.hid (Box.ch HT1.out (Ch.of_below (S := fun _ => False) hb2) HT1.out.lt (fun e => e))
    clear hb2
    have HLV := Lib.hid (leaves_calls b t m n T1 S A c l w2 HK2.out (by omega) HS2.out (by omega) (fun x hx => by have := HSH.out x hx; simp only [maxLen]; omega) HA.out)
    go_wp2_with fail
    refine HLV.out.mono ?_
    rintro e w3 ⟨T2, A2, c2, rfl, e2, l2, i2, ch2, k2, o2⟩
    have hz3 := ch2.size
    have HX3 := Lib.hid (HX2.out.ch ch2 HX2.out.lt (by omega))
    have HS3 := Lib.hid (HS2.out.off ch2 HA.out)
    have HC3 := Lib.hid (HC2.out.step ch2 HC2.out.size (fun _ _ e => e))
    have HK3 := Lib.hid k2
    have HT3 := Lib.hid (Box.ch HT2.out ch2 HT2.out.lt (by omega))
    have hqlt := HT2.out.lt
    obtain ⟨x0, x1, x2, y0, y1, y2⟩ := Box.facts3 HT3.out
    have hll := leavesH_len (hh T2) l
    obtain ⟨D, hD⟩ : ∃ D, D = leavesH (hh T2) l := ⟨_, rfl⟩
    have hts : TxS w3 A2 c2 D := by
      have := Sl.of_own o2
      rw [← hD] at this
      unfold TxS
      rw [hD, hll, ← hD]
      exact this
    have hro := fun k hk => own_row o2 (k := k) hk
    have hch4 : Ch w3.heap.size (· = q) w3 ((w3.setCell ⟨q, 1, none⟩ (.slice A l.length c)).setCell ⟨q, 2, none⟩ (.slice A2 l.length c2)) := ((Ch.refl w3.heap.size (· = q) w3).setCell (p := ⟨q, 1, none⟩) (.inr rfl) _).setCell (p := ⟨q, 2, none⟩) (.inr rfl) _
    have hts4 := hts.ch hch4 (fun j hj hlt => ⟨hlt, by have := hro j hj; omega⟩)
    have hrs4 := HS3.out.keep hch4 (fun h0 j hj => by have := HROW.out h0 j hj; omega)
    have hk4 := HK3.out.ch hch4 (Nat.le_refl _) (by have := HLT.out; omega)
    have htb4 : TreeBox ((w3.setCell ⟨q, 1, none⟩ (.slice A l.length c)).setCell ⟨q, 2, none⟩ (.slice A2 l.length c2)) q b A l.length c A2 D.length c2 := by
      rw [hD, hll]
      exact Box.set (Box.set HT3.out 1 (.slice A l.length c)) 2 (.slice A2 l.length c2)
    have hx4 := (HX3.out.other (a := ⟨q, 1, none⟩) (by simp only; omega) (.slice A l.length c)).other (a := ⟨q, 2, none⟩) (by simp only; omega) (.slice A2 l.length c2)
    have hc4 := HC3.out.step hch4 HC3.out.size (fun i hi e => by omega)
    have hsz4 : ((w3.setCell ⟨q, 1, none⟩ (.slice A l.length c)).setCell ⟨q, 2, none⟩ (.slice A2 l.length c2)).heap.size = w3.heap.size := by simp [World.setCell]
    obtain ⟨w4, hw4⟩ : ∃ w4, w4 = (w3.setCell ⟨q, 1, none⟩ (.slice A l.length c)).setCell ⟨q, 2, none⟩ (.slice A2 l.length c2) := ⟨_, rfl⟩
    rw [← hw4] at hch4 hts4 hrs4 hk4 htb4 hx4 hc4 hsz4
    have hcap := own_cap o2
    have htp := tProve_calls q b t m n T2 S A c A2 c2 l D key w4 hk4 (by omega) htb4 (by omega) hrs4 hl4 hts4 hD i2 HRI.out (by rw [hD, hll]; exact hcap) HA.out (fun _ k hk => by have := hro k hk; omega)
    have HTP := Lib.hid htp
    have HX4 := Lib.hid hx4
    have HC4 := Lib.hid hc4
    have HE := Lib.hid (e1.trans e2)
    have HI2 := Lib.hid i2
    have hq4 : q < w4.heap.size := htb4.lt
    have hR4 := hx4.lt
    have HW4 := Lib.hid hw4
    clear htp hx4 hc4 hch4 hts4 hrs4 hk4 htb4 hts hD o2 hro i2 e1 e2 hw4
    go_wp2_with fail
    rw [← HW4.out]
    refine HTP.out.mono ?_
    rintro e w5 ⟨T3, A3, c3, ps, cnt, cd, rfl, hH, e3, l3, ch5, k5, p5, r5⟩
    have HX5 := Lib.hid (HX4.out.ch ch5 HX4.out.lt (by omega))
    obtain ⟨z0, z1, v0, v1⟩ := HX5.out.facts2
    clear x0 x1 x2 y0 y1 y2
    go_wp2_with fail
    have hbx := box_fill2 HX5.out (x := .int .i64 cnt) (y := .slice A3 ps.length c3)
    obtain ⟨d0, d1, _⟩ := hbx.facts2
    refine bodyPost_ret (v := .tuple #[.agg #[.int .i64 cnt, .slice A3 ps.length c3], .int .i64 cd]) (by simp [results, Try.results40, go_sem, d0, d1]) rfl ?_
    have hff := HLT.out
    have hf : w.heap.size ≠ b ∧ w.heap.size ≠ t ∧ w.heap.size ≠ m ∧ w.heap.size ≠ n := by omega
    have hc5 := HC4.out.step ch5 HC4.out.size (fun _ _ e => e)
    have hfin : Ch w5.heap.size (· = w.heap.size) w5 ((w5.setCell ⟨w.heap.size, 0, none⟩ (.int .i64 cnt)).setCell ⟨w.heap.size, 1, none⟩ (.slice A3 ps.length c3)) := ((Ch.refl w5.heap.size (· = w.heap.size) w5).setCell (p := ⟨w.heap.size, 0, none⟩) (.inr rfl) _).setCell (p := ⟨w.heap.size, 1, none⟩) (.inr rfl) _
    refine ⟨T3, A3, c3, ps, cnt, cd, rfl, ⟨fun _ hk => ?_, fun _ hk => hH.out.2 hk, fun h => absurd HR.out h⟩, HE.out.trans e3, by omega, hc5.step hfin hc5.size (fun i hi e => by omega), (k5.setCell (p := ⟨w.heap.size, 0, none⟩) hf _).setCell (p := ⟨w.heap.size, 1, none⟩) hf _, p5.ch hfin (fun j hj hlt => ⟨hlt, by have := r5.1 j hj; omega⟩) (fun x hx j hj hlt => ⟨hlt, by have := r5.2.1 x hx j hj; omega⟩), r5.mono (by omega)⟩
    obtain ⟨a1, a2, a3, a4⟩ := hH.out.1 hk
    exact ⟨a1, a2, a3, (HI2.out.ext e3).1, a4⟩
  · have HR := Lib.hid hr
    obtain ⟨cd, hcd⟩ : ∃ cd, cd = riseE l := ⟨_, rfl⟩
    rw [← hcd] at HC hr
    have HCD := Lib.hid hcd
    have hd : (cd == 0) = false := by rw [beq_eq_false_iff_ne]; exact hr
    clear hcd hr
    go_enter Try.func40, Try.ntmps40
    go_wp2_with fail
    refine HN.out.mono ?_
    rintro e w1 ⟨T1, q, rfl, e1, l1, ch1, k1, hq, tb1⟩
    have HX1 := Lib.hid (HX0.out.ch ch1 HX0.out.lt (by omega))
    have HS1 := Lib.hid (HS.out.off ch1 HA.out)
    have HC1 := Lib.hid ((Ch.of_below (S := (· = m)) HBL.out).step ch1 (by simp) (fun _ _ e => e))
    have HK1 := Lib.hid k1
    clear ch1 k1 tb1 hq
    go_wp2_with fail
    refine (HC.out _ HS1.out).mono ?_
    rintro e w2 ⟨rfl, hb2⟩
    have HX2 := Lib.hid (HX1.out.ch (Ch.of_below (S := fun _ => False) hb2) HX1.out.lt (fun e => e))
    have HC2 := Lib.hid (HC1.out.step (Ch.of_below (S := fun _ => False) hb2) HC1.out.size (fun _ _ e => e.elim))
    have HK2 := Lib.hid (HK1.out.below hb2)
    clear hb2
    obtain ⟨z0, z1, v0, v1⟩ := HX2.out.facts2
    go_wp2_with fail
    have hbx := box_fill2 HX2.out (x := .int .i64 0) (y := .slice none 0 0)
    obtain ⟨d0, d1, _⟩ := hbx.facts2
    refine bodyPost_ret (v := .tuple #[.agg #[.int .i64 0, .slice none 0 0], .int .i64 cd]) (by simp [results, Try.results40, go_sem, d0, d1]) rfl ?_
    have hff := HLT.out
    have hf : w.heap.size ≠ b ∧ w.heap.size ≠ t ∧ w.heap.size ≠ m ∧ w.heap.size ≠ n := by omega
    exact ⟨T1, none, 0, [], 0, cd, rfl, ⟨fun h => absurd h HR.out, fun h => absurd h HR.out, fun _ => ⟨HCD.out, rfl, rfl⟩⟩, e1, by omega, (HC2.out.setCell (p := ⟨w.heap.size, 0, none⟩) (.inl (Nat.le_refl _)) _).setCell (p := ⟨w.heap.size, 1, none⟩) (.inl (Nat.le_refl _)) _, (HK2.out.setCell (p := ⟨w.heap.size, 0, none⟩) hf _).setCell (p := ⟨w.heap.size, 1, none⟩) hf _, PmS.nil _, fun k hk => (by simp [Row] at hk), fun x hx => (by cases hx), fun x hx => (by cases hx)⟩
end Go.Proofs.Ytfgpchffkpomoaa
