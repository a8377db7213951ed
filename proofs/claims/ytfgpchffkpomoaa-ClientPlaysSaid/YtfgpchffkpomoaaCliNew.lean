/- A client is made, or not: the walks through Fits and New. -/
import Derived.Test.YtfgpchffkpomoaaCli
import Derived.Test.YtfgpchffkpomoaaPk16
namespace Go.Proofs.Ytfgpchffkpomoaa
set_option linter.unusedSimpArgs false
set_option linter.unusedVariables false
open Go.RowKit

def fitsC (F C G P : Int) : Bool := decide (1 ≤ F) && (decide (F ≤ 4) && (decide (1 ≤ C) && (decide (C ≤ 16) && (decide (1 ≤ G) && (decide (G ≤ 4) && (decide (1 ≤ P) && decide (P ≤ 64)))))))
set_option maxHeartbeats 4000000 in
set_option maxRecDepth 100000 in
theorem cfits_calls (F C G P : Int) (w : World) :
    Calls Try.prog 130 #[.agg #[.int .i64 F, .int .i64 C, .int .i64 G, .int .i64 P]] w (BoolPost (fitsC F C G P) w) := by
  have HX := Lib.hid (Box.new w #[.int .i64 F, .int .i64 C, .int .i64 G, .int .i64 P] 104)
  obtain ⟨k0, k1, k2, k3, -⟩ := Box.facts4 HX.out
  have HA := Lib.hid ((Below.refl w.heap.size w).alloc (Nat.le_refl _) (.cells #[.int .i64 F, .int .i64 C, .int .i64 G, .int .i64 P] 104))
  have HF := Lib.hid (show fitsC F C G P = (decide (1 ≤ F) && (decide (F ≤ 4) && (decide (1 ≤ C) && (decide (C ≤ 16) && (decide (1 ≤ G) && (decide (G ≤ 4) && (decide (1 ≤ P) && decide (P ≤ 64)))))))) from rfl)
  obtain ⟨d1, h1⟩ : ∃ d, d = decide (1 ≤ F) := ⟨_, rfl⟩
  obtain ⟨d2, h2⟩ : ∃ d, d = decide (F ≤ 4) := ⟨_, rfl⟩
  obtain ⟨d3, h3⟩ : ∃ d, d = decide (1 ≤ C) := ⟨_, rfl⟩
  obtain ⟨d4, h4⟩ : ∃ d, d = decide (C ≤ 16) := ⟨_, rfl⟩
  obtain ⟨d5, h5⟩ : ∃ d, d = decide (1 ≤ G) := ⟨_, rfl⟩
  obtain ⟨d6, h6⟩ : ∃ d, d = decide (G ≤ 4) := ⟨_, rfl⟩
  obtain ⟨d7, h7⟩ : ∃ d, d = decide (1 ≤ P) := ⟨_, rfl⟩
  obtain ⟨d8, h8⟩ : ∃ d, d = decide (P ≤ 64) := ⟨_, rfl⟩
  rw [← h1, ← h2, ← h3, ← h4, ← h5, ← h6, ← h7, ← h8] at HF
  have g1 := h1.symm
  have g2 := h2.symm
  have g3 := h3.symm
  have g4 := h4.symm
  have g5 := h5.symm
  have g6 := h6.symm
  have g7 := h7.symm
  have g8 := h8.symm
  clear h1 h2 h3 h4 h5 h6 h7 h8
  cases d1
  case' true => cases d2
  case' true.true => cases d3
  case' true.true.true => cases d4
  case' true.true.true.true => cases d5
  case' true.true.true.true.true => cases d6
  case' true.true.true.true.true.true => cases d7
  case' true.true.true.true.true.true.true => cases d8
  all_goals
    go_enter Try.func130, Try.ntmps130
    go_wp2
    go_ret
    rw [HF.out]
    exact ⟨rfl, HA.out⟩

def NewCl (F C G P id : Int) : Cl := ⟨F, C, G, P, id, 0, ⟨#[]⟩, false, 0, [], []⟩
/-- A client, or an error; the book has seen one text more. -/
def CNewPost (w0 : World) (b t m n : Nat) (T : List ByteArray) (S : List Wd) (ok : Bool) (F C G P id : Int) (e : Ending) (w' : World) : Prop :=
  ∃ T', Ext T T' ∧ T'.length ≤ T.length + 1 ∧ Ch w0.heap.size (· = m) w0 w' ∧
    ((ok = true ∧ ∃ x g, e = .returned (.tuple #[.pointer (some ⟨x, 0, none⟩), .int .i64 0]) ∧ w0.heap.size ≤ x ∧ w0.heap.size ≤ g ∧ CS w' x g w'.heap.size b t m n T' S (NewCl F C G P id) none 0) ∨
     (ok = false ∧ e = .returned (.tuple #[.pointer none, .int .i64 1]) ∧ Bk w' b t m n T' S))
set_option maxHeartbeats 4000000 in
set_option maxRecDepth 100000 in
theorem cnew_calls (F C G P id : Int) (b t m n : Nat) (T : List ByteArray) (S : List Wd) (w : World) (hb : Bk w b t m n T S) (hT : T.length ≤ 100000000) :
    Calls Try.prog 66 #[.agg #[.int .i64 F, .int .i64 C, .int .i64 G, .int .i64 P], .int .i64 id, .pointer (some ⟨b, 0, none⟩)] w (CNewPost w b t m n T S (fitsC F C G P && (decide (0 ≤ id) && decide (id < C))) F C G P id) := by
  have hmm := @run_makeMap Try.prog
  have hA := (Below.refl w.heap.size w).alloc (Nat.le_refl _) (.cells #[.int .i64 F, .int .i64 C, .int .i64 G, .int .i64 P] 104)
  have HX := Lib.hid (Box.new w #[.int .i64 F, .int .i64 C, .int .i64 G, .int .i64 P] 104)
  have HA := Lib.hid hA
  have HB := Lib.hid (hb.below hA)
  have HF := Lib.hid (fun w => cfits_calls F C G P w)
  obtain ⟨k0, k1, k2, k3, -⟩ := Box.facts4 HX.out
  obtain ⟨fc, hfc⟩ : ∃ d, d = fitsC F C G P := ⟨_, rfl⟩
  rw [← hfc] at HF ⊢
  have hml := hb.tm.lt
  clear hA hb hfc
  go_enter Try.func66, Try.ntmps66
  go_wp2_with fail
  refine (HF.out _).mono ?_
  rintro e w1 ⟨rfl, hb1⟩
  have HX1 := Lib.hid (Box.call HX.out hb1)
  have HB1 := Lib.hid (HB.out.below hb1)
  have HA1 := Lib.hid (HA.out.trans (hb1.mono HA.out.size))
  clear k0 k1 k2 k3 hb1
  obtain ⟨k0, k1, k2, k3, -⟩ := Box.facts4 HX1.out
  cases fc with
  | false =>
    go_wp2
    go_ret2
    exact ⟨T, Ext.refl _, by omega, Ch.of_below HA1.out, .inr ⟨rfl, rfl, HB1.out⟩⟩
  | true =>
    by_cases h0 : id < 0
    · have hd0 : decide (id < 0) = true := by simpa using h0
      have hd1 : decide (0 ≤ id) = false := by simpa using h0
      go_wp2
      go_ret2
      exact ⟨T, Ext.refl _, by omega, Ch.of_below HA1.out, .inr ⟨by rw [hd1]; rfl, rfl, HB1.out⟩⟩
    · have hd0 : decide (id < 0) = false := by simpa using h0
      have hd1 : decide (0 ≤ id) = true := by simpa using h0
      by_cases h1 : C ≤ id
      · have hd2 : decide (C ≤ id) = true := by simpa using h1
        have hd3 : decide (id < C) = false := by simpa using h1
        go_wp2
        go_ret2
        exact ⟨T, Ext.refl _, by omega, Ch.of_below HA1.out, .inr ⟨by rw [hd3]; simp, rfl, HB1.out⟩⟩
      · have hd2 : decide (C ≤ id) = false := by simpa using h1
        have hd3 : decide (id < C) = true := by simpa using h1
        rw [hd1, hd3]
        have hmw : ¬ w.heap.size = m := by omega
        have HD := Lib.hid (digest_calls b t m n T S ⟨#[]⟩ w1 HB1.out (by omega) (by simp [ByteArray.size, maxLen]))
        have hsz := hh_size T ⟨#[]⟩
        have hdl := digT_len T ⟨#[]⟩
        have hke := (dig_known T ⟨#[]⟩).1
        unfold hh at hsz
        obtain ⟨⟨gg, T1⟩, hg⟩ : ∃ q, q = digS T ⟨#[]⟩ := ⟨_, rfl⟩
        rw [← hg] at HD hsz hdl hke
        simp only at HD hsz hdl hke
        have hne : gg.toList.isEmpty = false := by have := has_text gg; rw [decide_eq_true (by omega)] at this; simpa using this
        have HKE := Lib.hid hke
        clear hg hke hd1 hd3 h0 h1
        go_wp2_with fail
        refine HD.out.mono ?_
        rintro e w2 ⟨rfl, hc2, hk2⟩
        have HC2 := Lib.hid ((Ch.of_below (S := (· = m)) HA1.out).step hc2 HA1.out.size (fun _ _ e => e))
        have HK2 := Lib.hid hk2
        have HX2 := Lib.hid (Box.ch HX1.out hc2 HX1.out.lt hmw)
        have hz2 := HC2.out.size
        clear hc2 hk2 k0 k1 k2 k3
        obtain ⟨k0, k1, k2, k3, -⟩ := Box.facts4 HX2.out
        go_wp2
        go_ret2
        have hlt : b < w2.heap.size ∧ t < w2.heap.size ∧ m < w2.heap.size ∧ n < w2.heap.size := ⟨HK2.out.lt.1, HK2.out.lt.2, HK2.out.tm.lt, HK2.out.wm.lt⟩
        refine ⟨T1, HKE.out, hdl, (HC2.out.alloc hz2 _).alloc (by simp; omega) _, .inl ⟨by simp at hd0 hd2; simp; omega, w2.heap.size + 1, w2.heap.size, rfl, by omega, hz2, ?_⟩⟩
        have hbx := Box.new (w2.alloc (.map #[] 0)) ((NewCl F C G P id).cells b w2.heap.size none 0) 209
        simp only [World.size_alloc] at hbx
        refine ⟨(HK2.out.alloc _).alloc _, hbx, (ToldS.new w2).alloc _, ⟨rfl, .inl ⟨rfl, rfl⟩⟩, ?_, ?_⟩
        · simp only [World.size_alloc]; omega
        · omega
end Go.Proofs.Ytfgpchffkpomoaa
