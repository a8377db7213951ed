/- A call of both books: the walk through step. -/
import Derived.Test.YtfgpchffkpomoaaRefBook
import Derived.Test.YtfgpchffkpomoaaRound
namespace Go.Proofs.Ytfgpchffkpomoaa
set_option linter.unusedSimpArgs false
set_option linter.unusedVariables false
open Go.RowKit

theorem Bk.under {w w' : World} {b t m n B : Nat} {T : List ByteArray} {S : List Wd} (h : Bk w b t m n T S) (hc : Below B w w') (h1 : b < B) (h2 : t < B) (h3 : m < B) (h4 : n < B) : Bk w' b t m n T S :=
  have hc' : Ch B (fun _ => False) w w' := Ch.of_below hc
  ⟨(hc'.cell (p := ⟨b, 0, none⟩) h1 (fun h => h)).trans h.book, (hc'.cell (p := ⟨t, 0, none⟩) h2 (fun h => h)).trans h.texts, (hc'.cell (p := ⟨t, 1, none⟩) h2 (fun h => h)).trans h.words,
    h.tm.ch hc' h3 (fun h => h), h.wm.ch hc' h4 (fun h => h), ⟨Nat.lt_of_lt_of_le h.lt.1 hc.size, Nat.lt_of_lt_of_le h.lt.2 hc.size⟩, h.ne⟩
theorem RBk.drew {w : World} {b base : Nat} {T : List ByteArray} {S : List Wd} (h : RBk w b base T S) : RBk w.drew b base T S := ⟨h.lt, h.le, h.rows⟩

/-- Two books: what stands in both. -/
structure PL (B : Nat) (w0 w : World) (bb t m n rb base : Nat) (T : List ByteArray) (S : List Wd) (T2 : List ByteArray) (S2 : List Wd) : Prop where
  b : Below B w0 w
  k : Bk w bb t m n T S
  r : RBk w rb base T2 S2
  lo : B ≤ m ∧ B ≤ n ∧ B ≤ rb ∧ B ≤ w0.heap.size
  hi : bb < rb ∧ t < rb ∧ m < rb ∧ n < rb
namespace PL
variable {B : Nat} {w0 w w' : World} {bb t m n rb base : Nat} {T T2 T' : List ByteArray} {S S2 S' : List Wd}
theorem below (h : PL B w0 w bb t m n rb base T S T2 S2) (hb : Below w.heap.size w w') : PL B w0 w' bb t m n rb base T S T2 S2 :=
  ⟨h.b.trans (hb.mono (Nat.le_trans h.lo.2.2.2 h.b.size)), h.k.below hb, h.r.below hb, h.lo, h.hi⟩
theorem drew (h : PL B w0 w bb t m n rb base T S T2 S2) : PL B w0 w.drew bb t m n rb base T S T2 S2 := ⟨h.b.drew, h.k.drew, h.r.drew, h.lo, h.hi⟩
theorem alloc (h : PL B w0 w bb t m n rb base T S T2 S2) (o : Obj) : PL B w0 (w.alloc o) bb t m n rb base T S T2 S2 := h.below ((Below.refl _ _).alloc (Nat.le_refl _) _)
theorem atBook (h : PL B w0 w bb t m n rb base T S T2 S2) {x : Nat} (hc : Ch w.heap.size (· = x) w w') (hx : x = m ∨ x = n) (hk : Bk w' bb t m n T' S') : PL B w0 w' bb t m n rb base T' S' T2 S2 := by
  have h1 := h.lo
  have h2 := h.hi
  exact ⟨below_ch h.b hc (by omega) (Nat.le_trans h.lo.2.2.2 h.b.size), hk, h.r.ch hc (by omega), h.lo, h.hi⟩
theorem atRef (h : PL B w0 w bb t m n rb base T S T2 S2) (hb : Below rb w w') (hr : RBk w' rb base T' S') : PL B w0 w' bb t m n rb base T S T' S' :=
  ⟨h.b.trans (hb.mono h.lo.2.2.1), h.k.under hb h.hi.1 h.hi.2.1 h.hi.2.2.1 h.hi.2.2.2, hr, h.lo, h.hi⟩
end PL
/-- What a call of both leaves. -/
def StepPost (B : Nat) (w0 : World) (bb t m n rb base : Nat) (T : List ByteArray) (S : List Wd) (e : Ending) (w' : World) : Prop :=
  e = .returned (.bool true) ∧ ∃ T' S', PL B w0 w' bb t m n rb base T' S' T' S' ∧ T'.length ≤ T.length + 1 ∧ S'.length ≤ S.length + 1
theorem digS_len (T : List ByteArray) (s : ByteArray) : (digS T s).2.length ≤ T.length + 1 := by
  unfold digS
  split <;> simp
theorem signS_len (S : List Wd) (x : Wd) : (signS S x).2.length ≤ S.length + 1 := by
  unfold signS
  split <;> simp
theorem at_isSome (S : List Wd) (x : Wd) : decide (0 ≤ atE S x) = (place x S).isSome := by
  unfold atE
  cases place x S with
  | some i => simp
  | none => rfl

set_option maxHeartbeats 2000000 in
set_option maxRecDepth 100000 in
theorem step0_calls (B bb t m n rb base : Nat) (T : List ByteArray) (S : List Wd) (x : Act3) (w0 w : World) (hp : PL B w0 w bb t m n rb base T S T S) (hT : T.length ≤ 100000) (hS : S.length ≤ 100000) (hs : x.text.size ≤ maxLen) (hkind : rnd x.kind 4 = 0) :
    Calls Try.prog 60 #[.pointer (some ⟨bb, 0, none⟩), .pointer (some ⟨rb, 0, none⟩), .agg #[.int .i64 x.kind, .int .i64 x.who, .string x.text, .string x.sig]] w (StepPost B w0 bb t m n rb base T S) := by
  obtain ⟨kind, who, text, sig⟩ := x
  simp only at *
  have HR := Lib.hid (fun w => round3_calls kind 4 w (by decide) (by decide))
  rw [hkind] at HR
  clear hkind
  have HX := Lib.hid (Box.new w #[.int .i64 kind, .int .i64 who, .string text, .string sig] 85)
  obtain ⟨e0, e1, e2, e3, g0, g1, g2, g3⟩ := HX.out.facts4
  have HP := Lib.hid (hp.alloc (.cells #[.int .i64 kind, .int .i64 who, .string text, .string sig] 85))
  obtain ⟨lo1, lo2, lo3, lo4⟩ := hp.lo
  obtain ⟨hi1, hi2, hi3, hi4⟩ := hp.hi
  have hrb : rb < w.heap.size := by have := hp.r.lt; have := hp.r.le; omega
  clear hp
  obtain ⟨W, hW⟩ : ∃ W, W = w.alloc (.cells #[.int .i64 kind, .int .i64 who, .string text, .string sig] 85) := ⟨_, rfl⟩
  rw [← hW] at HX HP e0 e1 e2 e3 g0 g1 g2 g3
  have HWW := Lib.hid hW
  clear hW
  rcases Int.lt_or_le who 0 with h0 | h0
  · have h0n : ¬ 0 ≤ who := by omega
    have hnn : namedB who = false := by unfold namedB; simp; omega
    have HNN := Lib.hid hnn
    clear hnn
    go_enter Try.func60, Try.ntmps60
    go_wp2_with fail
    rw [← HWW.out]
    refine (HR.out _).mono ?_
    rintro e w1 ⟨rfl, rfl⟩
    have HD := Lib.hid (fun w hb => digest_calls bb t m n T S text w hb (by omega) hs)
    have HE := Lib.hid (fun w hr => rDigest_calls rb base T S text w hr (by omega))
    have HL := Lib.hid (digS_len T text)
    obtain ⟨⟨g, T1⟩, hg⟩ : ∃ q, q = digS T text := ⟨_, rfl⟩
    rw [← hg] at HD HE HL
    clear hg
    simp only at HD HE HL
    have hq : (g.toList == g.toList) = true := by simp
    go_wp2_with fail
    go_region_held3 (fun w' => w'.cell? ⟨w.heap.size, 2, none⟩ = some (.string text)) (first | exact f2 | exact e2) (first | (go_at_call 49; refine (HD.out _ HP.out.k.drew).mono ?_; rintro e w5 ⟨rfl, hc5, hk5⟩; have HP5 := Lib.hid (HP.out.drew.atBook hc5 (.inl rfl) hk5); have HX5 := Lib.hid (Box.ch HX.out.drew hc5 HX.out.lt (by omega)); obtain ⟨f0, f1, f2, f3, _⟩ := HX5.out.facts4; clear hc5 hk5) | (go_at_call 121; refine (HE.out _ HP5.out.r).mono ?_; rintro e w6 ⟨rfl, hb6, hr6, ho6⟩; have HP6 := Lib.hid (HP5.out.atRef hb6 hr6); obtain ⟨f0, f1, f2, f3, _⟩ := (ho6 _ _ _ HX5.out (by omega) (by decide) (by decide)).facts4; clear hb6 hr6 ho6))
    go_wp2_with fail
    go_ret
    exact ⟨rfl, T1, S, HP6.out, HL.out, by omega⟩
  · by_cases h1 : who ≤ 255
    · have hnn : namedB who = true := by unfold namedB; simp; omega
      have HNN := Lib.hid hnn
      clear hnn
      go_enter Try.func60, Try.ntmps60
      go_wp2_with fail
      rw [← HWW.out]
      refine (HR.out _).mono ?_
      rintro e w1 ⟨rfl, rfl⟩
      have HD := Lib.hid (fun w hb => digest_calls bb t m n T S text w hb (by omega) hs)
      have HE := Lib.hid (fun w hr => rDigest_calls rb base T S text w hr (by omega))
      have HL := Lib.hid (digS_len T text)
      obtain ⟨⟨g, T1⟩, hg⟩ : ∃ q, q = digS T text := ⟨_, rfl⟩
      rw [← hg] at HD HE HL
      clear hg
      simp only at HD HE HL
      have hq : (g.toList == g.toList) = true := by simp
      go_wp2_with fail
      go_region_held3 (fun w' => w'.cell? ⟨w.heap.size, 2, none⟩ = some (.string text)) (first | exact f2 | exact e2) (first | (go_at_call 49; refine (HD.out _ HP.out.k.drew).mono ?_; rintro e w5 ⟨rfl, hc5, hk5⟩; have HP5 := Lib.hid (HP.out.drew.atBook hc5 (.inl rfl) hk5); have HX5 := Lib.hid (Box.ch HX.out.drew hc5 HX.out.lt (by omega)); obtain ⟨f0, f1, f2, f3, _⟩ := HX5.out.facts4; clear hc5 hk5) | (go_at_call 121; refine (HE.out _ HP5.out.r).mono ?_; rintro e w6 ⟨rfl, hb6, hr6, ho6⟩; have HP6 := Lib.hid (HP5.out.atRef hb6 hr6); obtain ⟨f0, f1, f2, f3, _⟩ := (ho6 _ _ _ HX5.out (by omega) (by decide) (by decide)).facts4; clear hb6 hr6 ho6))
      go_wp2_with fail
      go_ret
      exact ⟨rfl, T1, S, HP6.out, HL.out, by omega⟩
    · have hnn : namedB who = false := by unfold namedB; simp; omega
      have HNN := Lib.hid hnn
      clear hnn
      go_enter Try.func60, Try.ntmps60
      go_wp2_with fail
      rw [← HWW.out]
      refine (HR.out _).mono ?_
      rintro e w1 ⟨rfl, rfl⟩
      have HD := Lib.hid (fun w hb => digest_calls bb t m n T S text w hb (by omega) hs)
      have HE := Lib.hid (fun w hr => rDigest_calls rb base T S text w hr (by omega))
      have HL := Lib.hid (digS_len T text)
      obtain ⟨⟨g, T1⟩, hg⟩ : ∃ q, q = digS T text := ⟨_, rfl⟩
      rw [← hg] at HD HE HL
      clear hg
      simp only at HD HE HL
      have hq : (g.toList == g.toList) = true := by simp
      go_wp2_with fail
      go_region_held3 (fun w' => w'.cell? ⟨w.heap.size, 2, none⟩ = some (.string text)) (first | exact f2 | exact e2) (first | (go_at_call 49; refine (HD.out _ HP.out.k.drew).mono ?_; rintro e w5 ⟨rfl, hc5, hk5⟩; have HP5 := Lib.hid (HP.out.drew.atBook hc5 (.inl rfl) hk5); have HX5 := Lib.hid (Box.ch HX.out.drew hc5 HX.out.lt (by omega)); obtain ⟨f0, f1, f2, f3, _⟩ := HX5.out.facts4; clear hc5 hk5) | (go_at_call 121; refine (HE.out _ HP5.out.r).mono ?_; rintro e w6 ⟨rfl, hb6, hr6, ho6⟩; have HP6 := Lib.hid (HP5.out.atRef hb6 hr6); obtain ⟨f0, f1, f2, f3, _⟩ := (ho6 _ _ _ HX5.out (by omega) (by decide) (by decide)).facts4; clear hb6 hr6 ho6))
      go_wp2_with fail
      go_ret
      exact ⟨rfl, T1, S, HP6.out, HL.out, by omega⟩

set_option maxHeartbeats 2000000 in
set_option maxRecDepth 100000 in
theorem step1_calls (B bb t m n rb base : Nat) (T : List ByteArray) (S : List Wd) (x : Act3) (w0 w : World) (hp : PL B w0 w bb t m n rb base T S T S) (hT : T.length ≤ 100000) (hS : S.length ≤ 100000) (hs : x.text.size ≤ maxLen) (hkind : rnd x.kind 4 = 1) :
    Calls Try.prog 60 #[.pointer (some ⟨bb, 0, none⟩), .pointer (some ⟨rb, 0, none⟩), .agg #[.int .i64 x.kind, .int .i64 x.who, .string x.text, .string x.sig]] w (StepPost B w0 bb t m n rb base T S) := by
  obtain ⟨kind, who, text, sig⟩ := x
  simp only at *
  have HR := Lib.hid (fun w => round3_calls kind 4 w (by decide) (by decide))
  rw [hkind] at HR
  clear hkind
  have HX := Lib.hid (Box.new w #[.int .i64 kind, .int .i64 who, .string text, .string sig] 85)
  obtain ⟨e0, e1, e2, e3, g0, g1, g2, g3⟩ := HX.out.facts4
  have HP := Lib.hid (hp.alloc (.cells #[.int .i64 kind, .int .i64 who, .string text, .string sig] 85))
  obtain ⟨lo1, lo2, lo3, lo4⟩ := hp.lo
  obtain ⟨hi1, hi2, hi3, hi4⟩ := hp.hi
  have hrb : rb < w.heap.size := by have := hp.r.lt; have := hp.r.le; omega
  clear hp
  obtain ⟨W, hW⟩ : ∃ W, W = w.alloc (.cells #[.int .i64 kind, .int .i64 who, .string text, .string sig] 85) := ⟨_, rfl⟩
  rw [← hW] at HX HP e0 e1 e2 e3 g0 g1 g2 g3
  have HWW := Lib.hid hW
  clear hW
  rcases Int.lt_or_le who 0 with h0 | h0
  · have h0n : ¬ 0 ≤ who := by omega
    have hnn : namedB who = false := by unfold namedB; simp; omega
    have HNN := Lib.hid hnn
    clear hnn
    go_enter Try.func60, Try.ntmps60
    go_wp2_with fail
    rw [← HWW.out]
    refine (HR.out _).mono ?_
    rintro e w1 ⟨rfl, rfl⟩
    have HD := Lib.hid (fun w hb => sign_calls bb t m n T S who text w hb (by omega) hs)
    have hse : signE S who text = ((⟨#[]⟩, 1), S) := by unfold signE; rw [if_neg (by omega)]
    rw [hse] at HD
    clear hse
    simp only at HD
    go_wp2_with fail
    refine (HD.out _ HP.out.k).mono ?_; rintro e w5 ⟨rfl, hc5, hk5⟩; have HP5 := Lib.hid (HP.out.atBook hc5 (.inr rfl) hk5); have HX5 := Lib.hid (HX.out.ch hc5 HX.out.lt (by omega)); clear hc5 hk5 e0 e1 e2 e3 g0 g1 g2 g3; obtain ⟨e0, e1, e2, e3, g0, g1, g2, g3⟩ := HX5.out.facts4
    go_wp2_with fail
    go_ret
    exact ⟨rfl, T, S, HP5.out, by omega, by omega⟩
  · by_cases h1 : who ≤ 255
    · have hnn : namedB who = true := by unfold namedB; simp; omega
      have HNN := Lib.hid hnn
      clear hnn
      go_enter Try.func60, Try.ntmps60
      go_wp2_with fail
      rw [← HWW.out]
      refine (HR.out _).mono ?_
      rintro e w1 ⟨rfl, rfl⟩
      have HD := Lib.hid (fun w hb => sign_calls bb t m n T S who text w hb (by omega) hs)
      have HE := Lib.hid (fun w hr => rSign_calls rb base T S who text w hr (by omega))
      have HL := Lib.hid (signS_len S (who, text))
      have hse : signE S who text = (((signS S (who, text)).1, 0), (signS S (who, text)).2) := by unfold signE; rw [if_pos ⟨h0, h1⟩]
      rw [hse] at HD
      clear hse
      obtain ⟨⟨g, S1⟩, hg⟩ : ∃ q, q = signS S (who, text) := ⟨_, rfl⟩
      rw [← hg] at HD HE HL
      clear hg
      simp only at HD HE HL
      have hq : (g.toList == g.toList) = true := by simp
      go_wp2_with fail
      refine (HD.out _ HP.out.k).mono ?_; rintro e w5 ⟨rfl, hc5, hk5⟩; have HP5 := Lib.hid (HP.out.atBook hc5 (.inr rfl) hk5); have HX5 := Lib.hid (HX.out.ch hc5 HX.out.lt (by omega)); clear hc5 hk5 e0 e1 e2 e3 g0 g1 g2 g3; obtain ⟨e0, e1, e2, e3, g0, g1, g2, g3⟩ := HX5.out.facts4
      go_wp2_with fail
      refine (HE.out _ HP5.out.r).mono ?_
      rintro e w6 ⟨rfl, hb6, hr6, _⟩
      have HP6 := Lib.hid (HP5.out.atRef hb6 hr6)
      clear hb6 hr6
      go_wp2
      go_ret
      exact ⟨rfl, T, S1, HP6.out, by omega, HL.out⟩
    · have hnn : namedB who = false := by unfold namedB; simp; omega
      have HNN := Lib.hid hnn
      clear hnn
      go_enter Try.func60, Try.ntmps60
      go_wp2_with fail
      rw [← HWW.out]
      refine (HR.out _).mono ?_
      rintro e w1 ⟨rfl, rfl⟩
      have HD := Lib.hid (fun w hb => sign_calls bb t m n T S who text w hb (by omega) hs)
      have hse : signE S who text = ((⟨#[]⟩, 1), S) := by unfold signE; rw [if_neg (by omega)]
      rw [hse] at HD
      clear hse
      simp only at HD
      go_wp2_with fail
      refine (HD.out _ HP.out.k).mono ?_; rintro e w5 ⟨rfl, hc5, hk5⟩; have HP5 := Lib.hid (HP.out.atBook hc5 (.inr rfl) hk5); have HX5 := Lib.hid (HX.out.ch hc5 HX.out.lt (by omega)); clear hc5 hk5 e0 e1 e2 e3 g0 g1 g2 g3; obtain ⟨e0, e1, e2, e3, g0, g1, g2, g3⟩ := HX5.out.facts4
      go_wp2_with fail
      go_ret
      exact ⟨rfl, T, S, HP5.out, by omega, by omega⟩

set_option maxHeartbeats 2000000 in
set_option maxRecDepth 100000 in
theorem step2_calls (B bb t m n rb base : Nat) (T : List ByteArray) (S : List Wd) (x : Act3) (w0 w : World) (hp : PL B w0 w bb t m n rb base T S T S) (hT : T.length ≤ 100000) (hS : S.length ≤ 100000) (hs : x.text.size ≤ maxLen) (hkind : rnd x.kind 4 = 2) :
    Calls Try.prog 60 #[.pointer (some ⟨bb, 0, none⟩), .pointer (some ⟨rb, 0, none⟩), .agg #[.int .i64 x.kind, .int .i64 x.who, .string x.text, .string x.sig]] w (StepPost B w0 bb t m n rb base T S) := by
  obtain ⟨kind, who, text, sig⟩ := x
  simp only at *
  have HR := Lib.hid (fun w => round3_calls kind 4 w (by decide) (by decide))
  rw [hkind] at HR
  clear hkind
  have HX := Lib.hid (Box.new w #[.int .i64 kind, .int .i64 who, .string text, .string sig] 85)
  obtain ⟨e0, e1, e2, e3, g0, g1, g2, g3⟩ := HX.out.facts4
  have HP := Lib.hid (hp.alloc (.cells #[.int .i64 kind, .int .i64 who, .string text, .string sig] 85))
  obtain ⟨lo1, lo2, lo3, lo4⟩ := hp.lo
  obtain ⟨hi1, hi2, hi3, hi4⟩ := hp.hi
  have hrb : rb < w.heap.size := by have := hp.r.lt; have := hp.r.le; omega
  clear hp
  obtain ⟨W, hW⟩ : ∃ W, W = w.alloc (.cells #[.int .i64 kind, .int .i64 who, .string text, .string sig] 85) := ⟨_, rfl⟩
  rw [← hW] at HX HP e0 e1 e2 e3 g0 g1 g2 g3
  have HWW := Lib.hid hW
  clear hW
  rcases Int.lt_or_le who 0 with h0 | h0
  · have h0n : ¬ 0 ≤ who := by omega
    have hnn : namedB who = false := by unfold namedB; simp; omega
    have HNN := Lib.hid hnn
    clear hnn
    go_enter Try.func60, Try.ntmps60
    go_wp2_with fail
    rw [← HWW.out]
    refine (HR.out _).mono ?_
    rintro e w1 ⟨rfl, rfl⟩
    have HA := Lib.hid (fun w hr => rAt_calls rb base T S who text w hr (by omega))
    by_cases hsg : sig.toList.isEmpty = true
    · cases hpl : place (who, text) S with
      | some i =>
        have hi : i < S.length := place_lt hpl
        have hat : atE S (who, text) = (i : Int) := by unfold atE; rw [hpl]
        rw [hat] at HA
        clear hat hpl
        have HD := Lib.hid (fun w hb => check_calls bb t m n T S who text (sigOf i) w hb (by omega) hs)
        have hce : checkE S who text (sigOf i) = false := by unfold checkE; rw [decide_eq_false (by omega)]; rfl
        rw [hce] at HD
        clear hce
        have HEI := Lib.hid (show ∀ w, Calls Try.prog 124 #[.int .i64 ((i : Int) + 1)] w (fun e w' => e = .returned (.string (eight (i + 1))) ∧ Below w.heap.size w w') from fun w => rEight_calls (i + 1) w (by omega))
        have hsz : (eight (i + 1)).size = 8 := eight_size _
        go_wp2_with fail
        refine (HA.out _ HP.out.r).mono ?_
        rintro e w4 ⟨rfl, rfl⟩
        go_wp2_with fail
        refine (HEI.out _).mono ?_
        rintro e w3 ⟨rfl, hb3⟩
        have HP3 := Lib.hid (HP.out.below hb3)
        have HX3 := Lib.hid (HX.out.call hb3)
        clear hb3 HP HX e0 e1 e2 e3 g0 g1 g2 g3
        have HP := HP3
        have HX := HX3
        clear HP3 HX3
        obtain ⟨e0, e1, e2, e3, g0, g1, g2, g3⟩ := HX.out.facts4
        go_wp2_with fail
        refine (HD.out _ HP.out.k).mono ?_
        rintro e w5 ⟨rfl, hb5⟩
        have HP5 := Lib.hid (HP.out.below hb5)
        have HX5 := Lib.hid (HX.out.call hb5)
        clear hb5 e0 e1 e2 e3 g0 g1 g2 g3
        obtain ⟨e0, e1, e2, e3, g0, g1, g2, g3⟩ := HX5.out.facts4
        go_wp2_with fail
        go_ret
        exact ⟨rfl, T, S, HP5.out, by omega, by omega⟩
      | none =>
        have hat : atE S (who, text) = -1 := by unfold atE; rw [hpl]
        rw [hat] at HA
        clear hat hpl
        have HD := Lib.hid (fun w hb => check_calls bb t m n T S who text sig w hb (by omega) hs)
        have hce : checkE S who text sig = false := by unfold checkE; rw [decide_eq_false (by omega)]; rfl
        rw [hce] at HD
        clear hce
        go_wp2_with fail
        refine (HA.out _ HP.out.r).mono ?_
        rintro e w4 ⟨rfl, rfl⟩
        go_wp2_with fail
        refine (HD.out _ HP.out.k).mono ?_
        rintro e w5 ⟨rfl, hb5⟩
        have HP5 := Lib.hid (HP.out.below hb5)
        have HX5 := Lib.hid (HX.out.call hb5)
        clear hb5 e0 e1 e2 e3 g0 g1 g2 g3
        obtain ⟨e0, e1, e2, e3, g0, g1, g2, g3⟩ := HX5.out.facts4
        go_wp2_with fail
        go_ret
        exact ⟨rfl, T, S, HP5.out, by omega, by omega⟩
    · have hsg2 : sig.toList.isEmpty = false := by simpa using hsg
      clear hsg
      obtain ⟨z, hz⟩ : ∃ z, z = atE S (who, text) := ⟨_, rfl⟩
      rw [← hz] at HA
      clear hz
      have HD := Lib.hid (fun w hb => check_calls bb t m n T S who text sig w hb (by omega) hs)
      have hce : checkE S who text sig = false := by unfold checkE; rw [decide_eq_false (by omega)]; rfl
      rw [hce] at HD
      clear hce
      go_wp2_with fail
      refine (HA.out _ HP.out.r).mono ?_
      rintro e w4 ⟨rfl, rfl⟩
      go_wp2_with fail
      refine (HD.out _ HP.out.k).mono ?_
      rintro e w5 ⟨rfl, hb5⟩
      have HP5 := Lib.hid (HP.out.below hb5)
      have HX5 := Lib.hid (HX.out.call hb5)
      clear hb5 e0 e1 e2 e3 g0 g1 g2 g3
      obtain ⟨e0, e1, e2, e3, g0, g1, g2, g3⟩ := HX5.out.facts4
      go_wp2_with fail
      go_ret
      exact ⟨rfl, T, S, HP5.out, by omega, by omega⟩
  · by_cases h1 : who ≤ 255
    · have hnn : namedB who = true := by unfold namedB; simp; omega
      have HNN := Lib.hid hnn
      clear hnn
      go_enter Try.func60, Try.ntmps60
      go_wp2_with fail
      rw [← HWW.out]
      refine (HR.out _).mono ?_
      rintro e w1 ⟨rfl, rfl⟩
      have HA := Lib.hid (fun w hr => rAt_calls rb base T S who text w hr (by omega))
      by_cases hsg : sig.toList.isEmpty = true
      · cases hpl : place (who, text) S with
        | some i =>
          have hi : i < S.length := place_lt hpl
          have hat : atE S (who, text) = (i : Int) := by unfold atE; rw [hpl]
          rw [hat] at HA
          clear hat hpl
          have HD := Lib.hid (fun w hb => check_calls bb t m n T S who text (sigOf i) w hb (by omega) hs)
          have HE := Lib.hid (fun w hr => rCheck_calls rb base T S who text (sigOf i) w hr (by omega))
          have hce : checkE S who text (sigOf i) = checkS S (who, text) (sigOf i) := by unfold checkE; rw [decide_eq_true ⟨h0, h1⟩]; rfl
          rw [hce] at HD
          clear hce
          obtain ⟨q, hq⟩ : ∃ q, q = checkS S (who, text) (sigOf i) := ⟨_, rfl⟩
          rw [← hq] at HD HE
          clear hq
          have HEI := Lib.hid (show ∀ w, Calls Try.prog 124 #[.int .i64 ((i : Int) + 1)] w (fun e w' => e = .returned (.string (eight (i + 1))) ∧ Below w.heap.size w w') from fun w => rEight_calls (i + 1) w (by omega))
          have hsz : (eight (i + 1)).size = 8 := eight_size _
          go_wp2_with fail
          refine (HA.out _ HP.out.r).mono ?_
          rintro e w4 ⟨rfl, rfl⟩
          go_wp2_with fail
          refine (HEI.out _).mono ?_
          rintro e w3 ⟨rfl, hb3⟩
          have HP3 := Lib.hid (HP.out.below hb3)
          have HX3 := Lib.hid (HX.out.call hb3)
          clear hb3 HP HX e0 e1 e2 e3 g0 g1 g2 g3
          have HP := HP3
          have HX := HX3
          clear HP3 HX3
          obtain ⟨e0, e1, e2, e3, g0, g1, g2, g3⟩ := HX.out.facts4
          go_wp2_with fail
          refine (HD.out _ HP.out.k).mono ?_
          rintro e w5 ⟨rfl, hb5⟩
          have HP5 := Lib.hid (HP.out.below hb5)
          have HX5 := Lib.hid (HX.out.call hb5)
          clear hb5 e0 e1 e2 e3 g0 g1 g2 g3
          obtain ⟨e0, e1, e2, e3, g0, g1, g2, g3⟩ := HX5.out.facts4
          go_wp2_with fail
          refine (HE.out _ HP5.out.r).mono ?_
          rintro e w6 ⟨rfl, hb6⟩
          have HP6 := Lib.hid (HP5.out.below hb6)
          clear hb6
          go_wp2
          go_ret
          exact ⟨ret_bool (by simp), T, S, HP6.out, by omega, by omega⟩
        | none =>
          have hat : atE S (who, text) = -1 := by unfold atE; rw [hpl]
          rw [hat] at HA
          clear hat hpl
          have HD := Lib.hid (fun w hb => check_calls bb t m n T S who text sig w hb (by omega) hs)
          have HE := Lib.hid (fun w hr => rCheck_calls rb base T S who text sig w hr (by omega))
          have hce : checkE S who text sig = checkS S (who, text) sig := by unfold checkE; rw [decide_eq_true ⟨h0, h1⟩]; rfl
          rw [hce] at HD
          clear hce
          obtain ⟨q, hq⟩ : ∃ q, q = checkS S (who, text) sig := ⟨_, rfl⟩
          rw [← hq] at HD HE
          clear hq
          go_wp2_with fail
          refine (HA.out _ HP.out.r).mono ?_
          rintro e w4 ⟨rfl, rfl⟩
          go_wp2_with fail
          refine (HD.out _ HP.out.k).mono ?_
          rintro e w5 ⟨rfl, hb5⟩
          have HP5 := Lib.hid (HP.out.below hb5)
          have HX5 := Lib.hid (HX.out.call hb5)
          clear hb5 e0 e1 e2 e3 g0 g1 g2 g3
          obtain ⟨e0, e1, e2, e3, g0, g1, g2, g3⟩ := HX5.out.facts4
          go_wp2_with fail
          refine (HE.out _ HP5.out.r).mono ?_
          rintro e w6 ⟨rfl, hb6⟩
          have HP6 := Lib.hid (HP5.out.below hb6)
          clear hb6
          go_wp2
          go_ret
          exact ⟨ret_bool (by simp), T, S, HP6.out, by omega, by omega⟩
      · have hsg2 : sig.toList.isEmpty = false := by simpa using hsg
        clear hsg
        obtain ⟨z, hz⟩ : ∃ z, z = atE S (who, text) := ⟨_, rfl⟩
        rw [← hz] at HA
        clear hz
        have HD := Lib.hid (fun w hb => check_calls bb t m n T S who text sig w hb (by omega) hs)
        have HE := Lib.hid (fun w hr => rCheck_calls rb base T S who text sig w hr (by omega))
        have hce : checkE S who text sig = checkS S (who, text) sig := by unfold checkE; rw [decide_eq_true ⟨h0, h1⟩]; rfl
        rw [hce] at HD
        clear hce
        obtain ⟨q, hq⟩ : ∃ q, q = checkS S (who, text) sig := ⟨_, rfl⟩
        rw [← hq] at HD HE
        clear hq
        go_wp2_with fail
        refine (HA.out _ HP.out.r).mono ?_
        rintro e w4 ⟨rfl, rfl⟩
        go_wp2_with fail
        refine (HD.out _ HP.out.k).mono ?_
        rintro e w5 ⟨rfl, hb5⟩
        have HP5 := Lib.hid (HP.out.below hb5)
        have HX5 := Lib.hid (HX.out.call hb5)
        clear hb5 e0 e1 e2 e3 g0 g1 g2 g3
        obtain ⟨e0, e1, e2, e3, g0, g1, g2, g3⟩ := HX5.out.facts4
        go_wp2_with fail
        refine (HE.out _ HP5.out.r).mono ?_
        rintro e w6 ⟨rfl, hb6⟩
        have HP6 := Lib.hid (HP5.out.below hb6)
        clear hb6
        go_wp2
        go_ret
        exact ⟨ret_bool (by simp), T, S, HP6.out, by omega, by omega⟩
    · have hnn : namedB who = false := by unfold namedB; simp; omega
      have HNN := Lib.hid hnn
      clear hnn
      go_enter Try.func60, Try.ntmps60
      go_wp2_with fail
      rw [← HWW.out]
      refine (HR.out _).mono ?_
      rintro e w1 ⟨rfl, rfl⟩
      have HA := Lib.hid (fun w hr => rAt_calls rb base T S who text w hr (by omega))
      by_cases hsg : sig.toList.isEmpty = true
      · cases hpl : place (who, text) S with
        | some i =>
          have hi : i < S.length := place_lt hpl
          have hat : atE S (who, text) = (i : Int) := by unfold atE; rw [hpl]
          rw [hat] at HA
          clear hat hpl
          have HD := Lib.hid (fun w hb => check_calls bb t m n T S who text (sigOf i) w hb (by omega) hs)
          have hce : checkE S who text (sigOf i) = false := by unfold checkE; rw [decide_eq_false (by omega)]; rfl
          rw [hce] at HD
          clear hce
          have HEI := Lib.hid (show ∀ w, Calls Try.prog 124 #[.int .i64 ((i : Int) + 1)] w (fun e w' => e = .returned (.string (eight (i + 1))) ∧ Below w.heap.size w w') from fun w => rEight_calls (i + 1) w (by omega))
          have hsz : (eight (i + 1)).size = 8 := eight_size _
          go_wp2_with fail
          refine (HA.out _ HP.out.r).mono ?_
          rintro e w4 ⟨rfl, rfl⟩
          go_wp2_with fail
          refine (HEI.out _).mono ?_
          rintro e w3 ⟨rfl, hb3⟩
          have HP3 := Lib.hid (HP.out.below hb3)
          have HX3 := Lib.hid (HX.out.call hb3)
          clear hb3 HP HX e0 e1 e2 e3 g0 g1 g2 g3
          have HP := HP3
          have HX := HX3
          clear HP3 HX3
          obtain ⟨e0, e1, e2, e3, g0, g1, g2, g3⟩ := HX.out.facts4
          go_wp2_with fail
          refine (HD.out _ HP.out.k).mono ?_
          rintro e w5 ⟨rfl, hb5⟩
          have HP5 := Lib.hid (HP.out.below hb5)
          have HX5 := Lib.hid (HX.out.call hb5)
          clear hb5 e0 e1 e2 e3 g0 g1 g2 g3
          obtain ⟨e0, e1, e2, e3, g0, g1, g2, g3⟩ := HX5.out.facts4
          go_wp2_with fail
          go_ret
          exact ⟨rfl, T, S, HP5.out, by omega, by omega⟩
        | none =>
          have hat : atE S (who, text) = -1 := by unfold atE; rw [hpl]
          rw [hat] at HA
          clear hat hpl
          have HD := Lib.hid (fun w hb => check_calls bb t m n T S who text sig w hb (by omega) hs)
          have hce : checkE S who text sig = false := by unfold checkE; rw [decide_eq_false (by omega)]; rfl
          rw [hce] at HD
          clear hce
          go_wp2_with fail
          refine (HA.out _ HP.out.r).mono ?_
          rintro e w4 ⟨rfl, rfl⟩
          go_wp2_with fail
          refine (HD.out _ HP.out.k).mono ?_
          rintro e w5 ⟨rfl, hb5⟩
          have HP5 := Lib.hid (HP.out.below hb5)
          have HX5 := Lib.hid (HX.out.call hb5)
          clear hb5 e0 e1 e2 e3 g0 g1 g2 g3
          obtain ⟨e0, e1, e2, e3, g0, g1, g2, g3⟩ := HX5.out.facts4
          go_wp2_with fail
          go_ret
          exact ⟨rfl, T, S, HP5.out, by omega, by omega⟩
      · have hsg2 : sig.toList.isEmpty = false := by simpa using hsg
        clear hsg
        obtain ⟨z, hz⟩ : ∃ z, z = atE S (who, text) := ⟨_, rfl⟩
        rw [← hz] at HA
        clear hz
        have HD := Lib.hid (fun w hb => check_calls bb t m n T S who text sig w hb (by omega) hs)
        have hce : checkE S who text sig = false := by unfold checkE; rw [decide_eq_false (by omega)]; rfl
        rw [hce] at HD
        clear hce
        go_wp2_with fail
        refine (HA.out _ HP.out.r).mono ?_
        rintro e w4 ⟨rfl, rfl⟩
        go_wp2_with fail
        refine (HD.out _ HP.out.k).mono ?_
        rintro e w5 ⟨rfl, hb5⟩
        have HP5 := Lib.hid (HP.out.below hb5)
        have HX5 := Lib.hid (HX.out.call hb5)
        clear hb5 e0 e1 e2 e3 g0 g1 g2 g3
        obtain ⟨e0, e1, e2, e3, g0, g1, g2, g3⟩ := HX5.out.facts4
        go_wp2_with fail
        go_ret
        exact ⟨rfl, T, S, HP5.out, by omega, by omega⟩

set_option maxHeartbeats 2000000 in
set_option maxRecDepth 100000 in
theorem step3_calls (B bb t m n rb base : Nat) (T : List ByteArray) (S : List Wd) (x : Act3) (w0 w : World) (hp : PL B w0 w bb t m n rb base T S T S) (hT : T.length ≤ 100000) (hS : S.length ≤ 100000) (hs : x.text.size ≤ maxLen) (hkind : rnd x.kind 4 = 3) :
    Calls Try.prog 60 #[.pointer (some ⟨bb, 0, none⟩), .pointer (some ⟨rb, 0, none⟩), .agg #[.int .i64 x.kind, .int .i64 x.who, .string x.text, .string x.sig]] w (StepPost B w0 bb t m n rb base T S) := by
  obtain ⟨kind, who, text, sig⟩ := x
  simp only at *
  have HR := Lib.hid (fun w => round3_calls kind 4 w (by decide) (by decide))
  rw [hkind] at HR
  clear hkind
  have HX := Lib.hid (Box.new w #[.int .i64 kind, .int .i64 who, .string text, .string sig] 85)
  obtain ⟨e0, e1, e2, e3, g0, g1, g2, g3⟩ := HX.out.facts4
  have HP := Lib.hid (hp.alloc (.cells #[.int .i64 kind, .int .i64 who, .string text, .string sig] 85))
  obtain ⟨lo1, lo2, lo3, lo4⟩ := hp.lo
  obtain ⟨hi1, hi2, hi3, hi4⟩ := hp.hi
  have hrb : rb < w.heap.size := by have := hp.r.lt; have := hp.r.le; omega
  clear hp
  obtain ⟨W, hW⟩ : ∃ W, W = w.alloc (.cells #[.int .i64 kind, .int .i64 who, .string text, .string sig] 85) := ⟨_, rfl⟩
  rw [← hW] at HX HP e0 e1 e2 e3 g0 g1 g2 g3
  have HWW := Lib.hid hW
  clear hW
  rcases Int.lt_or_le who 0 with h0 | h0
  · have h0n : ¬ 0 ≤ who := by omega
    have hnn : namedB who = false := by unfold namedB; simp; omega
    have HNN := Lib.hid hnn
    clear hnn
    go_enter Try.func60, Try.ntmps60
    go_wp2_with fail
    rw [← HWW.out]
    refine (HR.out _).mono ?_
    rintro e w1 ⟨rfl, rfl⟩
    have HD := Lib.hid (fun w hb => issued_calls bb t m n T S who text w hb hs)
    have HA := Lib.hid (fun w hr => rAt_calls rb base T S who text w hr (by omega))
    have hce : issuedE S who text = false := by unfold issuedE; rw [decide_eq_false (by omega)]; rfl
    rw [hce] at HD
    clear hce
    go_wp2_with fail
    refine (HD.out _ HP.out.k).mono ?_
    rintro e w5 ⟨rfl, hb5⟩
    have HP5 := Lib.hid (HP.out.below hb5)
    have HX5 := Lib.hid (HX.out.call hb5)
    clear hb5 e0 e1 e2 e3 g0 g1 g2 g3
    obtain ⟨e0, e1, e2, e3, g0, g1, g2, g3⟩ := HX5.out.facts4
    go_wp2_with fail
    go_ret
    exact ⟨rfl, T, S, HP5.out, by omega, by omega⟩
  · by_cases h1 : who ≤ 255
    · have hnn : namedB who = true := by unfold namedB; simp; omega
      have HNN := Lib.hid hnn
      clear hnn
      go_enter Try.func60, Try.ntmps60
      go_wp2_with fail
      rw [← HWW.out]
      refine (HR.out _).mono ?_
      rintro e w1 ⟨rfl, rfl⟩
      have HD := Lib.hid (fun w hb => issued_calls bb t m n T S who text w hb hs)
      have HA := Lib.hid (fun w hr => rAt_calls rb base T S who text w hr (by omega))
      have hce : issuedE S who text = decide (0 ≤ atE S (who, text)) := by unfold issuedE; rw [decide_eq_true ⟨h0, h1⟩, at_isSome]; rfl
      rw [hce] at HD
      clear hce
      obtain ⟨z, hz⟩ : ∃ z, z = atE S (who, text) := ⟨_, rfl⟩
      rw [← hz] at HD HA
      clear hz
      go_wp2_with fail
      refine (HD.out _ HP.out.k).mono ?_
      rintro e w5 ⟨rfl, hb5⟩
      have HP5 := Lib.hid (HP.out.below hb5)
      have HX5 := Lib.hid (HX.out.call hb5)
      clear hb5 e0 e1 e2 e3 g0 g1 g2 g3
      obtain ⟨e0, e1, e2, e3, g0, g1, g2, g3⟩ := HX5.out.facts4
      go_wp2_with fail
      refine (HA.out _ HP5.out.r).mono ?_
      rintro e w6 ⟨rfl, rfl⟩
      go_wp2
      go_ret
      exact ⟨ret_bool (by simp), T, S, HP5.out, by omega, by omega⟩
    · have hnn : namedB who = false := by unfold namedB; simp; omega
      have HNN := Lib.hid hnn
      clear hnn
      go_enter Try.func60, Try.ntmps60
      go_wp2_with fail
      rw [← HWW.out]
      refine (HR.out _).mono ?_
      rintro e w1 ⟨rfl, rfl⟩
      have HD := Lib.hid (fun w hb => issued_calls bb t m n T S who text w hb hs)
      have HA := Lib.hid (fun w hr => rAt_calls rb base T S who text w hr (by omega))
      have hce : issuedE S who text = false := by unfold issuedE; rw [decide_eq_false (by omega)]; rfl
      rw [hce] at HD
      clear hce
      go_wp2_with fail
      refine (HD.out _ HP.out.k).mono ?_
      rintro e w5 ⟨rfl, hb5⟩
      have HP5 := Lib.hid (HP.out.below hb5)
      have HX5 := Lib.hid (HX.out.call hb5)
      clear hb5 e0 e1 e2 e3 g0 g1 g2 g3
      obtain ⟨e0, e1, e2, e3, g0, g1, g2, g3⟩ := HX5.out.facts4
      go_wp2_with fail
      go_ret
      exact ⟨rfl, T, S, HP5.out, by omega, by omega⟩
end Go.Proofs.Ytfgpchffkpomoaa
