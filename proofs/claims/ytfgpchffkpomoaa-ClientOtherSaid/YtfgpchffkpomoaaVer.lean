/- What bytes show of a key, up to the quorum: in plain words, and the walk through the client's Verify where it refuses. -/
import Derived.Test.YtfgpchffkpomoaaPk31
import Derived.Test.YtfgpchffkpomoaaPk10
import Derived.Test.YtfgpchffkpomoaaPk33
namespace Go.Proofs.Ytfgpchffkpomoaa
set_option linter.unusedSimpArgs false
set_option linter.unusedVariables false
open Go.RowKit

/-- Why bytes are refused before their proof is looked at; 0: they are not. -/
def verE (S : List Wd) (F : Int) (s : ByteArray) : Int :=
  if (ofSg s).2 ≠ 0 then (ofSg s).2
  else if (openE S (ofSg s).1).2 ≠ 0 then (openE S (ofSg s).1).2
  else if (openE S (ofSg s).1).1.kind ≠ 13 then 13
  else if ((votersS S 5 0 (openE S (ofSg s).1).1.seq (openE S (ofSg s).1).1.digest (3 * F + 1) (openE S (ofSg s).1).1.list []).length : Int) ≤ F then 30
  else 0
theorem open_fits {S : List Wd} {m : Sg} {b : Bd} (h : openE S m = (b, 0)) : rightE b = 0 := by
  unfold openE at h
  split at h
  · exact (of_bytes (bytes_of h)).2.2.1
  · exact absurd (Prod.mk.inj h).2 (by decide)
theorem list_fits {b : Bd} (h : rightE b = 0) : ∀ x ∈ b.list, fitsB x = true := by
  have h1 := (right_ok h)
  have h2 : fitAllB b.list = true := by
    unfold rightE at h
    split at h
    · exact absurd h (by decide)
    · split at h
      · rename_i h3
        unfold partB partBr at h3
        simp only [Bool.and_eq_true] at h3
        exact h3.1.2.2.2.2.2.2
      · exact absurd h (by decide)
  intro x hx
  unfold fitAllB at h2
  exact List.all_eq_true.1 h2 x hx
/-- Nothing shown, and why. -/
def NoLight (w0 : World) (b t m n : Nat) (T : List ByteArray) (S : List Wd) (code : Int) (e : Ending) (w' : World) : Prop :=
  e = .returned (.tuple #[.agg #[.int .i64 0, .string ⟨#[]⟩, .bool false], .int .i64 code]) ∧ ∃ T', Ext T T' ∧ T'.length ≤ T.length + 1 ∧ Ch w0.heap.size (· = m) w0 w' ∧ Bk w' b t m n T' S
theorem noLight {w wk : World} {b t m n : Nat} {T T' : List ByteArray} {S : List Wd} {code : Int} {x y z : Value} (hc : Ch w.heap.size (· = m) w wk) (hk : Bk wk b t m n T' S) (hf : w.heap.size + 1 ≠ b ∧ w.heap.size + 1 ≠ t ∧ w.heap.size + 1 ≠ m ∧ w.heap.size + 1 ≠ n) (he : Ext T T') (hl : T'.length ≤ T.length + 1) :
    NoLight w b t m n T S code (.returned (.tuple #[.agg #[.int .i64 0, .string ⟨#[]⟩, .bool false], .int .i64 code])) (((wk.setCell ⟨w.heap.size + 1, 0, none⟩ x).setCell ⟨w.heap.size + 1, 1, none⟩ y).setCell ⟨w.heap.size + 1, 2, none⟩ z) :=
  ⟨rfl, T', he, hl, ((hc.setCell (p := ⟨w.heap.size + 1, 0, none⟩) (.inl (Nat.le_succ _)) x).setCell (p := ⟨w.heap.size + 1, 1, none⟩) (.inl (Nat.le_succ _)) y).setCell (p := ⟨w.heap.size + 1, 2, none⟩) (.inl (Nat.le_succ _)) z,
    ((hk.setCell (p := ⟨w.heap.size + 1, 0, none⟩) hf x).setCell (p := ⟨w.heap.size + 1, 1, none⟩) hf y).setCell (p := ⟨w.heap.size + 1, 2, none⟩) hf z⟩
set_option maxHeartbeats 8000000 in
set_option maxRecDepth 100000 in
theorem verifyNo_calls (f : Nat) (C G P : Int) (b t m n : Nat) (T : List ByteArray) (S : List Wd) (key s : ByteArray) (code : Int) (w : World) (hb : Bk w b t m n T S) (hT : T.length ≤ 100000000) (hS : S.length ≤ 1000000000) (hs : s.size ≤ maxLen) (hfc : fitsC f C G P = true) (hf4 : f ≤ 4) (he : verE S f s = code) (hc : code ≠ 0) :
    Calls Try.prog 87 #[.agg #[.int .i64 (f : Int), .int .i64 C, .int .i64 G, .int .i64 P], .pointer (some ⟨b, 0, none⟩), .string key, .string s] w (NoLight w b t m n T S code) := by
  have HX := Lib.hid (Box.new w #[.int .i64 (f : Int), .int .i64 C, .int .i64 G, .int .i64 P] 104)
  have HL0 := Lib.hid (by have := Box.new (w.alloc (.cells #[.int .i64 (f : Int), .int .i64 C, .int .i64 G, .int .i64 P] 104)) #[.int .i64 0, .string ⟨#[]⟩, .bool false] 149; simpa only [World.size_alloc] using this : Box ((w.alloc (.cells #[.int .i64 (f : Int), .int .i64 C, .int .i64 G, .int .i64 P] 104)).alloc (.cells #[.int .i64 0, .string ⟨#[]⟩, .bool false] 149)) (w.heap.size + 1) #[.int .i64 0, .string ⟨#[]⟩, .bool false] 149)
  obtain ⟨W0, hW0⟩ : ∃ W0, W0 = (w.alloc (.cells #[.int .i64 (f : Int), .int .i64 C, .int .i64 G, .int .i64 P] 104)).alloc (.cells #[.int .i64 0, .string ⟨#[]⟩, .bool false] 149) := ⟨_, rfl⟩
  have hA := ((Below.refl w.heap.size w).alloc (Nat.le_refl _) (.cells #[.int .i64 (f : Int), .int .i64 C, .int .i64 G, .int .i64 P] 104)).alloc (by simp) (.cells #[.int .i64 0, .string ⟨#[]⟩, .bool false] 149)
  have HX0 := Lib.hid (show Box W0 w.heap.size #[.int .i64 (f : Int), .int .i64 C, .int .i64 G, .int .i64 P] 104 by rw [hW0]; exact HX.out.alloc _)
  have HL := Lib.hid (show Box W0 (w.heap.size + 1) #[.int .i64 0, .string ⟨#[]⟩, .bool false] 149 by rw [hW0]; exact HL0.out)
  have HA := Lib.hid (show Below w.heap.size w W0 by rw [hW0]; exact hA)
  have HB := Lib.hid (hb.below HA.out)
  have hml := hb.tm.lt
  have hall : b < w.heap.size ∧ t < w.heap.size ∧ n < w.heap.size := ⟨hb.lt.1, hb.lt.2, hb.wm.lt⟩
  have HWW := Lib.hid hW0
  have HF := Lib.hid (fun w => cfits_calls (f : Int) C G P w)
  rw [hfc] at HF
  obtain ⟨k0, k1, k2, k3, -⟩ := Box.facts4 HX0.out
  clear hb hA HX HL0 hW0
  go_enter Try.func87, Try.ntmps87
  go_wp2_with fail
  rw [← HWW.out]
  refine (HF.out _).mono ?_
  rintro e w1 ⟨rfl, hb1⟩
  have HX1 := Lib.hid (HX0.out.call hb1)
  have HL1 := Lib.hid (HL.out.call hb1)
  have HB1 := Lib.hid (HB.out.below hb1)
  have HA1 := Lib.hid (HA.out.trans (hb1.mono HA.out.size))
  have hz1 := HA1.out.size
  have HD := Lib.hid (digest_calls b t m n T S ⟨#[]⟩ w1 HB1.out (by omega) (by simp [ByteArray.size, maxLen]))
  have hsz := hh_size T ⟨#[]⟩
  have hdl := digT_len T ⟨#[]⟩
  have hke := (dig_known T ⟨#[]⟩).1
  unfold hh at hsz
  obtain ⟨⟨gg, T1⟩, hg⟩ : ∃ q, q = digS T ⟨#[]⟩ := ⟨_, rfl⟩
  rw [← hg] at HD hsz hdl hke
  simp only at HD hsz hdl hke
  have hne : gg.toList.isEmpty = false := by have := has_text gg; rw [decide_eq_true (by omega)] at this; simpa using this
  have HKE := Lib.hid hke
  have hw0m : ¬ w.heap.size = m := by omega
  have hw1m : ¬ w.heap.size + 1 = m := by omega
  clear hg hke hb1 k0 k1 k2 k3
  go_wp2_with fail
  refine HD.out.mono ?_
  rintro e w2 ⟨rfl, hc2, hk2⟩
  have HC2 := Lib.hid ((Ch.of_below (S := (· = m)) HA1.out).step hc2 HA1.out.size (fun _ _ e => e))
  have HK2 := Lib.hid hk2
  have HX2 := Lib.hid (Box.ch HX1.out hc2 HX1.out.lt hw0m)
  have HL2 := Lib.hid (Box.ch HL1.out hc2 HL1.out.lt hw1m)
  have hz2 := HC2.out.size
  have HOS := Lib.hid (ofSg_calls s w2 hs)
  unfold OfSgPost at HOS
  have HE := Lib.hid (show verE S f s = if (ofSg s).2 ≠ 0 then (ofSg s).2 else if (openE S (ofSg s).1).2 ≠ 0 then (openE S (ofSg s).1).2 else if (openE S (ofSg s).1).1.kind ≠ 13 then 13 else if ((votersS S 5 0 (openE S (ofSg s).1).1.seq (openE S (ofSg s).1).1.digest (3 * f + 1) (openE S (ofSg s).1).1.list []).length : Int) ≤ f then 30 else 0 from rfl)
  have hfit := (fitsB_iff _).1 (ofSg_fits s)
  obtain ⟨⟨m1, e1⟩, hr⟩ : ∃ r, ofSg s = r := ⟨_, rfl⟩
  rw [hr] at HOS HE hfit
  simp only at HOS HE hfit
  have HO := Lib.hid (fun w hb => open_calls b t m n T1 S m1 w hb hS (by have := hfit.2.2.1; simp only [maxLen]; omega))
  unfold BodyErr at HO
  obtain ⟨⟨b2, e2⟩, hr2⟩ : ∃ r, openE S m1 = r := ⟨_, rfl⟩
  rw [hr2] at HO HE
  simp only at HO HE
  have HFT := Lib.hid (show e2 = 0 → ∀ x ∈ b2.list, fitsB x = true from fun h => list_fits (open_fits (by rw [hr2, h])))
  obtain ⟨who, body, sig⟩ := m1
  obtain ⟨kd, vw, sq, cl, st, dg, tx, ls⟩ := b2
  unfold Sg.val at *
  unfold Bd.val Bd.cells at *
  simp only at *
  have hw3 : IntKind.i64.wrap (3 * (f : Int)) = 3 * (f : Int) := wrap_near _ (by omega) (by omega)
  have hw4 : IntKind.i64.wrap (3 * (f : Int) + 1) = 3 * (f : Int) + 1 := wrap_near _ (by omega) (by omega)
  have hfar : w.heap.size + 1 ≠ b ∧ w.heap.size + 1 ≠ t ∧ w.heap.size + 1 ≠ m ∧ w.heap.size + 1 ≠ n := by omega
  clear hc2 hk2 hr hr2 HB1 HX1 HL1 HA1 HD
  go_wp2_with fail
  refine HOS.out.mono ?_
  rintro e w3 ⟨rfl, hb3⟩
  have hal := (Below.refl w3.heap.size w3).alloc (Nat.le_refl _) (.cells #[.int .i64 who, .string body, .string sig] 61)
  obtain ⟨W3, hW3⟩ : ∃ W3, W3 = w3.alloc (.cells #[.int .i64 who, .string body, .string sig] 61) := ⟨_, rfl⟩
  have HX3 := Lib.hid (show Box W3 w.heap.size #[.int .i64 (f : Int), .int .i64 C, .int .i64 G, .int .i64 P] 104 by rw [hW3]; exact (HX2.out.call hb3).alloc _)
  have HL3 := Lib.hid (show Box W3 (w.heap.size + 1) #[.int .i64 0, .string ⟨#[]⟩, .bool false] 149 by rw [hW3]; exact (HL2.out.call hb3).alloc _)
  have HM3 := Lib.hid (show Box W3 w3.heap.size #[.int .i64 who, .string body, .string sig] 61 by rw [hW3]; exact Box.new w3 _ _)
  have HK3 := Lib.hid (show Bk W3 b t m n T1 S by rw [hW3]; exact (HK2.out.below hb3).below hal)
  have HC3 := Lib.hid (show Ch w.heap.size (· = m) w W3 by rw [hW3]; exact (HC2.out.step (Ch.of_below (S := fun _ => False) hb3) hz2 (fun _ _ e => e.elim)).alloc (by have := hb3.size; omega) _)
  have hz3 := HC3.out.size
  have hWW3 := Lib.hid hW3
  clear hal hb3
  obtain ⟨l0, l1, l2, g0, g1, g2⟩ := Box.facts3 HL3.out
  obtain ⟨m0, m1, m2, -⟩ := Box.facts3 HM3.out
  obtain ⟨k0, k1, k2, k3, -⟩ := Box.facts4 HX3.out
  rw [hW3] at l0 l1 l2 g0 g1 g2 m0 m1 m2 k0 k1 k2 k3
  clear hW3
  by_cases h1 : e1 = 0
  rotate_left
  · have hne : (e1 == 0) = false := by rw [beq_eq_false_iff_ne]; exact h1
    have HE1 := Lib.hid (show e1 = code by have := HE.out; rw [if_pos h1] at this; rw [← this]; exact he)
    clear h1
    go_wp2
    rw [← hWW3.out] at *
    refine bodyPost_ret (v := .tuple #[.agg #[.int .i64 0, .string ⟨#[]⟩, .bool false], .int .i64 e1]) (by simp [results, Try.results87, go_sem, l0, l1, l2]) rfl ?_
    rw [HE1.out]
    exact noLight HC3.out HK3.out hfar HKE.out hdl
  · subst h1
    have HE1 := Lib.hid (show verE S f s = if e2 ≠ 0 then e2 else if kd ≠ 13 then 13 else if ((votersS S 5 0 sq dg (3 * f + 1) ls []).length : Int) ≤ f then 30 else 0 by have := HE.out; rwa [if_neg (by simp)] at this)
    obtain ⟨q, hq⟩ : ∃ q, q = (votersS S 5 0 sq dg (3 * f + 1) ls []).length := ⟨_, rfl⟩
    rw [← hq] at HE1
    have HQQ := Lib.hid hq
    clear hq HE
    go_wp2_with fail
    rw [← hWW3.out] at *
    refine (HO.out _ HK3.out).mono ?_
    rintro e w5 ⟨A2, c2, rfl, hb5, ho5⟩
    have hal := (Below.refl w5.heap.size w5).alloc (Nat.le_refl _) (.cells #[.int .i64 kd, .int .i64 vw, .int .i64 sq, .int .i64 cl, .int .i64 st, .string dg, .string tx, .slice A2 ls.length c2] 59)
    obtain ⟨W5, hW5⟩ : ∃ W5, W5 = w5.alloc (.cells #[.int .i64 kd, .int .i64 vw, .int .i64 sq, .int .i64 cl, .int .i64 st, .string dg, .string tx, .slice A2 ls.length c2] 59) := ⟨_, rfl⟩
    have HX5 := Lib.hid (show Box W5 w.heap.size #[.int .i64 (f : Int), .int .i64 C, .int .i64 G, .int .i64 P] 104 by rw [hW5]; exact (HX3.out.call hb5).alloc _)
    have HL5 := Lib.hid (show Box W5 (w.heap.size + 1) #[.int .i64 0, .string ⟨#[]⟩, .bool false] 149 by rw [hW5]; exact (HL3.out.call hb5).alloc _)
    have HY5 := Lib.hid (show Box W5 w5.heap.size #[.int .i64 kd, .int .i64 vw, .int .i64 sq, .int .i64 cl, .int .i64 st, .string dg, .string tx, .slice A2 ls.length c2] 59 by rw [hW5]; exact Box.new w5 _ _)
    have HK5 := Lib.hid (show Bk W5 b t m n T1 S by rw [hW5]; exact (HK3.out.below hb5).below hal)
    have HC5 := Lib.hid (show Ch w.heap.size (· = m) w W5 by rw [hW5]; exact (HC3.out.step (Ch.of_below (S := fun _ => False) hb5) hz3 (fun _ _ e => e.elim)).alloc (by have := hb5.size; omega) _)
    have HS5 := Lib.hid (show SgS W5 A2 c2 ls by rw [hW5]; exact SgS.below (show SgS w5 A2 c2 ls from Sl.of_own ho5) hal)
    have hz5 := HC5.out.size
    have hWW5 := Lib.hid hW5
    clear hal hb5 ho5 l0 l1 l2 g0 g1 g2 m0 m1 m2 k0 k1 k2 k3
    obtain ⟨l0, l1, l2, g0, g1, g2⟩ := Box.facts3 HL5.out
    obtain ⟨y0, y1, y2, y3, y4, y5, y6, y7, -⟩ := HY5.out.facts8
    obtain ⟨k0, k1, k2, k3, -⟩ := Box.facts4 HX5.out
    rw [hW5] at l0 l1 l2 g0 g1 g2 y0 y1 y2 y3 y4 y5 y6 y7 k0 k1 k2 k3
    clear hW5
    by_cases h2 : e2 = 0
    rotate_left
    · have hne : (e2 == 0) = false := by rw [beq_eq_false_iff_ne]; exact h2
      have HE2 := Lib.hid (show e2 = code by have := HE1.out; rw [if_pos h2] at this; rw [← this]; exact he)
      clear h2
      go_wp2
      rw [← hWW5.out] at *
      refine bodyPost_ret (v := .tuple #[.agg #[.int .i64 0, .string ⟨#[]⟩, .bool false], .int .i64 e2]) (by simp [results, Try.results87, go_sem, l0, l1, l2]) rfl ?_
      rw [HE2.out]
      exact noLight HC5.out HK5.out hfar HKE.out hdl
    · subst h2
      by_cases h3 : kd = 13
      rotate_left
      · have hne : (kd != 13) = true := bne_iff_ne.2 h3
        have HE2 := Lib.hid (show 13 = code by have := HE1.out; rw [if_neg (by simp), if_pos h3] at this; rw [← this]; exact he)
        clear h3
        go_wp2
        rw [← hWW5.out] at *
        refine bodyPost_ret (v := .tuple #[.agg #[.int .i64 0, .string ⟨#[]⟩, .bool false], .int .i64 13]) (by simp [results, Try.results87, go_sem, l0, l1, l2]) rfl ?_
        rw [← HE2.out]
        exact noLight HC5.out HK5.out hfar HKE.out hdl
      · subst h3
        by_cases h4 : (q : Int) ≤ f
        rotate_left
        · exact absurd (by have := HE1.out; rw [if_neg (by simp), if_neg (by simp), if_neg h4] at this; rw [← he]; exact this) hc
        have HE2 := Lib.hid (show 30 = code by have := HE1.out; rw [if_neg (by simp), if_neg (by simp), if_pos h4] at this; rw [← this]; exact he)
        have hd4 : q ≤ f := by omega
        have hd5 : decide (q ≤ f) = true := by simpa using hd4
        have HFT2 := Lib.hid (show ∀ x ∈ ls, x.body.size ≤ maxLen ∧ -9223372036854775808 ≤ x.who ∧ x.who ≤ 9223372036854775807 from fun x hx => by
          have := (fitsB_iff x).1 (HFT.out rfl x hx)
          simp only [maxLen]
          omega)
        have HQ := Lib.hid (quorum_calls b t m n T1 S A2 c2 ls 5 0 sq dg (3 * (f : Int) + 1) W5.drew HK5.out.drew hS (show SgS W5.drew A2 c2 ls from ⟨HS5.out.len, HS5.out.fits, HS5.out.at_⟩) HFT2.out)
        unfold IntAny at HQ
        rw [← HQQ.out] at HQ
        clear h4 HE1
        go_wp2_with fail
        rw [← hWW5.out] at *
        have hLD := HL5.out.drew
        have hYD := HY5.out.drew
        have hXD := HX5.out.drew
        obtain ⟨a0, a1, a2, a3, a4, a5, a6, a7, -⟩ := hYD.facts8
        obtain ⟨b0, -⟩ := Box.facts4 hXD
        go_region_held3 (fun w' => w'.cell? ⟨w5.heap.size, 7, none⟩ = some (.slice A2 ls.length c2) ∧ w'.cell? ⟨w5.heap.size, 2, none⟩ = some (.int .i64 sq) ∧ w'.cell? ⟨w5.heap.size, 5, none⟩ = some (.string dg) ∧ w'.cell? ⟨w.heap.size, 0, none⟩ = some (.int .i64 (f : Int))) (with_reducible first | exact ⟨a7, a2, a5, b0⟩ | exact ⟨p7, p2, p5, p0⟩) (first | (go_at_call 59; refine HQ.out.mono ?_; rintro e w6 ⟨rfl, hb6⟩; have HL6 := Lib.hid (hLD.call hb6); have HK6 := Lib.hid (HK5.out.drew.below hb6); have HC6 := Lib.hid (HC5.out.drew.step (Ch.of_below (S := fun _ => False) hb6) (by simpa using hz5) (fun _ _ e => e.elim)); obtain ⟨-, -, p2, -, -, p5, -, p7, -⟩ := (hYD.call hb6).facts8; obtain ⟨p0, -⟩ := Box.facts4 (hXD.call hb6); clear hb6))
        all_goals
          clear l0 l1 l2 g0 g1 g2
          obtain ⟨l0, l1, l2, g0, g1, g2⟩ := Box.facts3 HL6.out
          go_wp2
          refine bodyPost_ret (v := .tuple #[.agg #[.int .i64 0, .string ⟨#[]⟩, .bool false], .int .i64 30]) (by simp [results, Try.results87, go_sem, l0, l1, l2]) rfl ?_
          rw [← HE2.out]
          exact noLight HC6.out HK6.out hfar HKE.out hdl
end Go.Proofs.Ytfgpchffkpomoaa
