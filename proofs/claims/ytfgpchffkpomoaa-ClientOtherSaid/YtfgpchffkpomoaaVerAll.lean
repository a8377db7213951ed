/- What bytes show of a key: the walk through the client's Verify where a quorum signed and the proof is read. -/
import Derived.Test.YtfgpchffkpomoaaVer
import Derived.Test.YtfgpchffkpomoaaOfPf
import Derived.Test.YtfgpchffkpomoaaPk27
namespace Go.Proofs.Ytfgpchffkpomoaa
set_option linter.unusedSimpArgs false
set_option linter.unusedVariables false
open Go.RowKit

theorem own_offV {w : World} {base n : Nat} {e : TypeId} {size : Nat} {A : Option Addr} {c m : Nat} {xs : List Value} (h : w.ownsRow base e size (.slice A n c) n xs) (hm : m < base) : Off A n m := fun _ k hk => by
  have := (own_row h hk).1
  omega
/-- What is shown, or why nothing is. -/
def LightPost (w0 : World) (b t m n : Nat) (T : List ByteArray) (S : List Wd) (seq : Int) (root key : ByteArray) (cnt : Int) (ps : List Pt) (e : Ending) (w' : World) : Prop :=
  ∃ T' v has cd, e = .returned (.tuple #[if cd = 0 then .agg #[.int .i64 seq, .string v, .bool has] else .agg #[.int .i64 0, .string ⟨#[]⟩, .bool false], .int .i64 cd]) ∧
    Hid ((v, has, cd) = verifyP (hh T') root key cnt ps) ∧ Hid (cd = 0 → VerIn T' cnt ps) ∧ Ext T T' ∧ T'.length ≤ T.length + 101 ∧ Ch w0.heap.size (· = m) w0 w' ∧ Bk w' b t m n T' S
set_option maxHeartbeats 8000000 in
set_option maxRecDepth 100000 in
theorem verifyYes_calls (f : Nat) (C G P : Int) (b t m n : Nat) (T : List ByteArray) (S : List Wd) (key s : ByteArray) (m1 : Sg) (b2 : Bd) (cnt : Int) (pts : List Pt) (w : World) (hb : Bk w b t m n T S) (hT : T.length ≤ 90000000) (hS : S.length ≤ 1000000000) (hs : s.size ≤ maxLen) (hfc : fitsC f C G P = true) (hf4 : f ≤ 4) (h1 : ofSg s = (m1, 0)) (h2 : openE S m1 = (b2, 0)) (h3 : b2.kind = 13) (h4 : f < (votersS S 5 0 b2.seq b2.digest (3 * f + 1) b2.list []).length) (h5 : ofPfE b2.text = ((cnt, pts), 0)) :
    Calls Try.prog 87 #[.agg #[.int .i64 (f : Int), .int .i64 C, .int .i64 G, .int .i64 P], .pointer (some ⟨b, 0, none⟩), .string key, .string s] w (LightPost w b t m n T S b2.seq b2.digest key cnt pts) := by
  have HX := Lib.hid (Box.new w #[.int .i64 (f : Int), .int .i64 C, .int .i64 G, .int .i64 P] 104)
  have HL0 := Lib.hid (by have := Box.new (w.alloc (.cells #[.int .i64 (f : Int), .int .i64 C, .int .i64 G, .int .i64 P] 104)) #[.int .i64 0, .string ⟨#[]⟩, .bool false] 149; simpa only [World.size_alloc] using this : Box ((w.alloc (.cells #[.int .i64 (f : Int), .int .i64 C, .int .i64 G, .int .i64 P] 104)).alloc (.cells #[.int .i64 0, .string ⟨#[]⟩, .bool false] 149)) (w.heap.size + 1) #[.int .i64 0, .string ⟨#[]⟩, .bool false] 149)
  obtain ⟨W0, hW0⟩ : ∃ W0, W0 = (w.alloc (.cells #[.int .i64 (f : Int), .int .i64 C, .int .i64 G, .int .i64 P] 104)).alloc (.cells #[.int .i64 0, .string ⟨#[]⟩, .bool false] 149) := ⟨_, rfl⟩
  have hA := ((Below.refl w.heap.size w).alloc (Nat.le_refl _) (.cells #[.int .i64 (f : Int), .int .i64 C, .int .i64 G, .int .i64 P] 104)).alloc (by simp) (.cells #[.int .i64 0, .string ⟨#[]⟩, .bool false] 149)
  have HX0 := Lib.hid (show Box W0 w.heap.size #[.int .i64 (f : Int), .int .i64 C, .int .i64 G, .int .i64 P] 104 by rw [hW0]; exact HX.out.alloc _)
  have HL := Lib.hid (show Box W0 (w.heap.size + 1) #[.int .i64 0, .string ⟨#[]⟩, .bool false] 149 by rw [hW0]; exact HL0.out)
  have HA := Lib.hid (show Below w.heap.size w W0 by rw [hW0]; exact hA)
  have HB := Lib.hid (hb.below HA.out)
  have hml := hb.tm.lt
  have hall : b < w.heap.size ∧ t < w.heap.size ∧ n < w.heap.size := ⟨hb.lt.1, hb.lt.2, hb.wm.lt⟩
  have HWW := Lib.hid hW0
  have HF := Lib.hid (fun w => cfits_calls (f : Int) C G P w)
  rw [hfc] at HF
  obtain ⟨k0, k1, k2, k3, -⟩ := Box.facts4 HX0.out
  clear hb hA HX HL0 hW0
  go_enter Try.func87, Try.ntmps87
  go_wp2_with fail
  rw [← HWW.out]
  refine (HF.out _).mono ?_
  rintro e w1 ⟨rfl, hb1⟩
  have HX1 := Lib.hid (HX0.out.call hb1)
  have HL1 := Lib.hid (HL.out.call hb1)
  have HB1 := Lib.hid (HB.out.below hb1)
  have HA1 := Lib.hid (HA.out.trans (hb1.mono HA.out.size))
  have hz1 := HA1.out.size
  have HD := Lib.hid (digest_calls b t m n T S ⟨#[]⟩ w1 HB1.out (by omega) (by simp [ByteArray.size, maxLen]))
  have hsz := hh_size T ⟨#[]⟩
  have hdl := digT_len T ⟨#[]⟩
  have hke := (dig_known T ⟨#[]⟩).1
  unfold hh at hsz
  obtain ⟨⟨gg, T1⟩, hg⟩ : ∃ q, q = digS T ⟨#[]⟩ := ⟨_, rfl⟩
  rw [← hg] at HD hsz hdl hke
  simp only at HD hsz hdl hke
  have hne : gg.toList.isEmpty = false := by have := has_text gg; rw [decide_eq_true (by omega)] at this; simpa using this
  have HKE := Lib.hid hke
  have hw0m : ¬ w.heap.size = m := by omega
  have hw1m : ¬ w.heap.size + 1 = m := by omega
  clear hg hke hb1 k0 k1 k2 k3
  go_wp2_with fail
  refine HD.out.mono ?_
  rintro e w2 ⟨rfl, hc2, hk2⟩
  have HC2 := Lib.hid ((Ch.of_below (S := (· = m)) HA1.out).step hc2 HA1.out.size (fun _ _ e => e))
  have HK2 := Lib.hid hk2
  have HX2 := Lib.hid (Box.ch HX1.out hc2 HX1.out.lt hw0m)
  have HL2 := Lib.hid (Box.ch HL1.out hc2 HL1.out.lt hw1m)
  have hz2 := HC2.out.size
  have HOS := Lib.hid (ofSg_calls s w2 hs)
  unfold OfSgPost at HOS
  have hfit := (fitsB_iff _).1 (ofSg_fits s)
  rw [h1] at HOS hfit
  simp only at HOS hfit
  have HO := Lib.hid (fun w hb => open_calls b t m n T1 S m1 w hb hS (by have := hfit.2.2.1; simp only [maxLen]; omega))
  unfold BodyErr at HO
  rw [h2] at HO
  simp only at HO
  have HFT := Lib.hid (list_fits (open_fits h2))
  have htx := (right_ok (open_fits h2))
  have htl : b2.text.size ≤ 1048576 := by omega
  have HPF := Lib.hid (fun w => ofPf_calls b2.text w (by simp only [maxLen]; omega))
  unfold OfPfPost at HPF
  rw [h5] at HPF
  simp only at HPF
  obtain ⟨who, body, sig⟩ := m1
  obtain ⟨kd, vw, sq, cl, st, dg, tx, ls⟩ := b2
  unfold Sg.val at *
  unfold Bd.val Bd.cells at *
  simp only at *
  subst h3
  obtain ⟨q, hq⟩ : ∃ q, q = (votersS S 5 0 sq dg (3 * f + 1) ls []).length := ⟨_, rfl⟩
  rw [← hq] at h4
  have HQQ := Lib.hid hq
  have hw3 : IntKind.i64.wrap (3 * (f : Int)) = 3 * (f : Int) := wrap_near _ (by omega) (by omega)
  have hw4 : IntKind.i64.wrap (3 * (f : Int) + 1) = 3 * (f : Int) + 1 := wrap_near _ (by omega) (by omega)
  have hfar : w.heap.size + 1 ≠ b ∧ w.heap.size + 1 ≠ t ∧ w.heap.size + 1 ≠ m ∧ w.heap.size + 1 ≠ n := by omega
  clear hc2 hk2 h1 h2 h5 htx hq HB1 HX1 HL1 HA1 HD
  go_wp2_with fail
  refine HOS.out.mono ?_
  rintro e w3 ⟨rfl, hb3⟩
  have hal := (Below.refl w3.heap.size w3).alloc (Nat.le_refl _) (.cells #[.int .i64 who, .string body, .string sig] 61)
  obtain ⟨W3, hW3⟩ : ∃ W3, W3 = w3.alloc (.cells #[.int .i64 who, .string body, .string sig] 61) := ⟨_, rfl⟩
  have HX3 := Lib.hid (show Box W3 w.heap.size #[.int .i64 (f : Int), .int .i64 C, .int .i64 G, .int .i64 P] 104 by rw [hW3]; exact (HX2.out.call hb3).alloc _)
  have HL3 := Lib.hid (show Box W3 (w.heap.size + 1) #[.int .i64 0, .string ⟨#[]⟩, .bool false] 149 by rw [hW3]; exact (HL2.out.call hb3).alloc _)
  have HM3 := Lib.hid (show Box W3 w3.heap.size #[.int .i64 who, .string body, .string sig] 61 by rw [hW3]; exact Box.new w3 _ _)
  have HK3 := Lib.hid (show Bk W3 b t m n T1 S by rw [hW3]; exact (HK2.out.below hb3).below hal)
  have HC3 := Lib.hid (show Ch w.heap.size (· = m) w W3 by rw [hW3]; exact (HC2.out.step (Ch.of_below (S := fun _ => False) hb3) hz2 (fun _ _ e => e.elim)).alloc (by have := hb3.size; omega) _)
  have hz3 := HC3.out.size
  have hWW3 := Lib.hid hW3
  clear hal hb3
  obtain ⟨l0, l1, l2, g0, g1, g2⟩ := Box.facts3 HL3.out
  obtain ⟨m0, m1, m2, -⟩ := Box.facts3 HM3.out
  obtain ⟨k0, k1, k2, k3, -⟩ := Box.facts4 HX3.out
  rw [hW3] at l0 l1 l2 g0 g1 g2 m0 m1 m2 k0 k1 k2 k3
  clear hW3
  go_wp2_with fail
  rw [← hWW3.out] at *
  refine (HO.out _ HK3.out).mono ?_
  rintro e w5 ⟨A2, c2, rfl, hb5, ho5⟩
  have hal := (Below.refl w5.heap.size w5).alloc (Nat.le_refl _) (.cells #[.int .i64 13, .int .i64 vw, .int .i64 sq, .int .i64 cl, .int .i64 st, .string dg, .string tx, .slice A2 ls.length c2] 59)
  obtain ⟨W5, hW5⟩ : ∃ W5, W5 = w5.alloc (.cells #[.int .i64 13, .int .i64 vw, .int .i64 sq, .int .i64 cl, .int .i64 st, .string dg, .string tx, .slice A2 ls.length c2] 59) := ⟨_, rfl⟩
  have HX5 := Lib.hid (show Box W5 w.heap.size #[.int .i64 (f : Int), .int .i64 C, .int .i64 G, .int .i64 P] 104 by rw [hW5]; exact (HX3.out.call hb5).alloc _)
  have HL5 := Lib.hid (show Box W5 (w.heap.size + 1) #[.int .i64 0, .string ⟨#[]⟩, .bool false] 149 by rw [hW5]; exact (HL3.out.call hb5).alloc _)
  have HY5 := Lib.hid (show Box W5 w5.heap.size #[.int .i64 13, .int .i64 vw, .int .i64 sq, .int .i64 cl, .int .i64 st, .string dg, .string tx, .slice A2 ls.length c2] 59 by rw [hW5]; exact Box.new w5 _ _)
  have HK5 := Lib.hid (show Bk W5 b t m n T1 S by rw [hW5]; exact (HK3.out.below hb5).below hal)
  have HC5 := Lib.hid (show Ch w.heap.size (· = m) w W5 by rw [hW5]; exact (HC3.out.step (Ch.of_below (S := fun _ => False) hb5) hz3 (fun _ _ e => e.elim)).alloc (by have := hb5.size; omega) _)
  have HS5 := Lib.hid (show SgS W5 A2 c2 ls by rw [hW5]; exact SgS.below (show SgS w5 A2 c2 ls from Sl.of_own ho5) hal)
  have hz5 := HC5.out.size
  have hz35 : w.heap.size ≤ w5.heap.size := Nat.le_trans hz3 hb5.size
  have hWW5 := Lib.hid hW5
  clear hal hb5 ho5 l0 l1 l2 g0 g1 g2 m0 m1 m2 k0 k1 k2 k3
  obtain ⟨l0, l1, l2, g0, g1, g2⟩ := Box.facts3 HL5.out
  obtain ⟨y0, y1, y2, y3, y4, y5, y6, y7, -⟩ := HY5.out.facts8
  obtain ⟨k0, k1, k2, k3, -⟩ := Box.facts4 HX5.out
  rw [hW5] at l0 l1 l2 g0 g1 g2 y0 y1 y2 y3 y4 y5 y6 y7 k0 k1 k2 k3
  clear hW5
  have HFT2 := Lib.hid (show ∀ x ∈ ls, x.body.size ≤ maxLen ∧ -9223372036854775808 ≤ x.who ∧ x.who ≤ 9223372036854775807 from fun x hx => by
    have := (fitsB_iff x).1 (HFT.out x hx)
    simp only [maxLen]
    omega)
  have HQ := Lib.hid (quorum_calls b t m n T1 S A2 c2 ls 5 0 sq dg (3 * (f : Int) + 1) W5.drew HK5.out.drew hS (show SgS W5.drew A2 c2 ls from ⟨HS5.out.len, HS5.out.fits, HS5.out.at_⟩) HFT2.out)
  unfold IntAny at HQ
  rw [← HQQ.out] at HQ
  have hd4 : ¬ q ≤ f := by omega
  have hd5 : decide (q ≤ f) = false := by simpa using hd4
  clear h4
  go_wp2_with fail
  rw [← hWW5.out] at *
  have hLD := HL5.out.drew
  have hYD := HY5.out.drew
  have hXD := HX5.out.drew
  obtain ⟨a0, a1, a2, a3, a4, a5, a6, a7, -⟩ := hYD.facts8
  obtain ⟨b0, -⟩ := Box.facts4 hXD
  go_region_held3 (fun w' => w'.cell? ⟨w5.heap.size, 7, none⟩ = some (.slice A2 ls.length c2) ∧ w'.cell? ⟨w5.heap.size, 2, none⟩ = some (.int .i64 sq) ∧ w'.cell? ⟨w5.heap.size, 5, none⟩ = some (.string dg) ∧ w'.cell? ⟨w.heap.size, 0, none⟩ = some (.int .i64 (f : Int))) (with_reducible first | exact ⟨a7, a2, a5, b0⟩ | exact ⟨p7, p2, p5, p0⟩) (first | (go_at_call 59; refine HQ.out.mono ?_; rintro e w6 ⟨rfl, hb6⟩; have HL6 := Lib.hid (hLD.call hb6); have HY6 := Lib.hid (hYD.call hb6); have HK6 := Lib.hid (HK5.out.drew.below hb6); have HC6 := Lib.hid (HC5.out.drew.step (Ch.of_below (S := fun _ => False) hb6) (by simpa using hz5) (fun _ _ e => e.elim)); obtain ⟨-, -, p2, -, -, p5, -, p7, -⟩ := (hYD.call hb6).facts8; obtain ⟨p0, -⟩ := Box.facts4 (hXD.call hb6); clear hb6))
  all_goals
    clear l0 l1 l2 g0 g1 g2 a0 a1 a2 a3 a4 a5 a6 a7 b0 p2 p5 p7 p0
    have hz6 := HC6.out.size
    obtain ⟨y0, y1, y2, y3, y4, y5, y6, y7, -⟩ := HY6.out.facts8
    have hl6 := HL6.out.lt
    have hw6 : w5.heap.size < w6.heap.size := HY6.out.lt
    go_wp2_with fail
    refine (HPF.out _).mono ?_
    rintro e w7 ⟨A7, c7, ms, rfl, hb7, hpo, hms⟩
    have hal := (Below.refl w7.heap.size w7).alloc (Nat.le_refl _) (.cells #[.int .i64 cnt, .slice A7 ms.length c7] 35)
    obtain ⟨W7, hW7⟩ : ∃ W7, W7 = w7.alloc (.cells #[.int .i64 cnt, .slice A7 ms.length c7] 35) := ⟨_, rfl⟩
    have HL7 := Lib.hid (show Box W7 (w.heap.size + 1) #[.int .i64 0, .string ⟨#[]⟩, .bool false] 149 by rw [hW7]; exact (HL6.out.call hb7).alloc _)
    have HY7 := Lib.hid (show Box W7 w5.heap.size #[.int .i64 13, .int .i64 vw, .int .i64 sq, .int .i64 cl, .int .i64 st, .string dg, .string tx, .slice A2 ls.length c2] 59 by rw [hW7]; exact (HY6.out.call hb7).alloc _)
    have HP7 := Lib.hid (show Box W7 w7.heap.size #[.int .i64 cnt, .slice A7 ms.length c7] 35 by rw [hW7]; exact Box.new w7 _ _)
    have HK7 := Lib.hid (show Bk W7 b t m n T1 S by rw [hW7]; exact (HK6.out.below hb7).below hal)
    have HC7 := Lib.hid (show Ch w.heap.size (· = m) w W7 by rw [hW7]; exact (HC6.out.step (Ch.of_below (S := fun _ => False) hb7) hz6 (fun _ _ e => e.elim)).alloc (Nat.le_trans hz6 hb7.size) _)
    have HPO := Lib.hid (show PmO W7 w6.heap.size A7 c7 ms by rw [hW7]; exact hpo.below hal)
    have hz7 := HC7.out.size
    have hm6 : m < w6.heap.size := HK6.out.tm.lt
    have HMV := Lib.hid (mVerify_calls b t m n T1 S dg key cnt A7 c7 ms W7 HK7.out (by omega) HPO.out.pm (fun x hx => own_cap (HPO.out.sides x hx)) (own_offV HPO.out.row hm6) (fun x hx => own_offV (HPO.out.sides x hx) hm6))
    rw [hms] at HMV
    have hWW7 := Lib.hid hW7
    clear hb7 hpo hal y0 y1 y2 y3 y4 y5 y6 y7
    obtain ⟨y0, y1, y2, y3, y4, y5, y6, y7, -⟩ := HY7.out.facts8
    obtain ⟨r0, r1, -⟩ := HP7.out.facts2
    rw [hW7] at y0 y1 y2 y3 y4 y5 y6 y7 r0 r1
    clear hW7
    go_wp2_with fail
    rw [← hWW7.out] at *
    refine HMV.out.mono ?_
    rintro e w8 ⟨T8, v, has, cd, rfl, hver, hvi, e8, l8, ch8, hk8⟩
    have HL8 := Lib.hid (Box.ch HL7.out ch8 HL7.out.lt hw1m)
    have HY8 := Lib.hid (Box.ch HY7.out ch8 HY7.out.lt (by omega))
    have HC8 := Lib.hid (HC7.out.step ch8 hz7 (fun _ _ e => e))
    have HK8 := Lib.hid hk8
    have HE8 := Lib.hid (HKE.out.trans e8)
    clear ch8 hk8 e8 y0 y1 y2 y3 y4 y5 y6 y7 r0 r1
    obtain ⟨l0, l1, l2, g0, g1, g2⟩ := Box.facts3 HL8.out
    obtain ⟨y0, y1, y2, y3, y4, y5, y6, y7, -⟩ := HY8.out.facts8
    have HFIN := Lib.hid (fun (a1 a2 a3 : Value) => (show Ch w.heap.size (· = m) w (((w8.setCell ⟨w.heap.size + 1, 0, none⟩ a1).setCell ⟨w.heap.size + 1, 1, none⟩ a2).setCell ⟨w.heap.size + 1, 2, none⟩ a3) ∧ Bk (((w8.setCell ⟨w.heap.size + 1, 0, none⟩ a1).setCell ⟨w.heap.size + 1, 1, none⟩ a2).setCell ⟨w.heap.size + 1, 2, none⟩ a3) b t m n T8 S from
      ⟨((HC8.out.setCell (p := ⟨w.heap.size + 1, 0, none⟩) (.inl (Nat.le_succ _)) a1).setCell (p := ⟨w.heap.size + 1, 1, none⟩) (.inl (Nat.le_succ _)) a2).setCell (p := ⟨w.heap.size + 1, 2, none⟩) (.inl (Nat.le_succ _)) a3,
        ((HK8.out.setCell (p := ⟨w.heap.size + 1, 0, none⟩) hfar a1).setCell (p := ⟨w.heap.size + 1, 1, none⟩) hfar a2).setCell (p := ⟨w.heap.size + 1, 2, none⟩) hfar a3⟩))
    by_cases hcd : cd = 0
    · subst hcd
      go_wp2
      refine bodyPost_ret (v := .tuple #[.agg #[.int .i64 sq, .string v, .bool has], .int .i64 0]) (by simp [results, Try.results87, go_sem, l0, l1, l2]) rfl ?_
      exact ⟨T8, v, has, 0, by rw [if_pos rfl], hver, by first | exact hvi | exact Lib.hid (fun _ => hvi.out trivial), HE8.out, by omega, (HFIN.out _ _ _).1, (HFIN.out _ _ _).2⟩
    · have hne : (cd == 0) = false := by rw [beq_eq_false_iff_ne]; exact hcd
      have HCD := Lib.hid hcd
      clear hcd
      go_wp2
      refine bodyPost_ret (v := .tuple #[.agg #[.int .i64 0, .string ⟨#[]⟩, .bool false], .int .i64 cd]) (by simp [results, Try.results87, go_sem, l0, l1, l2]) rfl ?_
      exact ⟨T8, v, has, cd, by rw [if_neg HCD.out], hver, hvi, HE8.out, by omega, (HFIN.out _ _ _).1, (HFIN.out _ _ _).2⟩
end Go.Proofs.Ytfgpchffkpomoaa
