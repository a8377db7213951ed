/- Bytes that are no proof are refused for the first thing that is wrong with them: the walk. -/
import Derived.Test.YtfgpchffkpomoaaVer
import Derived.Test.YtfgpchffkpomoaaPk33
namespace Go.Proofs.Ytfgpchffkpomoaa
set_option linter.unusedSimpArgs false
set_option linter.unusedVariables false
open Go.RowKit

theorem open_none (m : Sg) : openE [] m = (zeroBd, 30) := by
  unfold openE
  rw [if_neg]
  unfold checkE checkS place
  simp
theorem ver_none (F : Int) (s : ByteArray) : verE [] F s = if (ofSg s).2 ≠ 0 then (ofSg s).2 else 30 := by
  unfold verE
  simp only [open_none]
  split
  · rfl
  · rw [if_pos (by decide)]
theorem check_none (who : Int) (s g : ByteArray) : checkE [] who s g = false := by
  unfold checkE checkS place
  simp
/-- Nobody votes where only one body was signed that is no vote. -/
theorem voters_none {who : Int} {s : ByteArray} {b : Bd} (hb : ofBody s = (b, 0)) (hk : b.kind ≠ 5) (seq : Int) (dg : ByteArray) (below : Int) : ∀ (l : List Sg) (acc : List Int), votersS [(who, s)] 5 0 seq dg below l acc = acc
  | [], _ => rfl
  | m :: l, acc => by
    unfold votersS
    rw [if_neg]
    · exact voters_none hb hk seq dg below l acc
    · rintro ⟨_, _, h⟩
      unfold voteB openE at h
      by_cases hc : checkE [(who, s)] m.who m.body m.sig = true
      · rw [if_pos hc] at h
        have hm : m.body = s := by
          unfold checkE checkS place at hc
          simp only [Bool.and_eq_true] at hc
          by_cases he : (who, s) = (m.who, m.body)
          · exact (Prod.mk.inj he).2.symm
          · rw [if_neg he] at hc
            simp [place] at hc
        rw [hm, hb] at h
        simp only [Bool.and_eq_true, beq_iff_eq] at h
        exact hk h.2.1
      · rw [if_neg hc] at h
        simp at h
theorem ver_sealed {who : Int} {b : Bd} {sg : Sg} {S : List Wd} (hw : 0 ≤ who ∧ who ≤ 255) (h : sealE [] who b = ((sg, 0), S)) : (bytesE b).2 = 0 ∧ fitsB sg = true ∧ S.length ≤ 1 ∧ verE S 1 (bs (putSg sg)) = if b.kind ≠ 13 then 13 else 30 := by
  have hb : (bytesE b).2 = 0 := by
    by_cases hb : (bytesE b).2 = 0
    · exact hb
    · unfold sealE at h
      rw [if_neg hb] at h
      exact absurd (Prod.mk.inj (Prod.mk.inj h).1).2 hb
  obtain ⟨m, S', h1, h2, h3⟩ := seal_said (S := []) hw hb
  rw [h1] at h
  obtain ⟨h4, rfl⟩ := Prod.mk.inj h
  obtain rfl := (Prod.mk.inj h4).1
  refine ⟨hb, h2.fits, by simpa using h3, ?_⟩
  unfold verE
  rw [h2.reads]
  simp only
  rw [h2.opens]
  simp only [ne_eq, not_true_eq_false, if_false]
  by_cases hk : b.kind = 13
  · have hS : S' = [(who, (bytesE b).1)] := by
      obtain ⟨p, e1, _⟩ := sealE_ok (S := []) hw hb
      rw [h1] at e1
      rw [(Prod.mk.inj e1).2]
      unfold signE
      rw [if_pos hw]
      rfl
    have hob := (of_bytes (b := b) (s := (bytesE b).1) (by rw [← hb])).1
    rw [hS, voters_none hob (by rw [hk]; decide)]
    simp [hk]
  · simp [hk]
theorem keep3 {w : World} {R : Nat} {p : Addr} {v v0 v1 v2 : Value} (h : w.cell? p = some v) (hp : p.block ≠ R) : (((w.setCell ⟨R, 0, none⟩ v0).setCell ⟨R, 1, none⟩ v1).setCell ⟨R, 2, none⟩ v2).cell? p = some v := by
  rw [← h]
  refine World.cell?_of_block ?_
  rw [Below.heap_setCell _ _ _ _ (fun e => hp e), Below.heap_setCell _ _ _ _ (fun e => hp e), Below.heap_setCell _ _ _ _ (fun e => hp e)]
theorem eqLight (w : World) : (Op.equalIn 10000 149 (.agg #[.int .i64 0, .string ⟨#[]⟩, .bool false]) (.agg #[.int .i64 0, .string ⟨#[]⟩, .bool false])).run Try.prog w = .ok true w := by
  rw [show (10000 : Nat) = 9999 + 1 from rfl, run_equalIn_struct (P := Try.prog) w 9999 149 _ _ (by kernel_rfl) (by kernel_rfl)]
  simp only [Program.fieldsOf, Try.underlying149]
  simp [Op.eqFields, go_sem]

set_option maxHeartbeats 16000000 in
set_option maxRecDepth 100000 in
theorem clientVerifies_calls (xb : Bd) (A : Option Addr) (c : Nat) (key raw : ByteArray) (W : World) (hs : SgS W A c xb.list) (hraw : raw.size ≤ maxLen) : Calls Try.prog 29 #[xb.val A c, .string key, .string raw] W (fun e w' => e = .returned (.bool true) ∧ Below W.heap.size W w') := by
  have HN := Lib.hid (fun w => newBook_calls w)
  unfold NewPost at HN
  have HCF := Lib.hid (fun w => config_calls 0 w)
  rw [faults0] at HCF
  have HAW := Lib.hid (fun w => awake12_calls w)
  have HROS := Lib.hid (fun w => rofSg_calls raw w hraw)
  unfold OfSgPost at HROS
  have HVN := Lib.hid (fun b t m n T w hb hT h1 => verifyNo_calls 1 3 2 5 b t m n T [] key raw (if (ofSg raw).2 ≠ 0 then (ofSg raw).2 else 30) w hb hT (by decide) hraw (by decide) (by decide) (ver_none _ _) h1)
  have HSL := Lib.hid (fun b t m n T w hb hs => seal_calls b t m n T [] 2 xb A c w hb (by decide) hs)
  unfold SealPost at HSL
  have HCK := Lib.hid (fun b t m n T (sg : Sg) w hb h1 => check_calls b t m n T [] sg.who sg.body sg.sig w hb (by decide) h1)
  have hfm := (fitsB_iff _).1 (ofSg_fits raw)
  obtain ⟨⟨m1, e1⟩, hr⟩ : ∃ r, ofSg raw = r := ⟨_, rfl⟩
  rw [hr] at HROS HVN hfm
  simp only at HROS HVN hfm
  obtain ⟨cd, hcd⟩ : ∃ cd, cd = (if e1 ≠ 0 then e1 else 30) := ⟨_, rfl⟩
  have hcd0 : cd ≠ 0 := by rw [hcd]; by_cases h : e1 = 0 <;> simp [h]
  rw [← hcd] at HVN
  have HCD := Lib.hid hcd
  clear hcd
  obtain ⟨who1, body1, sig1⟩ := m1
  unfold Sg.val at HROS
  simp only at hfm HROS
  have HSD := Lib.hid (fun sg S h => ver_sealed (who := 2) (b := xb) (sg := sg) (S := S) (by decide) h)
  obtain ⟨⟨⟨sg, sc⟩, S'⟩, hse⟩ : ∃ r, sealE [] 2 xb = r := ⟨_, rfl⟩
  rw [hse] at HSL HSD
  simp only at HSL
  have HS := Lib.hid hs
  obtain ⟨kd, vw, sq, cl, st, dg, tx, ls⟩ := xb
  unfold Bd.val Bd.cells at *
  simp only at *
  have hA0 := (Below.refl W.heap.size W).alloc (Nat.le_refl _) (.cells #[.int .i64 kd, .int .i64 vw, .int .i64 sq, .int .i64 cl, .int .i64 st, .string dg, .string tx, .slice A ls.length c] 59)
  obtain ⟨W0, hW0⟩ : ∃ W0, W0 = W.alloc (.cells #[.int .i64 kd, .int .i64 vw, .int .i64 sq, .int .i64 cl, .int .i64 st, .string dg, .string tx, .slice A ls.length c] 59) := ⟨_, rfl⟩
  have HB0 := Lib.hid (show Below W.heap.size W W0 by rw [hW0]; exact hA0)
  have HX0 := Lib.hid (show Box W0 W.heap.size #[.int .i64 kd, .int .i64 vw, .int .i64 sq, .int .i64 cl, .int .i64 st, .string dg, .string tx, .slice A ls.length c] 59 by rw [hW0]; exact Box.new W _ _)
  have HWW := Lib.hid hW0
  have hz0 := HB0.out.size
  clear hs hr hse hA0 hW0
  go_enter Try.func29, Try.ntmps29
  go_wp2_with fail
  rw [← HWW.out]
  refine (HN.out _).mono ?_
  rintro e w1 ⟨b, t, m, n, rfl, hb1, hk1, hb, ht, hm, hn⟩
  have HB1 := Lib.hid (HB0.out.trans (hb1.mono hz0))
  have hz1 := HB1.out.size
  have HK1 := Lib.hid hk1
  have HX1 := Lib.hid (HX0.out.call hb1)
  have hW0z : W.heap.size < W0.heap.size := HX0.out.lt
  clear hb1 hk1
  go_wp2_with fail
  refine (HCF.out _).mono ?_
  rintro e w2 ⟨rfl, hb2⟩
  have hal := (Below.refl w2.heap.size w2).alloc (Nat.le_refl _) (.cells #[.int .i64 ((1 : Nat) : Int), .int .i64 3, .int .i64 2, .int .i64 5] 104)
  have hz12 := hb2.size
  have HB2 := Lib.hid ((HB1.out.trans (hb2.mono hz1)).trans (hal.mono (by omega)))
  have HK2 := Lib.hid ((HK1.out.below hb2).below hal)
  have HX2 := Lib.hid ((HX1.out.call hb2).alloc (.cells #[.int .i64 ((1 : Nat) : Int), .int .i64 3, .int .i64 2, .int .i64 5] 104))
  have HG2 := Lib.hid (Box.new w2 #[.int .i64 ((1 : Nat) : Int), .int .i64 3, .int .i64 2, .int .i64 5] 104)
  have hz2 := HB2.out.size
  have hm2 := (HK1.out.below hb2).tm.lt
  have hn2 := (HK1.out.below hb2).wm.lt
  have hb2l := (HK1.out.below hb2).lt
  obtain ⟨k0, k1, k2, k3, -⟩ := Box.facts4 HG2.out
  have hWw2 : W.heap.size < w2.heap.size := by have := HX1.out.lt; omega
  clear hb2 hal
  have HV1 := Lib.hid (HVN.out b t m n [] _ HK2.out (by decide) hcd0)
  go_wp2_with fail
  refine HV1.out.mono ?_
  rintro e w3 ⟨rfl, T3, e3, l3, ch3, hk3⟩
  obtain ⟨W3, hW3⟩ : ∃ W3, W3 = w3.alloc (.cells #[.int .i64 0, .string ⟨#[]⟩, .bool false] 149) := ⟨_, rfl⟩
  have HC3 := Lib.hid (show Ch W.heap.size (fun _ => False) W W3 by rw [hW3]; exact ((Ch.of_below (S := fun _ => False) HB2.out).step ch3 hz2 (fun i hi e => by omega)).alloc (by have := ch3.size; omega) _)
  have HK3 := Lib.hid (show Bk W3 b t m n T3 [] by rw [hW3]; exact hk3.alloc _)
  have HX3 := Lib.hid (show Box W3 W.heap.size #[.int .i64 kd, .int .i64 vw, .int .i64 sq, .int .i64 cl, .int .i64 st, .string dg, .string tx, .slice A ls.length c] 59 by rw [hW3]; exact (Box.ch HX2.out ch3 HX2.out.lt (by omega)).alloc _)
  have HG3 := Lib.hid (show Box W3 w2.heap.size #[.int .i64 ((1 : Nat) : Int), .int .i64 3, .int .i64 2, .int .i64 5] 104 by rw [hW3]; exact (Box.ch HG2.out ch3 HG2.out.lt (by omega)).alloc _)
  have HL3 := Lib.hid (show Box W3 w3.heap.size #[.int .i64 0, .string ⟨#[]⟩, .bool false] 149 by rw [hW3]; exact Box.new w3 _ _)
  have hz3 := HC3.out.size
  have hw23 : w2.heap.size < w3.heap.size := by have := ch3.size; simp at this; omega
  have HE3 := Lib.hid e3
  have hWW3 := Lib.hid hW3
  clear ch3 hk3 e3 k0 k1 k2 k3 HV1
  go_wp2_with fail
  rw [← hW3]
  clear hW3
  refine (HROS.out _).mono ?_
  rintro e w4 ⟨rfl, hb4⟩
  obtain ⟨W4, hW4⟩ : ∃ W4, W4 = w4.alloc (.cells #[.int .i64 who1, .string body1, .string sig1] 61) := ⟨_, rfl⟩
  have HC4 := Lib.hid (show Ch W.heap.size (fun _ => False) W W4 by rw [hW4]; exact (HC3.out.step (Ch.of_below (S := fun _ => False) hb4) hz3 (fun _ _ e => e)).alloc (by have := hb4.size; omega) _)
  have HK4 := Lib.hid (show Bk W4 b t m n T3 [] by rw [hW4]; exact (HK3.out.below hb4).alloc _)
  have HX4 := Lib.hid (show Box W4 W.heap.size #[.int .i64 kd, .int .i64 vw, .int .i64 sq, .int .i64 cl, .int .i64 st, .string dg, .string tx, .slice A ls.length c] 59 by rw [hW4]; exact (HX3.out.call hb4).alloc _)
  have HG4 := Lib.hid (show Box W4 w2.heap.size #[.int .i64 ((1 : Nat) : Int), .int .i64 3, .int .i64 2, .int .i64 5] 104 by rw [hW4]; exact (HG3.out.call hb4).alloc _)
  have HL4 := Lib.hid (show Box W4 w3.heap.size #[.int .i64 0, .string ⟨#[]⟩, .bool false] 149 by rw [hW4]; exact (HL3.out.call hb4).alloc _)
  have HM4 := Lib.hid (show Box W4 w4.heap.size #[.int .i64 who1, .string body1, .string sig1] 61 by rw [hW4]; exact Box.new w4 _ _)
  have hz4 := HC4.out.size
  have hw34 : w3.heap.size < w4.heap.size := by have := HL3.out.lt; have := hb4.size; omega
  have hwl4 : w4.heap.size < W4.heap.size := HM4.out.lt
  clear hb4
  obtain ⟨l0, l1, l2, g0, g1, g2⟩ := Box.facts3 HL4.out
  obtain ⟨m0, m1, m2, -⟩ := Box.facts3 HM4.out
  obtain ⟨x0, x1, x2, x3, x4, x5, x6, x7, -⟩ := HX4.out.facts8
  have hWW4 := Lib.hid hW4
  rw [hW4] at l0 l1 l2 g0 g1 g2 m0 m1 m2 x0 x1 x2 x3 x4 x5 x6 x7
  have heq : ∀ w, (Op.equalIn 10000 149 (.agg #[.int .i64 0, .string ⟨#[]⟩, .bool false]) (.agg #[.int .i64 0, .string ⟨#[]⟩, .bool false])).run Try.prog w = .ok true w := fun w => eqLight w
  clear hW4
  by_cases h1 : e1 = 0
  rotate_left
  · have hne : (e1 == 0) = false := by rw [beq_eq_false_iff_ne]; exact h1
    obtain rfl : cd = e1 := by rw [HCD.out, if_pos h1]
    clear h1 HCD
    go_wp2_with fail
    rw [← hWW4.out] at *
    refine (HAW.out _).mono ?_
    rintro e wb ⟨rfl, hbb⟩
    go_wp2
    go_ret
    exact ⟨rfl, (HC4.out.step (Ch.of_below (S := fun _ => False) hbb) hz4 (fun _ _ e => e)).below (fun _ _ e => e)⟩
  · subst h1
    obtain rfl : cd = 30 := by rw [HCD.out, if_neg (by simp)]
    have HCK4 := Lib.hid (HCK.out b t m n T3 ⟨who1, body1, sig1⟩ W4 HK4.out (by have := hfm.2.2.1; simp only [maxLen]; omega))
    rw [check_none] at HCK4
    simp only at HCK4
    go_wp2_with fail
    rw [← hWW4.out] at *
    refine HCK4.out.mono ?_
    rintro e w5 ⟨rfl, hb5⟩
    have HK5 := Lib.hid (HK4.out.below hb5)
    have HX5 := Lib.hid (HX4.out.call hb5)
    have HG5 := Lib.hid (HG4.out.call hb5)
    have HL5 := Lib.hid (HL4.out.call hb5)
    have HC5 := Lib.hid (HC4.out.step (Ch.of_below (S := fun _ => False) hb5) hz4 (fun _ _ e => e))
    have hz5 := HC5.out.size
    have hw45 : w4.heap.size < w5.heap.size := by have := hb5.size; omega
    have hn5 := HK5.out.wm.lt
    have HSL5 := Lib.hid (HSL.out b t m n T3 w5 HK5.out (HS.out.below (HC5.out.below (fun _ _ e => e))))
    clear hb5 l0 l1 l2 g0 g1 g2 m0 m1 m2 x0 x1 x2 x3 x4 x5 x6 x7
    obtain ⟨x0, x1, x2, x3, x4, x5, x6, x7, -⟩ := HX5.out.facts8
    go_wp2_with fail
    refine HSL5.out.mono ?_
    rintro e w6 ⟨rfl, hc6, hk6⟩
    obtain ⟨who2, body2, sig2⟩ := sg
    unfold Sg.val
    obtain ⟨W6, hW6⟩ : ∃ W6, W6 = w6.alloc (.cells #[.int .i64 who2, .string body2, .string sig2] 61) := ⟨_, rfl⟩
    have HC6 := Lib.hid (show Ch W.heap.size (fun _ => False) W W6 by rw [hW6]; exact (HC5.out.step hc6 hz5 (fun i hi e => by omega)).alloc (by have := hc6.size; omega) _)
    have HK6 := Lib.hid (show Bk W6 b t m n T3 S' by rw [hW6]; exact hk6.alloc _)
    have HX6 := Lib.hid (show Box W6 W.heap.size #[.int .i64 kd, .int .i64 vw, .int .i64 sq, .int .i64 cl, .int .i64 st, .string dg, .string tx, .slice A ls.length c] 59 by rw [hW6]; exact (Box.ch HX5.out hc6 HX5.out.lt (by omega)).alloc _)
    have HG6 := Lib.hid (show Box W6 w2.heap.size #[.int .i64 ((1 : Nat) : Int), .int .i64 3, .int .i64 2, .int .i64 5] 104 by rw [hW6]; exact (Box.ch HG5.out hc6 HG5.out.lt (by omega)).alloc _)
    have HL6 := Lib.hid (show Box W6 w3.heap.size #[.int .i64 0, .string ⟨#[]⟩, .bool false] 149 by rw [hW6]; exact (Box.ch HL5.out hc6 HL5.out.lt (by omega)).alloc _)
    have HM6 := Lib.hid (show Box W6 w6.heap.size #[.int .i64 who2, .string body2, .string sig2] 61 by rw [hW6]; exact Box.new w6 _ _)
    have hz6 := HC6.out.size
    have hw56 : w5.heap.size ≤ w6.heap.size := hc6.size
    have hwl6 : w6.heap.size < W6.heap.size := HM6.out.lt
    have hWW6 := Lib.hid hW6
    clear hc6 hk6 x0 x1 x2 x3 x4 x5 x6 x7
    by_cases hg : sc = 0
    rotate_left
    · have hne : (sc == 0) = false := by rw [beq_eq_false_iff_ne]; exact hg
      clear hg hW6
      go_wp2_with fail
      rw [← hWW6.out] at *
      refine (HAW.out _).mono ?_
      rintro e wb ⟨rfl, hbb⟩
      go_wp2
      go_ret
      exact ⟨rfl, (HC6.out.step (Ch.of_below (S := fun _ => False) hbb) hz6 (fun _ _ e => e)).below (fun _ _ e => e)⟩
    · subst hg
      obtain ⟨hbz, hfs, hSl, hver⟩ := HSD.out _ _ rfl
      have hfb := (fitsB_iff _).1 hfs
      have hpl := putSg_len hfs
      have HO := Lib.hid (fun w => rOne_calls ⟨who2, body2, sig2⟩ w hfb.1 (by omega) (by omega) (by omega))
      unfold StrPost Sg.val at HO
      simp only at HO hfb hver
      obtain ⟨out, hout⟩ : ∃ o, o = bs (putSg ⟨who2, body2, sig2⟩) := ⟨_, rfl⟩
      have hos : out.size ≤ maxLen := by rw [hout, bs_size]; simp only [maxLen]; simp only at hpl; omega
      rw [← hout] at HO hver
      obtain ⟨c2, hc2⟩ : ∃ c2, c2 = (if kd ≠ 13 then (13 : Int) else 30) := ⟨_, rfl⟩
      rw [← hc2] at hver
      have hc20 : c2 ≠ 0 := by rw [hc2]; by_cases h : kd = 13 <;> simp [h]
      have HC2 := Lib.hid hc2
      have HVN2 := Lib.hid (fun w hb => verifyNo_calls 1 3 2 5 b t m n T3 S' key out c2 w hb (by simp at l3; omega) (by omega) hos (by decide) (by decide) hver hc20)
      clear hc2 hver hbz hfs hfb hpl hout hos hSl
      go_wp2_with fail
      rw [← hW6]
      have hKD := HK6.out.drew
      have hGD := HG6.out.drew
      have hMD := HM6.out.drew
      have hLD := HL6.out.drew
      have hXD := HX6.out.drew
      have hn3 : w2.heap.size ≠ w3.heap.size := by omega
      have hn6 : w6.heap.size ≠ w3.heap.size := by omega
      obtain ⟨d0, d1, d2, d3, -⟩ := Box.facts4 hGD
      obtain ⟨m0, m1, m2, -⟩ := Box.facts3 hMD
      clear hW6
      go_region_held3 (fun w' => w'.cell? ⟨w2.heap.size, 0, none⟩ = some (.int .i64 ((1 : Nat) : Int)) ∧ w'.cell? ⟨w2.heap.size, 1, none⟩ = some (.int .i64 3) ∧ w'.cell? ⟨w2.heap.size, 2, none⟩ = some (.int .i64 2) ∧ w'.cell? ⟨w2.heap.size, 3, none⟩ = some (.int .i64 5) ∧ w'.cell? ⟨w6.heap.size, 0, none⟩ = some (.int .i64 who2) ∧ w'.cell? ⟨w6.heap.size, 1, none⟩ = some (.string body2) ∧ w'.cell? ⟨w6.heap.size, 2, none⟩ = some (.string sig2)) (with_reducible first | exact ⟨d0, d1, d2, d3, m0, m1, m2⟩ | exact ⟨p0, p1, p2, p3, q0, q1, q2⟩ | exact ⟨r0, r1, r2, r3, s0, s1, s2⟩ | exact ⟨keep3 r0 hn3, keep3 r1 hn3, keep3 r2 hn3, keep3 r3 hn3, keep3 s0 hn6, keep3 s1 hn6, keep3 s2 hn6⟩) (first | (go_at_call 77; refine (HO.out _).mono ?_; rintro e w7 ⟨rfl, hb7⟩; have HK7 := Lib.hid (hKD.below hb7); have HG7 := Lib.hid (hGD.call hb7); have HM7 := Lib.hid (hMD.call hb7); have HL7 := Lib.hid (hLD.call hb7); have HX7 := Lib.hid (hXD.call hb7); have HC7 := Lib.hid (HC6.out.drew.step (Ch.of_below (S := fun _ => False) hb7) (by simpa using hz6) (fun _ _ e => e)); have hz7 := HC7.out.size; obtain ⟨p0, p1, p2, p3, -⟩ := Box.facts4 HG7.out; obtain ⟨q0, q1, q2, -⟩ := Box.facts3 HM7.out; clear hb7) | (go_at_call 87; refine (HVN2.out _ HK7.out).mono ?_; rintro e w8 ⟨rfl, T8, e8, l8, ch8, hk8⟩; have HG8 := Lib.hid (Box.ch HG7.out ch8 HG7.out.lt (by omega)); have HM8 := Lib.hid (Box.ch HM7.out ch8 HM7.out.lt (by omega)); have HL8 := Lib.hid (Box.ch HL7.out ch8 HL7.out.lt (by omega)); have HX8 := Lib.hid (Box.ch HX7.out ch8 HX7.out.lt (by omega)); have HC8 := Lib.hid (HC7.out.step ch8 hz7 (fun i hi e => by omega)); have hz8 := HC8.out.size; obtain ⟨r0, r1, r2, r3, -⟩ := Box.facts4 HG8.out; obtain ⟨s0, s1, s2, -⟩ := Box.facts3 HM8.out; obtain ⟨l0, l1, l2, g0, g1, g2⟩ := Box.facts3 HL8.out; clear ch8 hk8 e8))
      all_goals
        have hn0 : W.heap.size ≠ w3.heap.size := by omega
        have HC9 := Lib.hid (((HC8.out.setCell (p := ⟨w3.heap.size, 0, none⟩) (.inl (by simp only; omega)) (.int .i64 0)).setCell (p := ⟨w3.heap.size, 1, none⟩) (.inl (by simp only; omega)) (.string ⟨#[]⟩)).setCell (p := ⟨w3.heap.size, 2, none⟩) (.inl (by simp only; omega)) (.bool false))
        have hz9 := HC9.out.size
        have x0 := keep3 (v0 := .int .i64 0) (v1 := .string ⟨#[]⟩) (v2 := .bool false) (R := w3.heap.size) ((HX8.out.facts8).1) hn0
        by_cases hk : kd = 13
        · subst hk
          obtain rfl : c2 = 30 := by rw [HC2.out, if_neg (by simp)]
          go_wp2_with fail
          refine (HAW.out _).mono ?_
          rintro e wb ⟨rfl, hbb⟩
          go_wp2
          go_ret
          exact ⟨rfl, (HC9.out.step (Ch.of_below (S := fun _ => False) hbb) hz9 (fun _ _ e => e)).below (fun _ _ e => e)⟩
        · obtain rfl : c2 = 13 := by rw [HC2.out, if_pos hk]
          have hne := bne_iff_ne.2 hk
          clear hk
          go_wp2_with fail
          refine (HAW.out _).mono ?_
          rintro e wb ⟨rfl, hbb⟩
          go_wp2
          go_ret
          exact ⟨rfl, (HC9.out.step (Ch.of_below (S := fun _ => False) hbb) hz9 (fun _ _ e => e)).below (fun _ _ e => e)⟩
end Go.Proofs.Ytfgpchffkpomoaa
