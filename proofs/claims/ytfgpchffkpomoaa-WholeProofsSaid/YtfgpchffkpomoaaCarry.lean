/- A proof that goes over as bytes in a sealed body: in plain words, and the walk. -/
import Derived.Test.YtfgpchffkpomoaaMSound
import Derived.Test.YtfgpchffkpomoaaOfPf
import Derived.Test.YtfgpchffkpomoaaPk09
import Derived.Test.YtfgpchffkpomoaaPlainBd
import Derived.Test.YtfgpchffkpomoaaPk23
namespace Go.Proofs.Ytfgpchffkpomoaa
set_option linter.unusedSimpArgs false
set_option linter.unusedVariables false
open Go.RowKit

def carryB (root t : ByteArray) : Bd := ⟨13, 0, 4, 0, 0, root, t, [⟨1, ⟨#[99]⟩, ⟨#[]⟩⟩]⟩
theorem carry_right {root t : ByteArray} (hr : root.size = 8) (ht : 0 < t.size) (htl : t.size ≤ 1000000) : rightE (carryB root t) = 0 := by
  have h1 : root.toList.isEmpty = false := by have := has_text root; rw [decide_eq_true (by omega)] at this; simpa using this
  have h2 : t.toList.isEmpty = false := by have := has_text t; rw [decide_eq_true (by omega)] at this; simpa using this
  have hm : (carryB root t).mask = 114 := by
    unfold Bd.mask Bd.flags carryB
    simp only [h1, h2]
    rfl
  have ha : partA (carryB root t) = true := by unfold partA carryB; simp
  have hb : partB (carryB root t) = true := by
    unfold partB
    rw [hm]
    unfold partBr carryB
    simp only [Bool.and_eq_true, decide_eq_true_eq]
    exact ⟨by omega, by show t.size ≤ 1048576; omega, by decide, by decide +kernel, by decide +kernel, by decide⟩
  have hc : partC (carryB root t) = true := by unfold partC carryB; rw [if_pos (by simp)]; rfl
  unfold rightE
  rw [if_neg (by unfold carryB; simp), ha, hb, hc]
  rfl
theorem texts_len : ∀ (l : List ByteArray), (∀ s ∈ l, s.size ≤ 32) → (l.flatMap putText).length ≤ 41 * l.length
  | [], _ => by simp
  | s :: l, h => by
    have h1 := h s (by simp)
    have h2 := texts_len l (fun x hx => h x (by simp [hx]))
    have h3 := putNum_len 8 s.size (by omega)
    simp only [List.flatMap_cons, List.length_append, putText_length, List.length_cons]
    omega
theorem putPt_len {x : Pt} (h : ptOk x = true) : (putPt x).length ≤ 5000 := by
  unfold ptOk at h
  simp only [Bool.and_eq_true, decide_eq_true_eq, List.all_eq_true] at h
  obtain ⟨h1, h2, h3, h4, h5⟩ := h
  have t1 := texts_len x.sides h5
  have n1 := putNum_len 8 x.index.toNat (by omega)
  have n2 := putNum_len 8 x.key.size (by omega)
  have n3 := putNum_len 8 x.val.size (by omega)
  have n4 := putNum_len 8 x.sides.length (by omega)
  unfold putPt
  simp only [List.length_append, putText_length]
  omega
theorem pts_len : ∀ (l : List Pt), (∀ x ∈ l, ptOk x = true) → (l.flatMap putPt).length ≤ 5000 * l.length
  | [], _ => by simp
  | x :: l, h => by
    have h1 := putPt_len (h x (by simp))
    have h2 := pts_len l (fun x hx => h x (by simp [hx]))
    simp only [List.flatMap_cons, List.length_append, List.length_cons]
    omega
theorem putPf_len {count : Int} {l : List Pt} (h : pfOk count l = true) : 0 < (putPf count l).length ∧ (putPf count l).length ≤ 20000 := by
  unfold pfOk at h
  simp only [Bool.and_eq_true, decide_eq_true_eq, List.all_eq_true] at h
  obtain ⟨h1, h2, h3⟩ := h
  have t1 := pts_len l h3
  have n1 := putNum_len 8 count.toNat (by omega)
  have n2 := putNum_len 8 l.length (by omega)
  have n3 := putNum_pos count.toNat
  unfold putPf
  simp only [List.length_append]
  omega
theorem carry_bytes {root t : ByteArray} (hr : root.size = 8) (ht : 0 < t.size) (htl : t.size ≤ 1000000) : bytesE (carryB root t) = (bs (putBody (carryB root t)), 0) := by
  unfold bytesE
  rw [if_pos (carry_right hr ht htl), if_neg]
  have n1 := putNum_len 8 13 (by omega)
  have n2 := putNum_len 8 0 (by omega)
  have n3 := putNum_len 8 4 (by omega)
  have n4 := putNum_len 8 8 (by omega)
  have n5 := putNum_len 8 t.size (by omega)
  have n6 := putNum_len 8 1 (by omega)
  have n7 := putSg_len (m := ⟨1, ⟨#[99]⟩, ⟨#[]⟩⟩) (by decide)
  rw [putBody_eq]
  simp only [carryB, List.length_append, putText_length, List.flatMap_cons, List.flatMap_nil, List.length_nil, hr, List.length_cons, Nat.zero_add] at *
  have e1 : (13 : Int).toNat = 13 := rfl
  have e2 : (0 : Int).toNat = 0 := rfl
  have e3 : (4 : Int).toNat = 4 := rfl
  have e4 : (⟨#[99]⟩ : ByteArray).size = 1 := rfl
  rw [e1, e2, e3]
  rw [e4] at n7
  omega
theorem carry_seal {root t : ByteArray} {who : Int} (hw : 0 ≤ who ∧ who ≤ 255) (hr : root.size = 8) (ht : 0 < t.size) (htl : t.size ≤ 1000000) :
    sealE [] who (carryB root t) = ((⟨who, bs (putBody (carryB root t)), sigOf 0⟩, 0), [(who, bs (putBody (carryB root t)))]) := by
  unfold sealE
  rw [carry_bytes hr ht htl]
  simp only [if_true]
  unfold signE
  rw [if_pos hw]
  rfl
theorem ofSg_put' {m : Sg} (h : fitsB m = true) : ofSg (bs (putSg m)) = (m, 0) := by
  obtain ⟨f1, f2, f3, f4⟩ := (fitsB_iff m).1 h
  have hl := putSg_len h
  rw [ofSg_short_eq (by rw [bs_size]; omega), signed_put f1 (by omega) f3 (by omega) (at_self _)]
  simp only
  rw [if_neg (by rw [bs_size]; omega), if_pos h]
theorem carry_fits {root t : ByteArray} {who : Int} (hw : 0 ≤ who ∧ who ≤ 255) (hr : root.size = 8) (ht : 0 < t.size) (htl : t.size ≤ 1000000) : fitsB ⟨who, bs (putBody (carryB root t)), sigOf 0⟩ = true := by
  rw [fitsB_iff]
  have h1 := (of_bytes (carry_bytes hr ht htl)).2.2.2
  have h2 := sigOf_size 0
  exact ⟨hw.1, hw.2, h1, by simp only; omega⟩
theorem carry_open {root t : ByteArray} {who : Int} (hw : 0 ≤ who ∧ who ≤ 255) (hr : root.size = 8) (ht : 0 < t.size) (htl : t.size ≤ 1000000) :
    openE [(who, bs (putBody (carryB root t)))] ⟨who, bs (putBody (carryB root t)), sigOf 0⟩ = (carryB root t, 0) := by
  unfold openE
  rw [if_pos]
  · exact (of_bytes (carry_bytes hr ht htl)).1
  · unfold checkE checkS
    simp only
    rw [show place (who, bs (putBody (carryB root t))) [(who, bs (putBody (carryB root t)))] = some 0 by simp [place], decide_eq_true hw]
    simp

theorem keep2 {w : World} {R : Nat} {p : Addr} {v x y : Value} (h : w.cell? p = some v) (hp : p.block ≠ R) : ((w.setCell ⟨R, 0, none⟩ x).setCell ⟨R, 1, none⟩ y).cell? p = some v := by
  rw [← h]
  refine World.cell?_of_block ?_
  rw [Below.heap_setCell _ _ _ _ (fun e => hp e), Below.heap_setCell _ _ _ _ (fun e => hp e)]
/-- What went over: the root, and the same proof in rows of its own. -/
def CarryPost (w0 : World) (b t m n : Nat) (T : List ByteArray) (root : ByteArray) (count : Int) (ps : List Pt) (e : Ending) (w' : World) : Prop :=
  ∃ B c ms S', e = .returned (.tuple #[.string root, .agg #[.int .i64 count, .slice B ms.length c], .bool true]) ∧ ms.map Pm.pt = ps ∧ Ch w0.heap.size (· = n) w0 w' ∧ Bk w' b t m n T S' ∧ PmO w' w0.heap.size B c ms
set_option maxHeartbeats 4000000 in
set_option maxRecDepth 100000 in
theorem carried_calls (b t m n : Nat) (T : List ByteArray) (who : Int) (root : ByteArray) (count : Int) (A : Option Addr) (c : Nat) (ps : List Pm) (w : World) (hb : Bk w b t m n T []) (hw : 0 ≤ who ∧ who ≤ 255) (hr : root.size = 8) (hs : PmS w A c ps) (hok : pfOk count (ps.map Pm.pt) = true) (hA : Off A ps.length n) (hP : ∀ x ∈ ps, Off x.A x.sides.length n) :
    Calls Try.prog 94 #[.pointer (some ⟨b, 0, none⟩), .int .i64 who, .string root, .agg #[.int .i64 count, .slice A ps.length c]] w (CarryPost w b t m n T root count (ps.map Pm.pt)) := by
  have hlt0 := hb.all_lt
  have hfit := hs.1.fits
  have HLT := Lib.hid hlt0
  have hb0 := ((Below.refl w.heap.size w).alloc (Nat.le_refl _) (.cells #[.int .i64 count, .slice A ps.length c] 35)).alloc (by simp) (.cells #[.int .i64 0, .slice none 0 0] 35)
  have hbx := (Box.new w #[.int .i64 count, .slice A ps.length c] 35).alloc (.cells #[.int .i64 0, .slice none 0 0] 35)
  have hby := Box.new (w.alloc (.cells #[.int .i64 count, .slice A ps.length c] 35)) #[.int .i64 0, .slice none 0 0] 35
  simp only [World.size_alloc] at hby
  have HB0 := Lib.hid hb0
  have HBX := Lib.hid hbx
  have HBY := Lib.hid hby
  have HK := Lib.hid (hb.below hb0)
  have HPM := Lib.hid (hs.below hb0)
  have HPP := Lib.hid (fun w hs => wproof_calls count A c ps w hs)
  obtain ⟨l1, l2⟩ := putPf_len hok
  have hpe : proofE count (ps.map Pm.pt) = (bs (putPf count (ps.map Pm.pt)), 0) := by unfold proofE; rw [if_pos hok]
  have HBACK := Lib.hid (proof_back hpe).1
  rw [hpe] at HPP
  unfold StrErr at HPP
  simp only at HPP
  obtain ⟨tt, htt⟩ : ∃ tt, tt = bs (putPf count (ps.map Pm.pt)) := ⟨_, rfl⟩
  have ht1 : 0 < tt.size := by rw [htt, bs_size]; exact l1
  have ht2 : tt.size ≤ 1000000 := by rw [htt, bs_size]; omega
  rw [← htt] at HPP HBACK
  clear htt hpe l1 l2
  have HSE := Lib.hid (fun A c w hb hs => seal_calls b t m n T [] who (carryB root tt) A c w hb (by decide) hs)
  unfold SealPost at HSE
  rw [carry_seal hw hr ht1 ht2] at HSE
  have HFI := Lib.hid (carry_fits (t := tt) hw hr ht1 ht2)
  have HPO := Lib.hid (carry_open (t := tt) hw hr ht1 ht2)
  obtain ⟨y, hy⟩ : ∃ y, y = bs (putBody (carryB root tt)) := ⟨_, rfl⟩
  have hys : y.size ≤ 1048576 := by rw [hy]; exact (of_bytes (carry_bytes hr ht1 ht2)).2.2.2
  rw [← hy] at HSE HFI HPO
  clear hy
  obtain ⟨sg, hsg⟩ : ∃ sg, sg = sigOf 0 := ⟨_, rfl⟩
  rw [← hsg] at HSE HFI HPO
  clear hsg
  simp only at HSE
  have HPS := Lib.hid (fun w => putSigned_calls ⟨who, y, sg⟩ w)
  rw [show putSigned ⟨who, y, sg⟩ = (bs (putSg ⟨who, y, sg⟩), 0) by unfold putSigned; rw [HFI.out]; rfl] at HPS
  unfold StrErr at HPS
  have hsl := putSg_len HFI.out
  have hof := ofSg_put' HFI.out
  obtain ⟨z, hz⟩ : ∃ z, z = bs (putSg ⟨who, y, sg⟩) := ⟨_, rfl⟩
  have hzs : z.size ≤ 2000000 := by rw [hz, bs_size]; simp only at hsl; omega
  rw [← hz] at HPS hof
  simp only at HPS
  have HOS := Lib.hid (fun w => ofSg_calls z w (by simp only [maxLen]; omega))
  rw [hof] at HOS
  unfold OfSgPost at HOS
  simp only at HOS
  have HOP := Lib.hid (fun w hb => open_calls b t m n T [(who, y)] ⟨who, y, sg⟩ w hb (by simp) (by simp only [maxLen]; omega))
  rw [HPO.out] at HOP
  unfold BodyErr at HOP
  have HOF := Lib.hid (fun w => ofPf_calls tt w (by simp only [maxLen]; omega))
  rw [HBACK.out] at HOF
  unfold OfPfPost at HOF
  clear hz hof hsl hb hs hb0 hbx hby hok
  obtain ⟨x0, x1, y0, y1⟩ := HBX.out.facts2
  go_enter Try.func94, Try.ntmps94
  go_wp2_with fail
  refine (HPP.out _ HPM.out).mono ?_
  rintro e w1 ⟨rfl, hb1⟩
  have hz1 : w.heap.size + 2 ≤ w1.heap.size := by have := hb1.size; simpa using this
  have hbl := Box.new w1 #[.int .i64 1, .string ⟨#[99]⟩, .string ⟨#[]⟩] 61
  have hal := (Below.refl w1.heap.size w1).alloc (Nat.le_refl _) (.cells #[.int .i64 1, .string ⟨#[99]⟩, .string ⟨#[]⟩] 61)
  have HSG := Lib.hid (show SgS (w1.alloc (.cells #[.int .i64 1, .string ⟨#[99]⟩, .string ⟨#[]⟩] 61)) (some ⟨w1.heap.size, 0, none⟩) 1 (carryB root tt).list from ⟨rfl, by simp [carryB], fun j u hj => ⟨_, rfl, news_box hbl j u hj⟩⟩)
  have HB1 := Lib.hid ((HB0.out.trans (hb1.mono (by simp; omega))).trans (hal.mono (by omega)))
  have HBY1 := Lib.hid ((HBY.out.ch (Ch.of_below (S := fun _ => False) hb1) HBY.out.lt (fun e => e)).alloc (.cells #[.int .i64 1, .string ⟨#[99]⟩, .string ⟨#[]⟩] 61))
  have HK1 := Lib.hid ((HK.out.below hb1).below hal)
  have HSEAL := Lib.hid (HSE.out (some ⟨w1.heap.size, 0, none⟩) 1 _ HK1.out HSG.out)
  have hnl := HLT.out.2.2.2
  clear hb1 hbl hal x0 x1 y0 y1
  go_wp2_with fail
  refine HSEAL.out.mono ?_
  rintro e w2 ⟨he, ch2, k2⟩
  simp only [Sg.val] at he
  subst he
  have hz2 : w.heap.size + 2 ≤ w2.heap.size := by have := ch2.size; simp at this; omega
  have HC2 := Lib.hid ((Ch.of_below (S := (· = n)) HB1.out).step ch2 (by simp; omega) (fun i hi e => e))
  have HBY2 := Lib.hid (HBY1.out.ch ch2 HBY1.out.lt (by omega))
  have HK2 := Lib.hid k2
  clear ch2 k2
  have HC3 := Lib.hid (HC2.out.alloc (by omega) (.cells #[.int .i64 who, .string y, .string sg] 61))
  have HBY3 := Lib.hid (HBY2.out.alloc (.cells #[.int .i64 who, .string y, .string sg] 61))
  have HK3 := Lib.hid (HK2.out.alloc (.cells #[.int .i64 who, .string y, .string sg] 61))
  obtain ⟨x0, x1, x2, y0, y1, y2⟩ := (Box.new w2 #[.int .i64 who, .string y, .string sg] 61).facts3
  go_wp2_with fail
  refine (HPS.out _).mono ?_
  rintro e w3 ⟨rfl, hb3⟩
  have hz3 : w.heap.size + 3 ≤ w3.heap.size := by have := hb3.size; simp at this; omega
  have HC4 := Lib.hid (HC3.out.step (Ch.of_below (S := fun _ => False) hb3) (by simp; omega) (fun i hi e => e.elim))
  have HBY4 := Lib.hid (HBY3.out.ch (Ch.of_below (S := fun _ => False) hb3) HBY3.out.lt (fun e => e))
  have HK4 := Lib.hid (HK3.out.below hb3)
  clear hb3 x0 x1 x2 y0 y1 y2
  go_wp2_with fail
  refine (HOS.out _).mono ?_
  rintro e w4 ⟨he, hb4⟩
  simp only [Sg.val] at he
  subst he
  have hz4 : w.heap.size + 3 ≤ w4.heap.size := by have := hb4.size; omega
  have HC5 := Lib.hid ((HC4.out.step (Ch.of_below (S := fun _ => False) hb4) (by omega) (fun i hi e => e.elim)).alloc (by omega) (.cells #[.int .i64 who, .string y, .string sg] 61))
  have HBY5 := Lib.hid ((HBY4.out.ch (Ch.of_below (S := fun _ => False) hb4) HBY4.out.lt (fun e => e)).alloc (.cells #[.int .i64 who, .string y, .string sg] 61))
  have HK5 := Lib.hid ((HK4.out.below hb4).alloc (.cells #[.int .i64 who, .string y, .string sg] 61))
  obtain ⟨x0, x1, x2, y0, y1, y2⟩ := (Box.new w4 #[.int .i64 who, .string y, .string sg] 61).facts3
  clear hb4
  go_wp2_with fail
  refine (HOP.out _ HK5.out).mono ?_
  rintro e w5 ⟨LA, lc, he, hb5, ho5⟩
  simp only [Bd.val, Bd.cells, carryB] at he
  subst he
  have hz5 : w.heap.size + 4 ≤ w5.heap.size := by have := hb5.size; simp at this; omega
  have HC6 := Lib.hid (HC5.out.step (Ch.of_below (S := fun _ => False) hb5) (by simp; omega) (fun i hi e => e.elim))
  have HBY6 := Lib.hid (HBY5.out.ch (Ch.of_below (S := fun _ => False) hb5) HBY5.out.lt (fun e => e))
  have HK6 := Lib.hid (HK5.out.below hb5)
  clear hb5 ho5 x0 x1 x2 y0 y1 y2
  go_wp2_with fail
  have HBZ := Lib.hid (Box.new w5 #[.int .i64 13, .int .i64 0, .int .i64 4, .int .i64 0, .int .i64 0, .string root, .string tt, .slice LA 1 lc] 59)
  refine (HOF.out _).mono ?_
  rintro e w6 ⟨B, bc, ms, rfl, hb6, hpo, hms⟩
  have hz6 : w5.heap.size + 1 ≤ w6.heap.size := by have := hb6.size; simpa using this
  have HC7 := Lib.hid (((HC6.out.alloc (by omega) (.cells #[.int .i64 13, .int .i64 0, .int .i64 4, .int .i64 0, .int .i64 0, .string root, .string tt, .slice LA 1 lc] 59)).step (Ch.of_below (S := fun _ => False) hb6) (by simp; omega) (fun i hi e => e.elim)).alloc (by omega) (.cells #[.int .i64 count, .slice B ms.length bc] 35))
  have HBY7 := Lib.hid (((HBY6.out.alloc (.cells #[.int .i64 13, .int .i64 0, .int .i64 4, .int .i64 0, .int .i64 0, .string root, .string tt, .slice LA 1 lc] 59)).ch (Ch.of_below (S := fun _ => False) hb6) (by have := HBY6.out.lt; simp; omega) (fun e => e)).alloc (.cells #[.int .i64 count, .slice B ms.length bc] 35))
  have HK7 := Lib.hid (((HK6.out.alloc (.cells #[.int .i64 13, .int .i64 0, .int .i64 4, .int .i64 0, .int .i64 0, .string root, .string tt, .slice LA 1 lc] 59)).below hb6).alloc (.cells #[.int .i64 count, .slice B ms.length bc] 35))
  have HBZ7 := Lib.hid ((HBZ.out.ch (Ch.of_below (S := fun _ => False) hb6) HBZ.out.lt (fun e => e)).alloc (.cells #[.int .i64 count, .slice B ms.length bc] 35))
  have HBP := Lib.hid (Box.new w6 #[.int .i64 count, .slice B ms.length bc] 35)
  have HPO7 := Lib.hid (hpo.grow (S := fun _ => False) (Ch.of_below ((Below.refl w6.heap.size w6).alloc (Nat.le_refl _) (.cells #[.int .i64 count, .slice B ms.length bc] 35))) (Nat.le_refl _) (fun _ _ h => h))
  have HMS := Lib.hid hms
  have hmf := (Sl.of_own hpo.row).fits
  clear hb6 hpo hms
  obtain ⟨x0, x1, y0, y1⟩ := HBY7.out.facts2
  have z5 := HBZ7.out.cell 5
  obtain ⟨p0, p1, _⟩ := HBP.out.facts2
  go_wp2_with fail
  have hn5 : w5.heap.size ≠ w.heap.size + 1 := by omega
  have hn6 : w6.heap.size ≠ w.heap.size + 1 := by omega
  have z5d : (w6.alloc (.cells #[.int .i64 count, .slice B ms.length bc] 35)).drew.cell? ⟨w5.heap.size, 5, none⟩ = some (.string root) := z5
  have p0d : (w6.alloc (.cells #[.int .i64 count, .slice B ms.length bc] 35)).drew.cell? ⟨w6.heap.size, 0, none⟩ = some (.int .i64 count) := p0
  have p1d : (w6.alloc (.cells #[.int .i64 count, .slice B ms.length bc] 35)).drew.cell? ⟨w6.heap.size, 1, none⟩ = some (.slice B ms.length bc) := p1
  obtain ⟨j0, j1, i0, i1⟩ := HBY7.out.drew.facts2
  go_region_held3 (fun w' => w'.cell? ⟨w5.heap.size, 5, none⟩ = some (.string root) ∧ w'.cell? ⟨w6.heap.size, 0, none⟩ = some (.int .i64 count) ∧ w'.cell? ⟨w6.heap.size, 1, none⟩ = some (.slice B ms.length bc)) (first | exact ⟨z5d, p0d, p1d⟩ | exact ⟨keep2 z5d hn5, keep2 p0d hn6, keep2 p1d hn6⟩) (fail)
  all_goals go_wp2
  all_goals
    have hbx := (box_fill2 HBY7.out (x := .int .i64 count) (y := .slice B ms.length bc)).drew
    obtain ⟨d0, d1, _⟩ := hbx.facts2
    refine bodyPost_ret (v := .tuple #[.string root, .agg #[.int .i64 count, .slice B ms.length bc], .bool true]) (by simp [results, Try.results94, go_sem, d0, d1]) rfl ?_
    have hlt := HLT.out
    have hf : w.heap.size + 1 ≠ b ∧ w.heap.size + 1 ≠ t ∧ w.heap.size + 1 ≠ m ∧ w.heap.size + 1 ≠ n := by omega
    refine ⟨B, bc, ms, _, rfl, HMS.out, ((HC7.out.setCell (p := ⟨w.heap.size + 1, 0, none⟩) (.inl (by simp only; omega)) _).setCell (p := ⟨w.heap.size + 1, 1, none⟩) (.inl (by simp only; omega)) _).drew, ((HK7.out.setCell (p := ⟨w.heap.size + 1, 0, none⟩) hf _).setCell (p := ⟨w.heap.size + 1, 1, none⟩) hf _).drew, ?_⟩
    have hp2 := (HPO7.out.set (b := w.heap.size + 1) (i := 0) (by simp; omega) (.int .i64 count)).set (b := w.heap.size + 1) (i := 1) (by simp; omega) (.slice B ms.length bc)
    exact ⟨own_base (own_drewN hp2.row 1) (by simp; omega), fun x hx => own_base (own_drewN (hp2.sides x hx) 1) (by simp; omega)⟩
end Go.Proofs.Ytfgpchffkpomoaa
