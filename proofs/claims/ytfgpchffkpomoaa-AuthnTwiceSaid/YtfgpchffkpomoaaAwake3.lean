/- Chapter 3's examples: the walk. -/
import Derived.Test.YtfgpchffkpomoaaQuorum
namespace Go.Proofs.Ytfgpchffkpomoaa
set_option linter.unusedSimpArgs false
set_option linter.unusedVariables false
open Go.RowKit

def d1 : ByteArray := ⟨#[0, 0, 0, 0, 0, 0, 0, 1]⟩
def xText : ByteArray := ⟨#[120]⟩
def bd1 : Bd := ⟨3, 0, 1, 0, 0, d1, ⟨#[]⟩, []⟩
def by1 : ByteArray := ⟨#[3, 0, 1, 0, 0, 8, 0, 0, 0, 0, 0, 0, 0, 1, 0, 0]⟩
def sg1 : ByteArray := ⟨#[115, 0, 0, 0, 0, 0, 0, 0, 1]⟩
theorem ex3a : digS [] xText = (d1, [xText]) := by kernel_rfl
theorem ex3b : digS [xText] xText = (d1, [xText]) := by kernel_rfl
theorem ex3c : bytesE bd1 = (by1, 0) := by kernel_rfl
theorem ex3d : sealE [] 2 bd1 = ((⟨2, by1, sg1⟩, 0), [(2, by1)]) := by kernel_rfl
theorem ex3e : openE [(2, by1)] ⟨2, by1, sg1⟩ = (bd1, 0) := by kernel_rfl
theorem ex3f : openE [(2, by1)] ⟨3, by1, sg1⟩ = (zeroBd, 30) := by kernel_rfl
theorem ex3g : (votersS [(2, by1)] 3 0 1 d1 4 [⟨2, by1, sg1⟩, ⟨2, by1, sg1⟩] []).length = 1 := by kernel_rfl

theorem Sl.of_box {w : World} {k sz n c : Nat} {cs : Array Value} {T : TypeId} {xs : List Value} (h : Box w k cs T) (hx : cs.toList = xs) (hl : xs.length = n * sz) (hn : n ≤ 9223372036854775807) : Sl w sz (some ⟨k, 0, none⟩) n c xs :=
  ⟨hl, hn, fun j u hj => ⟨_, rfl, news_box h j u (by rw [hx]; exact hj)⟩⟩

/-- A call that changes one block of one's own, or what is new. -/
theorem below_ch {B k : Nat} {w0 w w' : World} (h : Below B w0 w) (hc : Ch w.heap.size (· = k) w w') (hk : B ≤ k) (hB : B ≤ w.heap.size) : Below B w0 w' := (HB5of h hc hB hk).below (fun _ _ h => h)
theorem Box.keep {w w' : World} {k j : Nat} {cs : Array Value} {T : TypeId} (h : Box w k cs T) (hc : Ch w.heap.size (· = j) w w') (hj : k ≠ j) : Box w' k cs T := h.ch hc h.lt hj

set_option maxRecDepth 100000 in
theorem prepare_calls (seq : Int) (d : ByteArray) (w : World) : Calls Try.prog 111 #[.int .i64 seq, .string d] w fun e w' => e = .returned (Bd.val ⟨3, 0, seq, 0, 0, d, ⟨#[]⟩, []⟩ none 0) ∧ Below w.heap.size w w' := by
  go_enter Try.func111, Try.ntmps111
  go_wp2
  refine bodyPost_ret (v := Bd.val ⟨3, 0, seq, 0, 0, d, ⟨#[]⟩, []⟩ none 0) (by simp [results, Try.results111, go_sem]) rfl ?_
  exact ⟨rfl, (Below.refl _ _).alloc (Nat.le_refl _) _⟩

set_option maxHeartbeats 1000000 in
set_option maxRecDepth 100000 in
theorem awake3_calls (w : World) : Calls Try.prog 50 #[] w (BoolPost true w) := by
  have H0 := Lib.hid (fun w => newBook_calls w)
  unfold NewPost at H0
  go_enter Try.func50, Try.ntmps50
  go_wp2_with fail
  refine (H0.out _).mono ?_
  rintro e w1 ⟨b, t, m, n, rfl, hb1, hk1, g1, g2, g3, g4⟩
  have HB1 := Lib.hid hb1
  have HK1 := Lib.hid hk1
  have hz1 := hb1.size
  clear hb1 hk1
  have HD := Lib.hid (fun T w hb (hT : T.length ≤ 1000000000) => digest_calls b t m n T [] xText w hb hT (by decide))
  unfold TextPost at HD
  go_wp2_with fail
  refine (HD.out [] _ HK1.out (by decide)).mono ?_
  rw [ex3a]
  rintro e w2 ⟨rfl, hc2, hk2⟩
  have HB2 := Lib.hid (below_ch HB1.out hc2 g3 hz1)
  have HK2 := Lib.hid hk2
  clear hc2 hk2
  go_wp2_with fail
  refine (HD.out [xText] _ HK2.out (by decide)).mono ?_
  rw [ex3b]
  rintro e w3 ⟨rfl, hc3, hk3⟩
  have HB3 := Lib.hid (below_ch HB2.out hc3 g3 HB2.out.size)
  have HK3 := Lib.hid hk3
  clear hc3 hk3
  go_wp2_with fail
  refine (prepare_calls _ _ _).mono ?_
  rintro e w4 ⟨rfl, hb4⟩
  have HB4 := Lib.hid (HB3.out.trans (hb4.mono HB3.out.size))
  have HK4 := Lib.hid (HK3.out.below hb4)
  clear hb4
  have HS := Lib.hid (fun w hb => seal_calls b t m n [xText] [] 2 bd1 none 0 w hb (by decide) ⟨rfl, by decide, fun j u h => by simp [bd1] at h⟩)
  rw [ex3d] at HS
  unfold SealPost at HS
  unfold bd1 Bd.val Bd.cells at HS
  simp only at HS
  go_wp2_with fail
  refine (HS.out _ HK4.out).mono ?_
  rintro e w5 ⟨rfl, hc5, hk5⟩
  have HB5 := Lib.hid (below_ch HB4.out hc5 g4 HB4.out.size)
  have HK5 := Lib.hid hk5
  clear hc5 hk5
  have HO := Lib.hid (fun w hb => open_calls b t m n [xText] [(2, by1)] ⟨2, by1, sg1⟩ w hb (by decide) (by decide))
  rw [ex3e] at HO
  unfold BodyErr at HO
  have HO2 := Lib.hid (fun w hb => open_calls b t m n [xText] [(2, by1)] ⟨3, by1, sg1⟩ w hb (by decide) (by decide))
  rw [ex3f] at HO2
  unfold BodyErr at HO2
  unfold bd1 zeroBd Bd.val Bd.cells Sg.val at *
  simp only at HO HO2
  go_wp2_with fail
  refine (HO.out _ (HK5.out.alloc _)).mono ?_
  rintro e w6 ⟨A6, c6, rfl, hb6, ho6⟩
  have hx6 := (Box.new w5 #[.int .i64 2, .string by1, .string sg1] 61).call hb6
  have HB6 := Lib.hid ((HB5.out.alloc HB5.out.size _).trans (hb6.mono (by have := HB5.out.size; simp; omega)))
  have HK6 := Lib.hid ((HK5.out.alloc _).below hb6)
  have HX6 := Lib.hid hx6
  have hz6 : w5.heap.size < w6.heap.size := hx6.lt
  clear hb6 ho6
  obtain ⟨p0, p1, p2, pf0, _⟩ := hx6.facts3
  clear hx6
  have HQ := Lib.hid (fun w hb A c hs => quorum_calls b t m n [xText] [(2, by1)] A c [⟨2, by1, sg1⟩, ⟨2, by1, sg1⟩] 3 0 1 d1 4 w hb (by decide) hs (by intro x hx; simp at hx; subst hx; exact ⟨by decide, by decide, by decide⟩))
  rw [ex3g] at HQ
  unfold IntAny at HQ
  have HK7 := Lib.hid ((HK6.out.alloc (.cells #[.int .i64 3, .int .i64 0, .int .i64 1, .int .i64 0, .int .i64 0, .string d1, .string ⟨#[]⟩, .slice A6 0 c6] 59)).alloc (.cells #[.int .i64 2, .string by1, .string sg1, .int .i64 2, .string by1, .string sg1] 61))
  have HS7 := Lib.hid (show SgS ((w6.alloc (.cells #[.int .i64 3, .int .i64 0, .int .i64 1, .int .i64 0, .int .i64 0, .string d1, .string ⟨#[]⟩, .slice A6 0 c6] 59)).alloc (.cells #[.int .i64 2, .string by1, .string sg1, .int .i64 2, .string by1, .string sg1] 61)) (some ⟨w6.heap.size + 1, 0, none⟩) 2 [⟨2, by1, sg1⟩, ⟨2, by1, sg1⟩] by
    have h := Box.new (w6.alloc (.cells #[.int .i64 3, .int .i64 0, .int .i64 1, .int .i64 0, .int .i64 0, .string d1, .string ⟨#[]⟩, .slice A6 0 c6] 59)) #[.int .i64 2, .string by1, .string sg1, .int .i64 2, .string by1, .string sg1] 61
    simp only [World.size_alloc] at h
    exact Sl.of_box h rfl rfl (by decide))
  have HB7 := Lib.hid ((HB6.out.alloc HB6.out.size (.cells #[.int .i64 3, .int .i64 0, .int .i64 1, .int .i64 0, .int .i64 0, .string d1, .string ⟨#[]⟩, .slice A6 0 c6] 59)).alloc (by have := HB6.out.size; simp; omega) (.cells #[.int .i64 2, .string by1, .string sg1, .int .i64 2, .string by1, .string sg1] 61))
  have HX7 := Lib.hid ((HX6.out.alloc (.cells #[.int .i64 3, .int .i64 0, .int .i64 1, .int .i64 0, .int .i64 0, .string d1, .string ⟨#[]⟩, .slice A6 0 c6] 59)).alloc (.cells #[.int .i64 2, .string by1, .string sg1, .int .i64 2, .string by1, .string sg1] 61))
  have HY7 := Lib.hid ((Box.new w6 #[.int .i64 3, .int .i64 0, .int .i64 1, .int .i64 0, .int .i64 0, .string d1, .string ⟨#[]⟩, .slice A6 0 c6] 59).alloc (.cells #[.int .i64 2, .string by1, .string sg1, .int .i64 2, .string by1, .string sg1] 61))
  go_wp2_with fail
  refine (HQ.out _ HK7.out _ 2 HS7.out).mono ?_
  rintro e w8 ⟨rfl, hb8⟩
  have HK8 := Lib.hid (HK7.out.below hb8)
  have HB8 := Lib.hid (HB7.out.trans (hb8.mono HB7.out.size))
  have hx8 := HX7.out.call hb8
  have HX8 := Lib.hid hx8
  have HY8 := Lib.hid (HY7.out.call hb8)
  have hz8 := HY8.out.lt
  clear hb8 p0 p1 p2 pf0
  have HFAR := Lib.hid (HK5.out.far (k := w5.heap.size) (Nat.le_refl _))
  obtain ⟨p0, p1, p2, pf0, _⟩ := hx8.facts3
  have HX9 := Lib.hid (by have h := HX8.out.set 0 (.int .i64 3); simpa using h : Box (w8.setCell ⟨w5.heap.size, 0, none⟩ (.int .i64 3)) w5.heap.size #[.int .i64 3, .string by1, .string sg1] 61)
  have HK9 := Lib.hid (HK8.out.setCell (p := ⟨w5.heap.size, 0, none⟩) HFAR.out (.int .i64 3))
  have HB9 := Lib.hid (HB8.out.setCell (p := ⟨w5.heap.size, 0, none⟩) HB5.out.size (.int .i64 3))
  have HY9 := Lib.hid (HY8.out.other (a := ⟨w5.heap.size, 0, none⟩) (by simp only; omega) (.int .i64 3))
  clear hx8
  go_wp2_with fail
  refine (HO2.out _ HK9.out).mono ?_
  rintro e w10 ⟨A10, c10, rfl, hb10, ho10⟩
  have HB10 := Lib.hid (HB9.out.trans (hb10.mono HB9.out.size))
  have hy10 := HY9.out.call hb10
  clear hb10 ho10
  have y2 := hy10.cell 2
  simp at y2
  have hlt := hy10.lt
  clear hy10
  have hdd : (d1.toList == [0, 0, 0, 0, 0, 0, 0, 1]) = true := by kernel_rfl
  go_wp2
  go_ret
  exact ⟨rfl, HB10.out.alloc HB10.out.size _⟩
end Go.Proofs.Ytfgpchffkpomoaa
