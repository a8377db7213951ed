/- A proof with a change (kind 4): the walk. -/
import Derived.Test.YtfgpchffkpomoaaBent
namespace Go.Proofs.Ytfgpchffkpomoaa
set_option linter.unusedSimpArgs false
set_option linter.unusedVariables false
open Go.RowKit

set_option maxHeartbeats 4000000 in
set_option maxRecDepth 100000 in
theorem bent4_calls (M : Nat → Prop) (K : Nat) (cnt : Int) (A : Option Addr) (c : Nat) (ps : List Pm) (wh ii nn : Int) (tx : ByteArray) (w : World) (hm : ∀ q, M q → q < w.heap.size) (hK : K ≤ 900000) (hs : PfM M K w A c ps) (h0 : ¬ ps.length = 0) (HAR : Hid (∀ w, Calls Try.prog 109 #[.int .i64 wh, .int .i64 10] w fun e w' => e = .returned (.int .i64 4) ∧ w' = w)) (hi : -9223372036854775808 ≤ ii ∧ ii ≤ 9223372036854775807) (hn : -9223372036854775808 ≤ nn ∧ nn ≤ 9223372036854775807) :
    Calls Try.prog 46 #[.agg #[.int .i64 cnt, .slice A ps.length c], .agg #[.int .i64 wh, .int .i64 ii, .int .i64 nn, .string tx]] w (BentPost M (K + 1) w) := by
  have hfit := hs.pm.1.fits
  have hlen := hs.len
  have b1 := (Below.refl w.heap.size w).alloc (Nat.le_refl _) (.cells #[.int .i64 cnt, .slice A ps.length c] 35)
  have b2 := b1.alloc (by simp) (.cells #[.int .i64 wh, .int .i64 ii, .int .i64 nn, .string tx] 49)
  have b3 := b2.alloc (by simp; omega) (.cells #[.int .i64 0, .slice none 0 0] 35)
  have HB3 := Lib.hid b3
  have x1 := ((Box.new w #[.int .i64 cnt, .slice A ps.length c] 35).alloc (.cells #[.int .i64 wh, .int .i64 ii, .int .i64 nn, .string tx] 49)).alloc (.cells #[.int .i64 0, .slice none 0 0] 35)
  have x2 := (Box.new (w.alloc (.cells #[.int .i64 cnt, .slice A ps.length c] 35)) #[.int .i64 wh, .int .i64 ii, .int .i64 nn, .string tx] 49).alloc (.cells #[.int .i64 0, .slice none 0 0] 35)
  have x3 := Box.new ((w.alloc (.cells #[.int .i64 cnt, .slice A ps.length c] 35)).alloc (.cells #[.int .i64 wh, .int .i64 ii, .int .i64 nn, .string tx] 49)) #[.int .i64 0, .slice none 0 0] 35
  simp only [World.size_alloc] at x1 x2 x3
  have HX1 := Lib.hid x1
  have HX2 := Lib.hid x2
  have HX3 := Lib.hid x3
  have HPS := Lib.hid (hs.pm.below b3)
  have HEA := Lib.hid hs.each
  have HOF := Lib.hid hs.off
  have hs_old : ∀ x ∈ ps, 0 < x.sides.length → ∀ q, Row x.A q → q < w.heap.size := fun x hx h0 q hq => Sl.row_lt (hs.pm.2 x hx) (by rw [(hs.pm.2 x hx).len]; omega) q hq
  clear b1 b2 b3 x1 x2 x3 hs
  obtain ⟨p0, p1, -⟩ := HX1.out.facts2
  obtain ⟨q0, q1, q2, q3, -⟩ := HX2.out.facts4
  obtain ⟨a, rfl, -⟩ := HPS.out.elem 0 (by omega)
  go_enter Try.func46, Try.ntmps46
  have hat : ∀ j u, (ps.flatMap Pm.cells)[j]? = some u → (((w.alloc (.cells #[.int .i64 cnt, .slice (some a) ps.length c] 35)).alloc (.cells #[.int .i64 wh, .int .i64 ii, .int .i64 nn, .string tx] 49)).alloc (.cells #[.int .i64 0, .slice none 0 0] 35)).cell? (a.add j) = some u := fun j u hj => by
    obtain ⟨a', e, hc⟩ := HPS.out.1.at_ j u hj
    obtain rfl := Option.some.inj e
    exact hc
  have HAT := Lib.hid hat
  have hone : ∀ u ∈ ps.flatMap Pm.cells, u.oneCell' = true := fun u hu => by
    obtain ⟨x, _, hx⟩ := List.mem_flatMap.1 hu
    exact one_pm x u hx
  have HONE := Lib.hid hone
  have hpos : 0 < ps.length := by omega
  have HAN := Lib.hid (fun w => around4_calls nn 300 w (by decide) (by decide) hn.1 hn.2)
  have HAI := Lib.hid (fun w => around4_calls ii ps.length w hpos (by omega) hi.1 hi.2)
  have HAK := Lib.hid (fun (b : Nat) (hb : 0 < b) (hb2 : b ≤ 1000000) w => around4_calls nn b w hb hb2 hn.1 hn.2)
  clear hat hone
  go_wp2_with (at_builtin; refine app_row rfl (.tmp 10) (.tmp 12) 33 rfl (w.heap.size + 3) 179 _ 4 64 info_pm Try.underlying33 rfl (by decide) none 0 0 [] rfl ⟨rfl, .inl ⟨rfl, rfl⟩⟩ a ps.length c (ps.flatMap Pm.cells) rfl (flat_len Pm.cells 4 Pm.cells_len ps) HAT.out HONE.out ?hb1 ?hb2 ?hb3 ?_; (case hb1 => omega); (case hb2 => omega); (case hb3 => simp); intro A' c' wl ho hc hA; have HO := Lib.hid ho; have HC := Lib.hid hc; have HX1' := Lib.hid (HX1.out.ch hc HX1.out.lt (fun h => (by cases h))); have HX2' := Lib.hid (HX2.out.ch hc HX2.out.lt (fun h => (by cases h))); have HX3' := Lib.hid (HX3.out.ch hc HX3.out.lt (fun h => (by cases h))); clear ho hc hA p0 p1 q0 q1 q2 q3; obtain ⟨p0, p1, f0, f1⟩ := HX1'.out.facts2; obtain ⟨q0, q1, q2, q3, -⟩ := HX2'.out.facts4)
  have ho := HO.out
  simp only [List.nil_append, Nat.zero_add] at ho
  obtain ⟨g, rfl⟩ : ∃ g, A' = some ⟨g, 0, none⟩ := by
    rcases ho.2 with ⟨hv, h00⟩ | ⟨g, cap, cur, hv, _⟩
    · exact absurd h00 h0
    · exact ⟨g, by simpa using (show A' = some ⟨g, 0, none⟩ ∧ c' = cap by simpa using hv).1⟩
  have hbl : Below w.heap.size w wl := HB3.out.trans ((HC.out.mono (B' := w.heap.size) (S' := fun _ => False) (by simp; omega) (fun i hi h => by cases h)).below (fun _ _ h => h))
  have hls0 : LSt M (K + 1) w g c' ps wl := ⟨hbl, ho, fun x hx => by
    have hx1 := HEA.out x hx
    have ht := HPS.out.2 x hx
    have hg := own_row ho (k := g) rfl
    have htw := Sl.stay (w' := wl) ht HC.out (fun h0 q hq => ⟨Sl.row_lt ht (by rw [ht.len]; omega) q hq, fun h => by cases h⟩)
    refine ⟨htw, hx1.2.1, by omega, hx1.1, fun h0 q hq => ?_⟩
    have hrl := (hs_old x hx h0 q hq)
    exact ⟨by omega, .inl hrl⟩⟩
  have HLS := Lib.hid (hls0.set (R := w.heap.size) (i := 1) (Nat.le_refl _) (by omega) (.slice (some ⟨g, 0, none⟩) ps.length c'))
  have HX1s := Lib.hid (HX1'.out.set 1 (.slice (some ⟨g, 0, none⟩) ps.length c'))
  have HX2s := Lib.hid (HX2'.out.other (a := ⟨w.heap.size, 1, none⟩) (by simp only; omega) (.slice (some ⟨g, 0, none⟩) ps.length c'))
  have HX3s := Lib.hid (HX3'.out.other (a := ⟨w.heap.size, 1, none⟩) (by simp only; omega) (.slice (some ⟨g, 0, none⟩) ps.length c'))
  refine (HAR.out _).mono ?_
  rintro e wx ⟨rfl, hwx⟩
  subst hwx
  have HLS1 := HLS.out
  have HX1s1 := HX1s.out
  have HX2s1 := HX2s.out
  have HX3s1 := HX3s.out
  clear p0 p1 f0 f1 q0 q1 q2 q3 hls0 ho hbl HX1' HX2' HX3' HC HO HX1 HX2 HX3 HAT HONE HAR HPS HB3 HLS HX1s HX2s HX3s
  generalize wl.setCell ⟨w.heap.size, 1, none⟩ (.slice (some ⟨g, 0, none⟩) ps.length c') = wz at *
  have H1 := Lib.hid (show Box wz w.heap.size #[.int .i64 cnt, .slice (some ⟨g, 0, none⟩) ps.length c'] 35 from HX1s1)
  have H2 := Lib.hid HX2s1
  have H3 := Lib.hid HX3s1
  have HL := Lib.hid HLS1
  clear HLS1 HX1s1 HX2s1 HX3s1
  obtain ⟨p0, p1, f0, f1⟩ := H1.out.facts2
  obtain ⟨q0, q1, q2, q3, -⟩ := H2.out.facts4
  obtain ⟨w0, w1, g0, g1⟩ := H3.out.facts2
  have HLEN := Lib.hid hlen
  have hz : ((ps.length : Int) == 0) = false := by rw [beq_eq_false_iff_ne]; omega
  have hgg := HL.out.ge.1
  have n0 : ¬ g = w.heap.size := by omega
  have n0' : ¬ w.heap.size = g := by omega
  have n1 : ¬ g = w.heap.size + 1 := by omega
  have n1' : ¬ w.heap.size + 1 = g := by omega
  have n2 : ¬ g = w.heap.size + 1 + 1 := by omega
  have n2' : ¬ w.heap.size + 1 + 1 = g := by omega
  clear hgg
  have hc2 : ps.length ≤ c' := own_cap HL.out.own
  go_wp2_with (first | (go_at_call 109; with_reducible refine (HAI.out _).mono ?_; rintro e wx ⟨i, rfl, hil, hwx⟩; subst hwx; obtain ⟨e0, e1, e2, e3, -, -, -, -⟩ := HL.out.elem i hil; have hel := HL.out.each _ (List.getElem_mem hil); have HTX := Lib.hid hel.1; have HEL := Lib.hid hel.2; clear hel) | (at_builtin; refine app_rowO rfl (.tmp 35) (.tmp 40) 54 rfl wx.heap.size 9 _ 1 16 info_str Try.underlying54 rfl (by decide) none 0 0 [] rfl ⟨rfl, .inl ⟨rfl, rfl⟩⟩ ps[i].A ps[i].sides.length ps[i].c (ps[i].sides.flatMap textCells) rfl HTX.out.len HTX.out.at_ (text_ones _) ?hb1 ?hb2 ?hb3 ?_; (case hb1 => have := HEL.out.2.1; omega); (case hb2 => have := HEL.out.2.1; omega); (case hb3 => exact Nat.le_refl _); intro As cs ws ho hc hA; have HO := Lib.hid ho; have HC := Lib.hid hc; have HLw := Lib.hid (HL.out.ch hc (fun q hq e => (by simp [Row] at e))); have HX1 := Lib.hid (H1.out.ch hc H1.out.lt (fun e => (by simp [Row] at e))); have HX2 := Lib.hid (H2.out.ch hc H2.out.lt (fun e => (by simp [Row] at e))); have HX3 := Lib.hid (H3.out.ch hc H3.out.lt (fun e => (by simp [Row] at e))); have HSZ := HEL.out.2.1; clear ho hc hA p0 p1 f0 f1 q0 q1 q2 q3 g0 g1 w0 w1 e0 e1 e2 e3; obtain ⟨p0, p1, f0, f1⟩ := HX1.out.facts2; obtain ⟨q0, q1, q2, q3, -⟩ := HX2.out.facts4; obtain ⟨w0, w1, g0, g1⟩ := HX3.out.facts2; obtain ⟨e0, e1, e2, e3, k0, k1, k2, k3⟩ := HLw.out.elem i hil; clear HTX) | fail)
  · go_at_call 109
    with_reducible refine (HAK.out ps[i].sides.length (by omega) (by omega) _).mono ?_
    rintro e wy ⟨k, rfl, hk, hwy⟩
    subst hwy
    have ho := HO.out
    simp only [List.nil_append, Nat.zero_add] at ho
    obtain ⟨gs, rfl⟩ := own_some ho (by omega)
    have hsc := text_at ho hk
    have hsf := ho.frozenAt k
    have hgs := (own_row ho (k := gs) rfl).1
    have hgl := HL.out.ge
    have m0 : ¬ gs = g := (by omega)
    have m0' : ¬ g = gs := (by omega)
    have m1 : ¬ gs = w.heap.size := (by omega)
    have m1' : ¬ w.heap.size = gs := (by omega)
    have m2 : ¬ gs = w.heap.size + 1 := (by omega)
    have m2' : ¬ w.heap.size + 1 = gs := (by omega)
    have m3 : ¬ gs = w.heap.size + 1 + 1 := (by omega)
    have m3' : ¬ w.heap.size + 1 + 1 = gs := (by omega)
    have HO2 := Lib.hid ho
    have HGS := Lib.hid hgs
    have HGL := Lib.hid hgl
    clear ho hgs hgl
    go_wp2_with fail
    have ho := (HO2.out.stored k (.string tx)).1
    rw [text_set] at ho
    have e1 : (ps[i].sides.set k tx).length = ps[i].sides.length := List.length_set
    rw [← e1] at ho
    have hl2 := HL.out.ch (HC.out.setCell (p := ⟨gs, k, none⟩) (.inl HGS.out) (.string tx)) (fun q hq e => (by simp [Row] at e))
    have hls := hl2.sides hil hm HGL.out.2 ho (by rw [e1]; have := HEL.out.2.1; omega)
    rw [e1] at hls
    have hdn := hls.done hm (by simp; omega) cnt (.int .i64 cnt) (.slice (some ⟨g, 0, none⟩) ps.length c')
    simp only [List.length_set] at hdn
    have hb3 := box_fill2 ((HX3.out.other (a := ⟨gs, k, none⟩) (by simp only; omega) (.string tx)).other (a := ⟨g, i * 4 + 3, none⟩) (by simp only; omega) (.slice (some ⟨gs, 0, none⟩) ps[i].sides.length cs)) (x := .int .i64 cnt) (y := .slice (some ⟨g, 0, none⟩) ps.length c')
    obtain ⟨d0, d1, _⟩ := hb3.facts2
    exact bodyPost_ret (v := .agg #[.int .i64 cnt, .slice (some ⟨g, 0, none⟩) ps.length c']) (by simp [results, Try.results46, go_sem, d0, d1]) rfl hdn
  · skip
    have ho := HO.out
    simp only [List.nil_append, Nat.zero_add] at ho
    have hgl := HL.out.ge
    have hls := HLw.out.sides hil hm hgl.2 ho (by have := HEL.out.2.1; omega)
    have hdn := hls.done hm (by simp; omega) cnt (.int .i64 cnt) (.slice (some ⟨g, 0, none⟩) ps.length c')
    simp only [List.length_set] at hdn
    have hb3 := box_fill2 (HX3.out.other (a := ⟨g, i * 4 + 3, none⟩) (by simp only; omega) (.slice As ps[i].sides.length cs)) (x := .int .i64 cnt) (y := .slice (some ⟨g, 0, none⟩) ps.length c')
    obtain ⟨d0, d1, _⟩ := hb3.facts2
    exact bodyPost_ret (v := .agg #[.int .i64 cnt, .slice (some ⟨g, 0, none⟩) ps.length c']) (by simp [results, Try.results46, go_sem, d0, d1]) rfl hdn
end Go.Proofs.Ytfgpchffkpomoaa
