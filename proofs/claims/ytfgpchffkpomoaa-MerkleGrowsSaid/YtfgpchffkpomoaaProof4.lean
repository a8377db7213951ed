/- The document's proof of a key: the walk. -/
import Derived.Test.YtfgpchffkpomoaaPath4
import Derived.Test.YtfgpchffkpomoaaShown
import Derived.Test.YtfgpchffkpomoaaPk25
namespace Go.Proofs.Ytfgpchffkpomoaa
set_option linter.unusedSimpArgs false
set_option linter.unusedVariables false
open Go.RowKit

theorem info_pm : (Try.prog.info? 179).map (fun i => (i.zero, i.size, i.bytes)) = some (some (.agg #[.int .i64 0, .string ⟨#[]⟩, .string ⟨#[]⟩, .slice none 0 0]), 4, 64) := by kernel_rfl
theorem Pm.one (x : Pm) : ∀ u ∈ x.cells, u.oneCell' = true := by
  intro u hu
  simp only [Pm.cells, List.mem_cons, List.not_mem_nil, or_false] at hu
  rcases hu with rfl | rfl | rfl | rfl <;> rfl
theorem one_pm (x : Pm) : ∀ u ∈ x.cells, u.oneCell' = true := Pm.one x

theorem Sl.stay {w w' : World} {sz n c B : Nat} {S : Nat → Prop} {A : Option Addr} {xs : List Value} (h : Sl w sz A n c xs) (hc : Ch B S w w') (ho : 0 < n → ∀ q, Row A q → q < B ∧ ¬ S q) : Sl w' sz A n c xs := by
  rcases Nat.eq_zero_or_pos n with h0 | h0
  · have hx : xs = [] := List.eq_nil_of_length_eq_zero (by rw [h.len, h0]; omega)
    exact ⟨h.len, h.fits, fun j u hj => by rw [hx] at hj; simp at hj⟩
  · exact Sl.ch h hc (fun j hj _ => ho h0 j hj)
theorem RcS.stay {w w' : World} {c B : Nat} {S : Nat → Prop} {A : Option Addr} {l : List Rc} (h : RcS w A c l) (hc : Ch B S w w') (ho : 0 < l.length → ∀ q, Row A q → q < B ∧ ¬ S q) : RcS w' A c l := Sl.stay h hc ho

set_option maxHeartbeats 4000000 in
set_option maxRecDepth 100000 in
theorem proof4_calls (b t m n : Nat) (T : List ByteArray) (S : List Wd) (A : Option Addr) (c : Nat) (l : List Rc) (key : ByteArray) (w : World) (hb : Bk w b t m n T S) (hT : T.length ≤ 400000000) (hs : RcS w A c l) (hl : l.length ≤ 4096) (hok : Short l) (hr : Rising l) (hA : Off A l.length m) :
    Calls Try.prog 43 #[.pointer (some ⟨b, 0, none⟩), .slice A l.length c, .string key] w (fun e w' => ∃ T' B cc ps, e = .returned (.agg #[.int .i64 l.length, .slice B ps.length cc]) ∧ Hid (ps.map Pm.pt = proofP (hh T') l key) ∧ Ext T T' ∧ T'.length ≤ T.length + 30000 ∧ Ch w.heap.size (· = m) w w' ∧ Bk w' b t m n T' S ∧ PmS w' B cc ps ∧ NewRows w.heap.size B ps) := by
  have hfit := hs.fits
  have HLT := Lib.hid hb.all_lt
  have hml := hb.tm.lt
  have hbl := (Below.refl w.heap.size w).alloc (Nat.le_refl _) (.cells #[.int .i64 0, .slice none 0 0] 35)
  have HX0 := Lib.hid (Box.new w #[.int .i64 0, .slice none 0 0] 35)
  have HX1 := Lib.hid (by have := Box.new (w.alloc (.cells #[.int .i64 0, .slice none 0 0] 35)) #[.int .i64 (l.length : Int), .slice none 0 0] 35; simpa only [World.size_alloc] using this : Box ((w.alloc (.cells #[.int .i64 0, .slice none 0 0] 35)).alloc (.cells #[.int .i64 (l.length : Int), .slice none 0 0] 35)) (w.heap.size + 1) #[.int .i64 (l.length : Int), .slice none 0 0] 35)
  have hb2 := hbl.alloc (by simp) (.cells #[.int .i64 (l.length : Int), .slice none 0 0] 35)
  have HB := Lib.hid (hb.below hb2)
  have HS := Lib.hid (hs.below hb2)
  have HB2 := Lib.hid hb2
  have HSHN := Lib.hid (fun w hs => shown_calls A c l key w hs hl hr)
  have HPT := Lib.hid (fun T p w hb hT hs hp => path4_calls b t m n T S A c l p w hb hT hs hl hok hA hp)
  have HA := Lib.hid hA
  have HA0 := Lib.hid (fun h0 => hs.row_lt h0)
  have hslt := fun i hi => shown_lt (l := l) (key := key) (i := i) hi
  have hsl2 := shown_len l key
  obtain ⟨sh, hsh⟩ : ∃ sh, sh = shownP l key := ⟨_, rfl⟩
  have HSH := Lib.hid hsh
  unfold ShownPost at HSHN
  rw [← hsh] at HSHN hslt hsl2
  have HSLT := Lib.hid hslt
  clear hb hs hok hr hA hbl hb2 hsh hslt
  go_enter Try.func43, Try.ntmps43
  go_wp2_with fail
  refine (HSHN.out _ HS.out).mono ?_
  rintro e w2 ⟨SB, sc, rfl, hb3, hint, hsr⟩
  have hz2 : w.heap.size + 2 ≤ w2.heap.size := by have := hb3.size; simpa using this
  have HX0' := Lib.hid ((HX0.out.alloc (.cells #[.int .i64 (l.length : Int), .slice none 0 0] 35)).ch (Ch.of_below (S := fun _ => False) hb3) (by simp; omega) (fun e => e))
  have HX1' := Lib.hid (HX1.out.ch (Ch.of_below (S := fun _ => False) hb3) HX1.out.lt (fun e => e))
  have HB' := Lib.hid (HB.out.below hb3)
  have HS' := Lib.hid (HS.out.below hb3)
  have HC' := Lib.hid ((Ch.of_below (S := (· = m)) HB2.out).step (Ch.of_below (S := fun _ => False) hb3) (by simp; omega) (fun _ _ e => e.elim))
  have hint' := hint
  have HINT := Lib.hid hint
  have HSR := Lib.hid (show ∀ q, Row SB q → w.heap.size + 2 ≤ q ∧ (0 < sh.length → q < w2.heap.size) from fun q hq => ⟨by simpa using hsr q hq, fun h0 => Sl.row_lt hint' (by rw [hint'.len]; omega) q hq⟩)
  have HSO := Lib.hid (show Off SB sh.length m from fun _ q hq => by have := hsr q hq; simp at this; omega)
  clear hb3 hint hint' hsr HX0 HX1 HB HS HB2
  obtain ⟨base, hbase⟩ : ∃ base, base = w2.heap.size := ⟨_, rfl⟩
  rw [← hbase] at HSR hz2
  have hb0 : base ≤ w2.heap.size := by omega
  clear hbase
  go_wp2_with fail
  go_loopg [9] sh.length (fun g v9 wr => ∃ (k : Nat) (ps : List Pm) (B : Option Addr) (cc : Nat) (T1 : List ByteArray), v9 = .int .i64 k ∧ k ≤ sh.length ∧ ps.length = k ∧ Hid (g + k = sh.length ∧ Ext T T1 ∧ T1.length ≤ T.length + 10000 * k ∧ (∀ T2, Ext T1 T2 → ps.map Pm.pt = (sh.take k).map (pathP (hh T2) l)) ∧ Ch w.heap.size (· = m) w wr ∧ Bk wr b t m n T1 S ∧ Box wr w.heap.size #[.int .i64 0, .slice none 0 0] 35 ∧ Box wr (w.heap.size + 1) #[.int .i64 l.length, .slice B ps.length cc] 35 ∧ RcS wr A c l ∧ IntS wr SB sc sh ∧ base ≤ wr.heap.size ∧ wr.ownsRow base 179 4 (.slice B ps.length cc) ps.length (ps.flatMap Pm.cells) ∧ (∀ x ∈ ps, TxS wr x.A x.c x.sides ∧ x.sides.length ≤ x.c ∧ ∀ q, Row x.A q → base ≤ q ∧ q < wr.heap.size ∧ ¬ Row B q)))
  case atStart => exact ⟨0, [], none, 0, T, rfl, by omega, rfl, by omega, Ext.refl _, by omega, fun T2 h2 => by simp, HC'.out, HB'.out, HX0'.out, HX1'.out, HS'.out, HINT.out, hb0, ⟨rfl, .inl ⟨rfl, rfl⟩⟩, fun x hx => by cases hx⟩
  case round =>
    clear HX0' HX1' HB' HS' HC' HINT hb0
    obtain ⟨k, ps, B, cc, T1, rfl, hk, hpk, HH⟩ := hrel
    obtain ⟨hg, he, hT1, hps, hc, hbk, hx0, hx1, hrs, hint, hbw, ho, hall⟩ := HH.out
    have HG := Lib.hid hg
    have HE := Lib.hid he
    have HT1 := Lib.hid hT1
    have HPS := Lib.hid hps
    have HC := Lib.hid hc
    have HBK := Lib.hid hbk
    have HX0 := Lib.hid hx0
    have HX1 := Lib.hid hx1
    have HRS := Lib.hid hrs
    have HINT := Lib.hid hint
    have HO := Lib.hid ho
    have HALL := Lib.hid hall
    have HPK := Lib.hid hpk
    have hp4 : ps.length ≤ 4096 := by omega
    clear hpk
    have hxl := hx1.lt
    have hT1' := hT1
    clear HH hg he hT1 hps hc hbk hx0 hx1 hrs hint ho hall
    obtain ⟨z0, z1, v0, v1⟩ := HX1.out.facts2
    by_cases hlt : k < sh.length
    · have hd2 : decide ((k : Int) < (sh.length : Int)) = true := by simp; omega
      obtain ⟨a, rfl, e0⟩ := HINT.out.elem k hlt
      obtain ⟨p, hp⟩ : ∃ p, p = sh[k] := ⟨_, rfl⟩
      rw [← hp] at e0
      have hpl : p < l.length := by rw [hp]; exact HSLT.out _ (List.getElem_mem hlt)
      have HPE := Lib.hid hp
      clear hp
      have hk0 : (0 : Int) ≤ (k : Int) := by omega
      have hk1 : (k : Int) < (sh.length : Int) := by omega
      have hpt := HPT.out T1 p wr.drew HBK.out.drew (by omega) ⟨HRS.out.len, HRS.out.fits, HRS.out.at_⟩ hpl
      obtain ⟨r, hrr⟩ : ∃ r, r = l[p] := ⟨_, rfl⟩
      rw [← hrr] at hpt
      have HRR := Lib.hid hrr
      obtain ⟨rk, rv⟩ := r
      simp only at hpt
      have HPT2 := Lib.hid hpt
      have hsa := (HSR.out a.block rfl)
      have hal := hsa.2 (by omega)
      clear hpt hrr
      have hrowB : ∀ q, Row B q → base ≤ q ∧ q < wr.heap.size := fun q hq => own_row HO.out hq
      go_wp2_with fail
      refine wp_region_noPanic ?_
      go_region_law (first | (go_simp; go_at_call 105; refine HPT2.out.mono ?_; rintro e w9 ⟨T2, A1, c1, L1, rfl, q1, e2, l2, ch9, k9, o9⟩; have hz9 : wr.heap.size ≤ w9.heap.size := ch9.size; have HX9 := Lib.hid (HX1.out.drew.ch ch9 HX1.out.lt (by omega)); have HX09 := Lib.hid (HX0.out.drew.ch ch9 HX0.out.lt (by omega)); obtain ⟨j0, j1, i0, i1⟩ := HX9.out.facts2; obtain ⟨m0, m1, m2, m3⟩ := (HX9.out.alloc (.cells #[.int .i64 p, .string rk, .string rv, .slice A1 L1.length c1] 179)).facts2; have HO9 := Lib.hid (own_ch (w := wr.drew) HO.out ch9 (by intro q hq; have := hrowB q hq; exact ⟨this.2, by omega⟩)); have hrow9 : ∀ q, Row B q → base ≤ q ∧ q < wr.heap.size := hrowB; have HL9 := Lib.hid o9; have HC9 := Lib.hid ch9; have HK9 := Lib.hid k9; have hl2 := l2; have HQ9 := Lib.hid q1.out; have HE9 := Lib.hid e2; clear o9 ch9 k9 q1 e2 l2) | (refine step_app_row rfl (.tmp 23) (.tmp 31) 33 rfl base 179 _ 4 64 info_pm Try.underlying33 rfl (by decide) B cc ps.length (ps.flatMap Pm.cells) rfl (HO9.out.alloc _) ⟨w9.heap.size, 0, none⟩ 1 1 (Pm.cells ⟨p, rk, rv, L1, A1, c1⟩) rfl rfl (news_box (Box.new w9 #[.int .i64 p, .string rk, .string rv, .slice A1 L1.length c1] 179)) (Pm.one _) ?hb1 ?hb2 ?hb3 ?_; (case hb1 => omega); (case hb2 => omega); (case hb3 => simp; omega); intro B' c' w10 ho10 hc10 hA10; have HO10 := Lib.hid ho10; have HC10 := Lib.hid hc10; have HA10 := Lib.hid hA10; have HX10 := Lib.hid ((HX9.out.alloc (.cells #[.int .i64 p, .string rk, .string rv, .slice A1 L1.length c1] 179)).ch hc10 (by have := HX9.out.lt; simp; omega) (fun h => by have := hrow9 _ h; omega)); obtain ⟨f0, f1, g0, g1⟩ := HX10.out.facts2; clear ho10 hc10 hA10))
      all_goals refine NoPanic.normal ?_
      all_goals go_wp2
      all_goals
        have hz10 := HC10.out.size
        have hz10' : w9.heap.size + 1 ≤ w10.heap.size := by simpa using hz10
        have hch9 : Ch w9.heap.size (fun q => Row B q ∨ q = w.heap.size + 1) w9 (w10.setCell ⟨w.heap.size + 1, 1, none⟩ (.slice B' (ps.length + 1) c')) :=
          (((Ch.refl w9.heap.size (fun q => Row B q ∨ q = w.heap.size + 1) w9).alloc (Nat.le_refl _) (.cells #[.int .i64 p, .string rk, .string rv, .slice A1 L1.length c1] 179)).step HC10.out (by simp) (fun _ _ e => .inl e)).setCell (p := ⟨w.heap.size + 1, 1, none⟩) (.inr (.inr rfl)) _
        have hch : Ch wr.heap.size (fun q => q = m ∨ Row B q ∨ q = w.heap.size + 1) wr (w10.setCell ⟨w.heap.size + 1, 1, none⟩ (.slice B' (ps.length + 1) c')) :=
          (((Ch.refl wr.heap.size (fun q => q = m ∨ Row B q ∨ q = w.heap.size + 1) wr).drew).step HC9.out (Nat.le_refl _) (fun _ _ e => .inl e)).step hch9 hz9 (fun _ _ e => .inr e)
        have hpp : ∀ T3, Ext T2 T3 → (ps ++ [(⟨p, rk, rv, L1, A1, c1⟩ : Pm)]).map Pm.pt = (sh.take (k + 1)).map (pathP (hh T3) l) := fun T3 h3 => by
          have hrl : l[p]? = some ⟨rk, rv⟩ := by rw [List.getElem?_eq_getElem hpl, HRR.out]
          have hsk : sh[k] = p := HPE.out.symm
          rw [List.take_succ_eq_append_getElem hlt, List.map_append, List.map_append, HPS.out T3 (HE9.out.trans h3), hsk]
          show _ ++ [_] = _ ++ [pathP (hh T3) l p]
          rw [pathP_eq hrl, ← HQ9.out T3 h3]
          rfl
        go_roundg (gk - 1)
        case measure => have := HG.out; omega
        case rel =>
          refine ⟨k + 1, ps ++ [⟨p, rk, rv, L1, A1, c1⟩], B', c', T2, by go_num, by omega, by have := HPK.out; simp; omega, by have := HG.out; omega, HE.out.trans HE9.out, by omega, hpp, ?_, ?_, ?_, ?_, ?_, ?_, ?_, ?_, ?_⟩
          · exact HC.out.step hch HC.out.size (fun i hi e => by
              rcases e with e | e | e
              · exact e
              · have := (hrowB i e).1; omega
              · omega)
          · have hf : w.heap.size + 1 ≠ b ∧ w.heap.size + 1 ≠ t ∧ w.heap.size + 1 ≠ m ∧ w.heap.size + 1 ≠ n := by have := HLT.out; omega
            exact (HK9.out.app HC10.out (fun q hq => (hrowB q hq).1) (by have := HLT.out; omega)).setCell (p := ⟨w.heap.size + 1, 1, none⟩) hf _
          · exact HX0.out.ch hch (by omega) (by
              rintro (e | e | e)
              · omega
              · have := (hrowB _ e).1; omega
              · omega)
          · have := HX10.out.set 1 (.slice B' (ps.length + 1) c')
            simpa using this
          · exact RcS.stay HRS.out hch (fun h0 q hq => by
              have h1 := HA0.out h0 q hq
              have h2 := HA.out h0 q hq
              refine ⟨by omega, ?_⟩
              rintro (e | e | e)
              · omega
              · have := (hrowB q e).1; omega
              · omega)
          · exact Sl.stay HINT.out hch (fun h0 q hq => by
              have h1 := HSR.out q hq
              have h2 := h1.2 h0
              refine ⟨by omega, ?_⟩
              rintro (e | e | e)
              · omega
              · have := (hrowB q e).1; omega
              · omega)
          · simp [World.setCell]; omega
          · have := ownsRow_setCell_below HO10.out (a := ⟨w.heap.size + 1, 1, none⟩) (by simp only; omega) (.slice B' (ps.length + 1) c')
            simpa [List.flatMap_append] using this
          · intro x hx
            have hsz : (w10.setCell ⟨w.heap.size + 1, 1, none⟩ (.slice B' (ps.length + 1) c')).heap.size = w10.heap.size := by simp [World.setCell]
            rcases List.mem_append.1 hx with hx | hx
            · obtain ⟨t1, t2, t3⟩ := HALL.out x hx
              refine ⟨TxS.ch t1 hch (fun q hq hlt => ⟨hlt, ?_⟩), t2, fun q hq => ?_⟩
              · have := t3 q hq
                rintro (e | e | e)
                · omega
                · exact this.2.2 e
                · omega
              · have := t3 q hq
                refine ⟨this.1, by rw [hsz]; omega, ?_⟩
                rcases HA10.out with e | e
                · rw [e]; exact this.2.2
                · rw [e]
                  simp only [Row, Option.map_some, Option.some.injEq]
                  simp
                  omega
            · obtain rfl := List.mem_singleton.1 hx
              have hrn : ∀ q, Row A1 q → wr.heap.size ≤ q ∧ q < w9.heap.size := fun q hq => own_row HL9.out hq
              refine ⟨TxS.ch (Sl.of_own HL9.out) hch9 (fun q hq hlt => ⟨hlt, ?_⟩), own_cap HL9.out, fun q hq => ?_⟩
              · have := hrn q hq
                rintro (e | e)
                · have := (hrowB q e).2; omega
                · omega
              · have := hrn q hq
                refine ⟨by omega, by rw [hsz]; omega, ?_⟩
                rcases HA10.out with e | e
                · rw [e]
                  intro h
                  have := (hrowB q h).2
                  omega
                · rw [e]
                  simp only [Row, Option.map_some, Option.some.injEq]
                  simp
                  omega
    · have hd2 : decide ((k : Int) < (sh.length : Int)) = false := by simp; omega
      obtain rfl : k = sh.length := by omega
      obtain ⟨x0, x1, y0, y1⟩ := HX0.out.facts2
      go_wp2_with fail
      have hbx := box_fill2 HX0.out (x := .int .i64 (l.length : Int)) (y := .slice B ps.length cc)
      obtain ⟨d0, d1, _⟩ := hbx.facts2
      refine bodyPost_ret (v := .agg #[.int .i64 (l.length : Int), .slice B ps.length cc]) (by simp [results, Try.results43, go_sem, d0, d1]) rfl ?_
      have hf : w.heap.size ≠ b ∧ w.heap.size ≠ t ∧ w.heap.size ≠ m ∧ w.heap.size ≠ n := by have := HLT.out; omega
      have hfin : Ch wr.heap.size (· = w.heap.size) wr ((wr.setCell ⟨w.heap.size, 0, none⟩ (.int .i64 (l.length : Int))).setCell ⟨w.heap.size, 1, none⟩ (.slice B ps.length cc)) := ((Ch.refl wr.heap.size (· = w.heap.size) wr).setCell (p := ⟨w.heap.size, 0, none⟩) (.inr rfl) _).setCell (p := ⟨w.heap.size, 1, none⟩) (.inr rfl) _
      have hpr : ps.map Pm.pt = proofP (hh T1) l key := by
        rw [HPS.out T1 (Ext.refl _), List.take_length]
        unfold proofP
        rw [HSH.out]
      have hrowB : ∀ q, Row B q → base ≤ q ∧ q < wr.heap.size := fun q hq => own_row HO.out hq
      refine ⟨T1, B, cc, ps, rfl, hpr, HE.out, by omega, HC.out.step hfin HC.out.size (fun i hi e => by omega), (HBK.out.setCell (p := ⟨w.heap.size, 0, none⟩) hf _).setCell (p := ⟨w.heap.size, 1, none⟩) hf _, ⟨Sl.ch (Sl.of_own HO.out) hfin (fun q hq hlt => ⟨hlt, by have := hrowB q hq; omega⟩), fun x hx => ?_⟩, fun q hq => by have := hrowB q hq; omega, fun x hx q hq => by have := (HALL.out x hx).2.2 q hq; omega, fun x hx => (HALL.out x hx).2.1⟩
      obtain ⟨t1, t2, t3⟩ := HALL.out x hx
      exact TxS.ch t1 hfin (fun q hq hlt => ⟨hlt, by have := t3 q hq; omega⟩)
end Go.Proofs.Ytfgpchffkpomoaa
