/- Records are read: the walk through the code's OfRecords. -/
import Derived.Test.YtehbpjkeflcanaaROfRec
import Derived.Test.YtehbpjkeflcanaaOfSg
namespace Go.Proofs.Ytehbpjkeflcanaa
set_option linter.unusedSimpArgs false
set_option linter.unusedVariables false
open Go.RowKit

abbrev ofRecsD (w0 : World) : Deferred := { target := .fn (.func 87) #[.pointer (some ⟨w0.heap.size, 0, none⟩), .pointer (some ⟨w0.heap.size + 1, 0, none⟩)], args := #[] }

theorem ofRecs_panic (w0 w1 : World) (s : ByteArray) (c : Nat) (tmps : Array Value) (x0 : Value) (h2 : tmps[2]? = some (.pointer (some ⟨w0.heap.size, 0, none⟩))) (h3 : tmps[3]? = some (.pointer (some ⟨w0.heap.size + 1, 0, none⟩)))
    (hf : FaceE w0 68 #[x0] w1) (hE : ofRecsE s = ([], (c : Int))) : Leaves Try.prog Try.f50 tmps (OfRecsPost (ofRecsE s) w0) [ofRecsD w0] (.panicking (fault c)) w1 := by
  have HE := Lib.hid hE
  clear hE
  refine leaves_cons (f := 87) (args := #[.pointer (some ⟨w0.heap.size, 0, none⟩), .pointer (some ⟨w0.heap.size + 1, 0, none⟩)]) (by simp) (by simp [go_sem]) ?_
  refine (ofRecords_catch w0.heap.size _ _ c w1 hf.b hf.e).mono ?_
  rintro e u' w' ⟨rfl, hu, hc, _, k0, k1⟩
  obtain ⟨c0, _⟩ := k0.facts1
  obtain ⟨d0, _⟩ := k1.facts1
  refine leaves_end hu ⟨.tuple #[.slice none 0 0, .int .i64 c], by simp [results, Try.results50, go_sem, h2, h3, c0, d0], none, 0, ?_, hf.ch.trans (hc.below (fun _ _ h => h)), ?_⟩
  · rw [HE.out]; rfl
  · rw [HE.out]; exact World.ownsRow_nil _ _ _ _
theorem ofRecs_door (w0 w1 : World) (s : ByteArray) (l : List Rc) (A : Option Addr) (c : Nat) (code : Int) (tmps : Array Value) (h2 : tmps[2]? = some (.pointer (some ⟨w0.heap.size, 0, none⟩))) (h3 : tmps[3]? = some (.pointer (some ⟨w0.heap.size + 1, 0, none⟩)))
    (hb : Box w1 w0.heap.size #[.slice A l.length c] 68) (he : Box w1 (w0.heap.size + 1) #[.int .i64 code] 25) (hch : Below w0.heap.size w0 w1)
    (hown : w1.ownsRow w0.heap.size 114 2 (.slice A l.length c) l.length (l.flatMap Rc.cells)) (hE : ofRecsE s = (l, code)) : Leaves Try.prog Try.f50 tmps (OfRecsPost (ofRecsE s) w0) [ofRecsD w0] .returning w1 := by
  have HE := Lib.hid hE
  clear hE
  refine leaves_cons (f := 87) (args := #[.pointer (some ⟨w0.heap.size, 0, none⟩), .pointer (some ⟨w0.heap.size + 1, 0, none⟩)]) (by simp) (by simp [go_sem]) ?_
  refine (ofRecords_idle w1 _ _).mono ?_
  rintro e u' w' ⟨rfl, hu, rfl⟩
  obtain ⟨c0, _⟩ := hb.facts1
  obtain ⟨d0, _⟩ := he.facts1
  refine leaves_end hu ⟨.tuple #[.slice A l.length c, .int .i64 code], by simp [results, Try.results50, go_sem, h2, h3, c0, d0], A, c, ?_, hch, ?_⟩
  · rw [HE.out]
  · rw [HE.out]; exact hown
theorem ofRecs_long (s : ByteArray) (w : World) (hs : s.size ≤ maxLen) (h : 1048576 < s.size) : Calls Try.prog 50 #[.string s] w (OfRecsPost (ofRecsE s) w) := by
  unfold maxLen at hs
  have HE := Lib.hid (show ofRecsE s = ([], 4) by unfold ofRecsE; rw [if_pos h])
  have hd : decide ((1048576 : Int) < (s.size : Int)) = true := by simp; omega
  go_enter_defers Try.func50, Try.ntmps50
  go_wp2
  refine ⟨.tuple #[.slice none 0 0, .int .i64 4], by simp [results, Try.results50, go_sem], none, 0, by rw [HE.out]; rfl, ?_, by rw [HE.out]; exact World.ownsRow_nil _ _ _ _⟩
  exact ((Below.refl _ _).alloc (Nat.le_refl _) _).alloc (by simp) _
set_option maxHeartbeats 1000000 in
set_option maxRecDepth 100000 in
theorem ofRecs_nearC (s : ByteArray) (w : World) (h : ¬ 1048576 < s.size) : Calls Try.prog 50 #[.string s] w (OfRecsPost (ofRecsE s) w) := by
  have hmf : ∀ (fn : Fn) (first cap : Array Value) (w : World), (Instr.makeFunc fn first cap).run Try.prog w = .ok (.func fn first cap) w := fun _ _ _ _ => rfl
  have HMAX := Lib.hid (show s.size ≤ maxLen by unfold maxLen; omega)
  have HZ := Lib.hid (fun c (hc : seqAt s (rec_ s) 4096 0 = .error c) => ofRecs_err h hc)
  have HG := Lib.hid (ofRecs_near h)
  have hd : decide ((1048576 : Int) < (s.size : Int)) = false := by simp; omega
  have HF0 := Lib.hid (Face.new w 68 #[.slice none 0 0] s)
  have HCNT := Lib.hid (count_calls (w.heap.size + 1 + 1) s 0 4096)
  go_enter_defers Try.func50, Try.ntmps50
  go_wp2_with fail
  refine (HCNT.out _ HMAX.out (Nat.zero_le _) (by decide) HF0.out.r).mono ?_
  rintro e w1 ⟨hc, he⟩
  rw [show Int.toNat 4096 = 4096 from rfl] at he
  cases hx : count s 4096 0 with
  | error c =>
    rw [hx] at he
    obtain rfl := he
    have HE := Lib.hid (HZ.out c (seqAt_no (rd := rec_ s) hx))
    have HFE := Lib.hid (HF0.out.err hc)
    clear hx hc HF0
    go_wp2
    exact ofRecs_panic w _ s c _ _ rfl rfl HFE.out HE.out
  | ok r =>
    obtain ⟨n, p8⟩ := r
    have hb8 := count_bd hx
    have HX8 := Lib.hid (seqAt_of (rd := rec_ s) hx)
    rw [hx] at he
    obtain ⟨rfl, hr⟩ := he
    have HF8 := Lib.hid (HF0.out.rd hc hr)
    clear hx hc hr HF0
    go_wp2_with fail
    go_loopg [13] n (fun g vi wr => ∃ (i qq : Nat) (l : List Rc) (A : Option Addr) (c : Nat), vi = .int .i64 i ∧ i ≤ n ∧ Hid (g + i = n ∧ l.length = i ∧ qq ≤ s.size ∧ Face w 68 #[.slice A l.length c] s qq wr ∧ wr.ownsRow (w.heap.size + 3) 114 2 (.slice A l.length c) l.length (l.flatMap Rc.cells) ∧ seqN (rec_ s) n p8 [] = seqN (rec_ s) g qq l))
    case atStart => exact ⟨0, p8, [], none, 0, rfl, Nat.zero_le _, rfl, rfl, hb8.2.1, HF8.out, World.ownsRow_nil _ _ _ _, rfl⟩
    case round =>
      obtain ⟨i, qq, l, A, c, rfl, hi, HH⟩ := hrel
      obtain ⟨hg, hl, hq, hf, ho, hm⟩ := HH.out
      by_cases hlt : i < n
      · have hd2 : decide ((i : Int) < (n : Int)) = true := by simp; omega
        obtain ⟨g, rfl⟩ : ∃ g, gk = g + 1 := ⟨gk - 1, by omega⟩
        have HF := Lib.hid hf
        have HO := Lib.hid ho
        have HQ := Lib.hid hq
        have HGI := Lib.hid hg
        have HLN := Lib.hid hl
        obtain ⟨c0, f0⟩ := hf.b.facts1
        clear hf ho hq hg hl HH
        have HT1 := Lib.hid (text_calls (w.heap.size + 1 + 1) s qq)
        cases hx : text s qq with
        | error cc =>
          rw [hx] at HT1
          rw [seqN_no (rec_no1 hx)] at hm
          have HE := Lib.hid (HZ.out cc (by rw [HX8.out, hm]))
          clear hx hm
          go_wp2_with fail
          refine wp_region_any (by kernel_rfl) ?_
          change wpAny _ _ _ _ _ _ _ (World.drew _)
          refine wpAny_ready (rs := [0, 1]) (by kernel_rfl) (by simp) ?_
          refine AllReady.cons rfl (fun K hK => ?_) (AllReady.cons rfl (fun K hK => ?_) AllReady.nil)
          · go_simp
            refine hK _ _ ?_
            clear hK K
            refine wpAny_ready (rs := [1]) (by kernel_rfl) (by simp) ?_
            refine AllReady.cons rfl (fun K hK => ?_) AllReady.nil
            go_simp
            refine (HT1.out _ HMAX.out HQ.out (by first | exact HF.out.r | exact HF.out.drew.r)).mono ?_
            rintro e w9 ⟨hc, rfl⟩
            exact ofRecs_panic w _ s cc _ _ rfl rfl ((HF.out.drew).err hc) HE.out
          · go_simp
            refine (HT1.out _ HMAX.out HQ.out (by first | exact HF.out.r | exact HF.out.drew.r)).mono ?_
            rintro e w9 ⟨hc, rfl⟩
            exact ofRecs_panic w _ s cc _ _ rfl rfl ((HF.out.drew).err hc) HE.out
        | ok r =>
          obtain ⟨key, p1⟩ := r
          have hsb := (text_bd hx).2.1
          rw [hx] at HT1
          have HT2 := Lib.hid (text_calls (w.heap.size + 1 + 1) s p1)
          cases hy : text s p1 with
          | error cc =>
            rw [hy] at HT2
            rw [seqN_no (rec_no2 hx hy)] at hm
            have HE := Lib.hid (HZ.out cc (by rw [HX8.out, hm]))
            clear hx hm hy
            go_wp2_with fail
            refine wp_region_any (by kernel_rfl) ?_
            change wpAny _ _ _ _ _ _ _ (World.drew _)
            refine wpAny_ready (rs := [0, 1]) (by kernel_rfl) (by simp) ?_
            refine AllReady.cons rfl (fun K hK => ?_) (AllReady.cons rfl (fun K hK => ?_) AllReady.nil)
            · go_simp
              refine hK _ _ ?_
              clear hK K
              refine wpAny_ready (rs := [1]) (by kernel_rfl) (by simp) ?_
              refine AllReady.cons rfl (fun K hK => ?_) AllReady.nil
              go_simp
              go_wp2_with (go_at_call 70; refine (HT1.out _ HMAX.out HQ.out (by first | exact HF.out.r | exact HF.out.drew.r)).mono ?_; rintro e w9 ⟨hc, rfl, hr⟩; have HF9 := Lib.hid (HF.out.drew.rd hc hr); clear hc hr)
              refine wpAny_ready (rs := [2]) (by kernel_rfl) (by simp) ?_
              refine AllReady.cons rfl (fun K hK => ?_) AllReady.nil
              go_simp
              refine (HT2.out _ HMAX.out hsb HF9.out.r).mono ?_
              rintro e w10 ⟨hc, rfl⟩
              exact ofRecs_panic w _ s cc _ _ rfl rfl (HF9.out.err hc) HE.out
            · go_simp
              go_wp2_with (go_at_call 70; refine (HT1.out _ HMAX.out HQ.out (by first | exact HF.out.r | exact HF.out.drew.r)).mono ?_; rintro e w9 ⟨hc, rfl, hr⟩; have HF9 := Lib.hid (HF.out.drew.rd hc hr); clear hc hr)
              have k9 := HF9.out.b.cell 0
              simp at k9
              refine wpAny_ready (rs := [0, 2]) (by kernel_rfl) (by simp) ?_
              refine AllReady.cons rfl (fun K hK => ?_) (AllReady.cons rfl (fun K hK => ?_) AllReady.nil)
              · go_simp
                refine hK _ _ ?_
                clear hK K
                refine wpAny_ready (rs := [2]) (by kernel_rfl) (by simp) ?_
                refine AllReady.cons rfl (fun K hK => ?_) AllReady.nil
                go_simp
                refine (HT2.out _ HMAX.out hsb HF9.out.r).mono ?_
                rintro e w10 ⟨hc, rfl⟩
                exact ofRecs_panic w _ s cc _ _ rfl rfl (HF9.out.err hc) HE.out
              · go_simp
                refine (HT2.out _ HMAX.out hsb HF9.out.r).mono ?_
                rintro e w10 ⟨hc, rfl⟩
                exact ofRecs_panic w _ s cc _ _ rfl rfl (HF9.out.err hc) HE.out
          | ok r =>
            obtain ⟨val, p2⟩ := r
            have hsb2 := (text_bd hy).2.1
            rw [hy] at HT2
            rw [seqN_ok (rec_yes hx hy)] at hm
            have HM2 := Lib.hid hm
            clear hx hm hy
            have hrow : ∀ k, Row A k → w.heap.size + 3 ≤ k ∧ k < wr.heap.size := fun k hk => own_row HO.out hk
            have hown0 := HF.out.own
            have HLL := Lib.hid (show l.length ≤ 4096 by have := HLN.out; have := HGI.out; omega)
            have t0 : True := trivial
            go_wp2_with fail
            refine wp_region_noPanic ?_
            go_region_law (first | (go_simp; go_at_call 70; have _t := t0; clear t0; refine (HT1.out _ HMAX.out HQ.out (by exact HF.out.drew.r)).mono ?_; rintro e w9 ⟨hc, rfl, hr⟩; have HF9 := Lib.hid (HF.out.drew.rd hc hr); have HO9 := Lib.hid (own_ch (w := wr.drew) HO.out hc (by intro k hk; have := hrow k hk; simp; omega)); have k7 := HF9.out.b.cell 0; have hown9 := HF9.out.own; have hrow9 : ∀ k, Row A k → w.heap.size + 3 ≤ k ∧ k < w9.heap.size := (fun k hk => own_row HO9.out hk); have t1 : True := trivial; clear hc hr; simp at k7) | (go_simp; go_at_call 70; have _t := t1; clear t1; refine (HT2.out _ HMAX.out hsb (by exact HF9.out.r)).mono ?_; rintro e w10 ⟨hc, rfl, hr⟩; have HFA := Lib.hid (HF9.out.rd hc hr); have HOA := Lib.hid (own_ch HO9.out hc (by intro k hk; have := hrow9 k hk; omega)); clear k7; have k8 := HFA.out.b.cell 0; have hownA := HFA.out.own; have hltA := Nat.lt_of_le_of_lt (Nat.le_add_right _ 2) hownA; have hrowA : ∀ k, Row A k → w.heap.size + 3 ≤ k ∧ k < w10.heap.size := (fun k hk => own_row HOA.out hk); clear hc hr; simp at k8) | (refine step_app_row rfl (.tmp 15) (.tmp 19) 68 rfl (w.heap.size + 3) 114 _ 2 32 info_rc Try.underlying68 rfl (by decide) A c l.length (l.flatMap Rc.cells) rfl (HOA.out.alloc _) ⟨w10.heap.size, 0, none⟩ 1 1 (Rc.cells ⟨key, val⟩) rfl rfl (news_box (Box.new w10 #[.string key, .string val] 114)) (Rc.one _) ?hb1 ?hb2 ?hb3 ?_; (case hb1 => have := HLL.out; omega); (case hb2 => have := HLL.out; omega); (case hb3 => simp; omega); intro A' c' w11 ho11 hc11 hA11; have HF11 := Lib.hid ((HFA.out.alloc (.cells #[.string key, .string val] 114)).call hc11 (by simp; omega) (by intro k hk hr; have := hrowA k hr; omega)); have HO11 := Lib.hid ho11; have k7' := HF11.out.b.cell 0; have f7' := HF11.out.b.free 0; clear ho11 hc11 hA11; simp at k7'))
            all_goals refine NoPanic.normal ?_
            all_goals go_wp2
            all_goals
              go_roundg g
              case measure => omega
              case rel => exact ⟨i + 1, p2, l ++ [⟨key, val⟩], A', c', by go_num, by omega, by have := HGI.out; omega, by simp; have := HLN.out; omega, hsb2, by have hh := HF11.out.set 0 (.slice A' (l.length + 1) c'); simpa using hh, by have hh := ownsRow_setCell_below HO11.out (a := ⟨w.heap.size, 0, none⟩) (by simp) (.slice A' (l.length + 1) c'); simpa [List.flatMap_append] using hh, HM2.out⟩
      · have hd2 : decide ((i : Int) < (n : Int)) = false := by simp; omega
        obtain rfl : gk = 0 := by omega
        have hm0 : seqN (rec_ s) 0 qq l = .ok (l, qq) := rfl
        rw [hm0] at hm
        have HGG := Lib.hid (show ofRecsE s = if qq < s.size then ([], 12) else if riseE l = 0 then (l, 0) else ([], riseE l) by rw [HG.out, HX8.out, hm])
        have HF := Lib.hid hf
        have HO := Lib.hid ho
        have HQ := Lib.hid hq
        clear hm hm0 hf ho hl hg HH
        have HEND := Lib.hid (end_calls (w.heap.size + 1 + 1) s qq)
        by_cases hend : qq < s.size
        · have HG2 := HGG.out
          rw [if_pos hend] at HG2
          have HE := Lib.hid HG2
          have HEN := Lib.hid hend
          clear HG2 hend
          go_wp2_with fail
          refine (HEND.out _ HMAX.out HQ.out HF.out.r).mono ?_
          rintro e w9 ⟨hc, he⟩
          rw [if_pos HEN.out] at he
          obtain rfl := he
          have HFE := Lib.hid (HF.out.err hc)
          clear hc
          go_wp2
          exact ofRecs_panic w _ s 12 _ _ rfl rfl HFE.out HE.out
        · have HG2 := HGG.out
          rw [if_neg hend] at HG2
          have HG3 := Lib.hid HG2
          have HEN := Lib.hid hend
          clear HG2 hend
          have hrow : ∀ k, Row A k → w.heap.size + 3 ≤ k ∧ k < wr.heap.size := fun k hk => own_row HO.out hk
          have hown0 := HF.out.own
          have hfit := (Sl.of_own HO.out).fits
          go_wp2_with fail
          refine (HEND.out _ HMAX.out HQ.out HF.out.r).mono ?_
          rintro e w9 ⟨hc, he⟩
          rw [if_neg HEN.out] at he
          obtain rfl := he
          have HFE := Lib.hid (HF.out.err hc)
          have HO9 := Lib.hid (own_ch HO.out hc (by intro k hk; have := hrow k hk; omega))
          have hsz9 := Nat.lt_of_lt_of_le hown0 hc.size
          clear hc
          obtain ⟨c0, f0⟩ := HFE.out.b.facts1
          obtain ⟨e0, g0⟩ := HFE.out.e.facts1
          have HRT := Lib.hid (rise_calls A c l w9 (Sl.of_own HO9.out))
          obtain ⟨fa, hfa⟩ : ∃ fa, fa = riseE l := ⟨_, rfl⟩
          rw [← hfa] at HRT HG3
          clear hfa
          go_wp2_with fail
          refine HRT.out.mono ?_
          rintro e w10 ⟨rfl, hb10⟩
          have hbx := HFE.out.b.call hb10
          have hbe := HFE.out.e.call hb10
          have HB10 := Lib.hid hbx
          have HE10 := Lib.hid hbe
          have HC10 := Lib.hid (HFE.out.ch.trans (hb10.mono (by omega)))
          have HO10 := Lib.hid (own_ch HO9.out (Ch.of_below (S := fun _ => False) hb10) (fun k hk => ⟨(own_row HO9.out hk).2, fun h => h⟩))
          have hs10 := hb10.size
          clear c0 f0 e0 g0 hb10
          obtain ⟨c0, f0⟩ := hbx.facts1
          obtain ⟨e0, g0⟩ := hbe.facts1
          clear hbx hbe
          by_cases hfz : fa = 0
          · subst hfz
            have HGE := HG3.out
            rw [if_pos rfl] at HGE
            have HE := Lib.hid HGE
            clear HGE
            go_wp2
            refine ofRecs_door w _ s l A c 0 _ rfl rfl ?_ ?_ ?_ ?_ HE.out
            · have hh := (HB10.out.set 0 (.slice A l.length c)).other (a := ⟨w.heap.size + 1, 0, none⟩) (by simp) (.int .i64 0)
              simpa using hh
            · have hh := (HE10.out.other (a := ⟨w.heap.size, 0, none⟩) (by simp) (.slice A l.length c)).set 0 (.int .i64 0)
              simpa using hh
            · exact (HC10.out.setCell (p := ⟨w.heap.size, 0, none⟩) (by simp) _).setCell (p := ⟨w.heap.size + 1, 0, none⟩) (by simp) _
            · exact own_base (ownsRow_setCell_below (ownsRow_setCell_below HO10.out (a := ⟨w.heap.size, 0, none⟩) (by simp) _) (a := ⟨w.heap.size + 1, 0, none⟩) (by simp) _) (by omega)
          · have HGE := HG3.out
            rw [if_neg hfz] at HGE
            have HE := Lib.hid HGE
            have hdz : (fa == 0) = false := by simpa using hfz
            clear HGE hfz
            go_wp2
            refine ofRecs_door w _ s [] none 0 fa _ rfl rfl ?_ ?_ ?_ (World.ownsRow_nil _ _ _ _) HE.out
            · have hh := (HB10.out.set 0 (.slice none 0 0)).other (a := ⟨w.heap.size + 1, 0, none⟩) (by simp) (.int .i64 fa)
              simpa using hh
            · have hh := (HE10.out.other (a := ⟨w.heap.size, 0, none⟩) (by simp) (.slice none 0 0)).set 0 (.int .i64 fa)
              simpa using hh
            · exact (HC10.out.setCell (p := ⟨w.heap.size, 0, none⟩) (by simp) _).setCell (p := ⟨w.heap.size + 1, 0, none⟩) (by simp) _
theorem ofRecs_calls (s : ByteArray) (w : World) (hs : s.size ≤ maxLen) : Calls Try.prog 50 #[.string s] w (OfRecsPost (ofRecsE s) w) := by
  by_cases h : 1048576 < s.size
  · exact ofRecs_long s w hs h
  · exact ofRecs_nearC s w h
end Go.Proofs.Ytehbpjkeflcanaa
