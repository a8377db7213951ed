/- A proof is read: the walk through the code's OfProof. -/
import Derived.Test.YtfgpchffkpomoaaPk34
import Derived.Test.YtfgpchffkpomoaaPk09
namespace Go.Proofs.Ytfgpchffkpomoaa
set_option linter.unusedSimpArgs false
set_option linter.unusedVariables false
open Go.RowKit

theorem own_at3 {w : World} {base n b i : Nat} {e : TypeId} {size : Nat} {A : Option Addr} {c : Nat} {xs : List Value} (h : w.ownsRow base e size (.slice A n c) n xs) (hb : b < base) (v : Value) : (w.setCell ⟨b, i, none⟩ v).ownsRow base e size (.slice A n c) n xs :=
  own_ch h (B := w.heap.size) (S := (· = b)) (Ch.setCell (p := ⟨b, i, none⟩) (Ch.refl w.heap.size (· = b) w) (.inr rfl) v) fun k hk => ⟨(own_row h hk).2, by have := (own_row h hk).1; omega⟩
abbrev ofPfD (w0 : World) : Deferred := { target := .fn (.func 183) #[.pointer (some ⟨w0.heap.size, 0, none⟩), .pointer (some ⟨w0.heap.size + 1, 0, none⟩)], args := #[] }

theorem ofPf_panic (w0 w1 : World) (s : ByteArray) (c : Nat) (tmps : Array Value) (x0 x1 : Value) (h2 : tmps[2]? = some (.pointer (some ⟨w0.heap.size, 0, none⟩))) (h3 : tmps[3]? = some (.pointer (some ⟨w0.heap.size + 1, 0, none⟩)))
    (hf : FaceE w0 35 #[x0, x1] w1) (hE : ofPfE s = ((0, []), (c : Int))) : Leaves Try.prog Try.f146 tmps (OfPfPost (ofPfE s) w0) [ofPfD w0] (.panicking (fault c)) w1 := by
  have HE := Lib.hid hE
  clear hE
  refine leaves_cons (f := 183) (args := #[.pointer (some ⟨w0.heap.size, 0, none⟩), .pointer (some ⟨w0.heap.size + 1, 0, none⟩)]) (by simp) (by simp [go_sem]) ?_
  refine (ofProof_catch w0.heap.size _ _ _ c w1 hf.b hf.e).mono ?_
  rintro e u' w' ⟨rfl, hu, hc, _, k0, k1⟩
  obtain ⟨c0, c1, _⟩ := k0.facts2
  obtain ⟨d0, _⟩ := k1.facts1
  refine leaves_end hu ⟨.tuple #[.agg #[.int .i64 0, .slice none 0 0], .int .i64 c], by simp [results, Try.results146, go_sem, h2, h3, c0, c1, d0], none, 0, [], ?_, hf.ch.trans (hc.below (fun _ _ h => h)), PmO.nil _ _, ?_⟩
  · rw [HE.out]; rfl
  · rw [HE.out]; rfl
theorem ofPf_door (w0 w1 : World) (s : ByteArray) (n : Int) (ms : List Pm) (A : Option Addr) (c : Nat) (code : Int) (tmps : Array Value) (h2 : tmps[2]? = some (.pointer (some ⟨w0.heap.size, 0, none⟩))) (h3 : tmps[3]? = some (.pointer (some ⟨w0.heap.size + 1, 0, none⟩)))
    (hb : Box w1 w0.heap.size #[.int .i64 n, .slice A ms.length c] 35) (he : Box w1 (w0.heap.size + 1) #[.int .i64 code] 25) (hch : Below w0.heap.size w0 w1)
    (hown : PmO w1 w0.heap.size A c ms) (hE : ofPfE s = ((n, ms.map Pm.pt), code)) : Leaves Try.prog Try.f146 tmps (OfPfPost (ofPfE s) w0) [ofPfD w0] .returning w1 := by
  have HE := Lib.hid hE
  clear hE
  refine leaves_cons (f := 183) (args := #[.pointer (some ⟨w0.heap.size, 0, none⟩), .pointer (some ⟨w0.heap.size + 1, 0, none⟩)]) (by simp) (by simp [go_sem]) ?_
  refine (ofProof_idle w1 _ _).mono ?_
  rintro e u' w' ⟨rfl, hu, rfl⟩
  obtain ⟨c0, c1, _⟩ := hb.facts2
  obtain ⟨d0, _⟩ := he.facts1
  refine leaves_end hu ⟨.tuple #[.agg #[.int .i64 n, .slice A ms.length c], .int .i64 code], by simp [results, Try.results146, go_sem, h2, h3, c0, c1, d0], A, c, ms, ?_, hch, hown, ?_⟩
  · rw [HE.out]
  · rw [HE.out]
theorem ofPf_longC (s : ByteArray) (w : World) (hs : s.size ≤ maxLen) (h : 1048576 < s.size) : Calls Try.prog 146 #[.string s] w (OfPfPost (ofPfE s) w) := by
  unfold maxLen at hs
  have HE := Lib.hid (ofPf_long h)
  have hd : decide ((1048576 : Int) < (s.size : Int)) = true := by simp; omega
  go_enter_defers Try.func146, Try.ntmps146
  go_wp2
  refine ⟨.tuple #[.agg #[.int .i64 0, .slice none 0 0], .int .i64 4], by simp [results, Try.results146, go_sem], none, 0, [], by rw [HE.out]; rfl, ?_, PmO.nil _ _, by rw [HE.out]; rfl⟩
  exact ((Below.refl _ _).alloc (Nat.le_refl _) _).alloc (by simp) _
set_option maxHeartbeats 4000000 in
set_option maxRecDepth 100000 in
theorem ofPf_nearC (s : ByteArray) (w : World) (h : ¬ 1048576 < s.size) : Calls Try.prog 146 #[.string s] w (OfPfPost (ofPfE s) w) := by
  have hmf : ∀ (fn : Fn) (first cap : Array Value) (w : World), (Instr.makeFunc fn first cap).run Try.prog w = .ok (.func fn first cap) w := fun _ _ _ _ => rfl
  have HMAX := Lib.hid (show s.size ≤ maxLen by unfold maxLen; omega)
  have hd : decide ((1048576 : Int) < (s.size : Int)) = false := by simp; omega
  have HF0 := Lib.hid (Face.new w 35 #[.int .i64 0, .slice none 0 0] s)
  have HNUM := Lib.hid (number_calls (w.heap.size + 1 + 1) s 0)
  go_enter_defers Try.func146, Try.ntmps146
  go_wp2_with fail
  refine (HNUM.out _ HMAX.out (Nat.zero_le _) HF0.out.r).mono ?_
  rintro e w1 ⟨hc, he⟩
  cases h0 : num s 0 with
  | error c =>
    rw [h0] at he
    obtain rfl := he
    have HE := Lib.hid (ofPf_no0 h h0)
    have HFE := Lib.hid (HF0.out.err hc)
    clear h0 hc HF0
    go_wp2
    exact ofPf_panic w _ s c _ _ _ rfl rfl HFE.out HE.out
  | ok r =>
    obtain ⟨n, q0⟩ := r
    obtain ⟨_, b0, _⟩ := num_bd h0
    rw [h0] at he
    obtain ⟨rfl, hr⟩ := he
    have HF1 := Lib.hid (HF0.out.rd hc hr)
    have HF2 := Lib.hid (HF1.out.set 0 (.int .i64 n))
    obtain ⟨c0, c1, f0, f1⟩ := HF1.out.b.facts2
    clear hc hr HF0
    have HCNT := Lib.hid (count_calls (w.heap.size + 1 + 1) s q0 2)
    go_wp2_with fail
    refine (HCNT.out _ HMAX.out b0 (by decide) HF2.out.r).mono ?_
    rintro e w2 ⟨hc, he⟩
    rw [show Int.toNat 2 = 2 from rfl] at he
    cases h1 : count s 2 q0 with
    | error c =>
      rw [h1] at he
      obtain rfl := he
      have HE := Lib.hid (ofPf_no1 h h0 (seqAt_no (rd := path_ s) h1))
      have HFE := Lib.hid (HF2.out.err hc)
      clear h0 h1 hc
      go_wp2
      exact ofPf_panic w _ s c _ _ _ rfl rfl (by simpa using HFE.out) HE.out
    | ok r =>
      obtain ⟨m, q1⟩ := r
      have hb8 := count_bd h1
      have HX8 := Lib.hid (seqAt_of (rd := path_ s) h1)
      have HNO := Lib.hid (fun c h2 => ofPf_no1 (c := c) h h0 h2)
      have HYES := Lib.hid (fun l p h2 => ofPf_yes (l := l) (p := p) h h0 h2)
      rw [h1] at he
      obtain ⟨rfl, hr⟩ := he
      have HF8 := Lib.hid (HF2.out.rd hc hr)
      clear h0 h1 hc hr HF1 HF2 c0 c1 f0 f1
      have hm2 : m ≤ 2 := hb8.2.2
      go_wp2_with fail
      go_loopg [16] m (fun g vi wr => ∃ (i qq : Nat) (ms : List Pm) (A : Option Addr) (c : Nat), vi = .int .i64 i ∧ i ≤ m ∧ Hid (g + i = m ∧ ms.length = i ∧ qq ≤ s.size ∧ Face w 35 #[.int .i64 n, .slice A ms.length c] s qq wr ∧ PmO wr (w.heap.size + 3) A c ms ∧ seqN (path_ s) m q1 [] = seqN (path_ s) g qq (ms.map Pm.pt)))
      case atStart => exact ⟨0, q1, [], none, 0, rfl, Nat.zero_le _, rfl, rfl, hb8.2.1, by simpa using HF8.out, PmO.nil _ _, rfl⟩
      case round =>
        obtain ⟨i, qq, ms, A, c, rfl, hi, HH⟩ := hrel
        obtain ⟨hg, hl, hq, hf, ho, hm⟩ := HH.out
        by_cases hlt : i < m
        · have hd2 : decide ((i : Int) < (m : Int)) = true := by simp; omega
          obtain ⟨g, rfl⟩ : ∃ g, gk = g + 1 := ⟨gk - 1, by omega⟩
          have HF := Lib.hid hf
          have HO := Lib.hid ho
          have HQ := Lib.hid hq
          have HGI := Lib.hid hg
          have HLN := Lib.hid hl
          obtain ⟨c0, c1, f0, f1⟩ := hf.b.facts2
          clear hf ho hq hg hl HH HF8
          have HN1 := Lib.hid (number_calls (w.heap.size + 1 + 1) s qq)
          go_wp2_with fail
          refine (HN1.out _ HMAX.out HQ.out HF.out.r).mono ?_
          rintro e w3 ⟨hc, he⟩
          cases h2 : num s qq with
          | error cc =>
            rw [h2] at he
            obtain rfl := he
            rw [seqN_no (path_no0 h2)] at hm
            have HE := Lib.hid (HNO.out cc (by rw [HX8.out, hm]))
            have HFE := Lib.hid (HF.out.err hc)
            clear h2 hc hm
            go_wp2
            exact ofPf_panic w _ s cc _ _ _ rfl rfl HFE.out HE.out
          | ok r =>
            obtain ⟨ix, p1⟩ := r
            obtain ⟨_, b1, hxb⟩ := num_bd h2
            rw [h2] at he
            obtain ⟨rfl, hr⟩ := he
            have HF3 := Lib.hid (HF.out.rd hc hr)
            have HO3 := Lib.hid (HO.out.grow hc (Nat.le_refl _) (fun k hk e => by omega))
            clear hc hr
            have HT1 := Lib.hid (text_calls (w.heap.size + 1 + 1) s p1)
            go_wp2_with fail
            refine (HT1.out _ HMAX.out b1 HF3.out.r).mono ?_
            rintro e w4 ⟨hc, he⟩
            cases h3 : text s p1 with
            | error cc =>
              rw [h3] at he
              obtain rfl := he
              rw [seqN_no (path_no1 h2 h3)] at hm
              have HE := Lib.hid (HNO.out cc (by rw [HX8.out, hm]))
              have HFE := Lib.hid (HF3.out.err hc)
              clear h2 h3 hc hm
              go_wp2
              exact ofPf_panic w _ s cc _ _ _ rfl rfl HFE.out HE.out
            | ok r =>
              obtain ⟨key, p2⟩ := r
              have b2 := (text_bd h3).2.1
              rw [h3] at he
              obtain ⟨rfl, hr⟩ := he
              have HF4 := Lib.hid (HF3.out.rd hc hr)
              have HO4 := Lib.hid (HO3.out.grow hc (Nat.le_refl _) (fun k hk e => by omega))
              clear hc hr
              have HT2 := Lib.hid (text_calls (w.heap.size + 1 + 1) s p2)
              go_wp2_with fail
              refine (HT2.out _ HMAX.out b2 HF4.out.r).mono ?_
              rintro e w5 ⟨hc, he⟩
              cases h4 : text s p2 with
              | error cc =>
                rw [h4] at he
                obtain rfl := he
                rw [seqN_no (path_no2 h2 h3 h4)] at hm
                have HE := Lib.hid (HNO.out cc (by rw [HX8.out, hm]))
                have HFE := Lib.hid (HF4.out.err hc)
                clear h2 h3 h4 hc hm
                go_wp2
                exact ofPf_panic w _ s cc _ _ _ rfl rfl HFE.out HE.out
              | ok r =>
                obtain ⟨val, p3⟩ := r
                have b3 := (text_bd h4).2.1
                rw [h4] at he
                obtain ⟨rfl, hr⟩ := he
                have HF5 := Lib.hid (HF4.out.rd hc hr)
                have HO5 := Lib.hid (HO4.out.grow hc (Nat.le_refl _) (fun k hk e => by omega))
                clear hc hr
                have HF6 := Lib.hid (HF5.out.alloc (.cells #[.int .i64 ix, .string key, .string val, .slice none 0 0] 179))
                have HCN := Lib.hid (count_calls (w.heap.size + 1 + 1) s p3 13)
                go_wp2_with fail
                refine (HCN.out _ HMAX.out b3 (by decide) HF6.out.r).mono ?_
                rintro e w6 ⟨hc, he⟩
                rw [show Int.toNat 13 = 13 from rfl] at he
                cases h5 : count s 13 p3 with
                | error cc =>
                  rw [h5] at he
                  obtain rfl := he
                  rw [seqN_no (path_no3 h2 h3 h4 (seqAt_no (rd := text s) h5))] at hm
                  have HE := Lib.hid (HNO.out cc (by rw [HX8.out, hm]))
                  have HFE := Lib.hid (HF6.out.err hc)
                  clear h2 h3 h4 h5 hc hm
                  go_wp2
                  exact ofPf_panic w _ s cc _ _ _ rfl rfl HFE.out HE.out
                | ok r =>
                  obtain ⟨m13, p4⟩ := r
                  obtain ⟨_, b4, hm13⟩ := count_bd h5
                  rw [h5] at he
                  obtain ⟨rfl, hr⟩ := he
                  have HPNO := Lib.hid (fun c h6 => path_no3 (c := c) h2 h3 h4 ((seqAt_of (rd := text s) h5).trans h6))
                  have HPYES := Lib.hid (fun l p h6 => path_yes (l := l) (p3 := p) h2 h3 h4 ((seqAt_of (rd := text s) h5).trans h6))
                  have HM := Lib.hid hm
                  have hown5 := HF5.out.own
                  have HF7 := Lib.hid (HF6.out.rd hc hr)
                  have HBX := Lib.hid ((Box.new w5 #[.int .i64 ix, .string key, .string val, .slice none 0 0] 179).ch hc (by simp) (by omega))
                  have HC6 := Lib.hid (((Ch.refl w5.heap.size (· = w.heap.size + 2) w5).alloc (Nat.le_refl _) (.cells #[.int .i64 ix, .string key, .string val, .slice none 0 0] 179)).step hc (by simp) (fun i _ e => e))
                  clear h2 h3 h4 h5 hm hc hr c0 c1 f0 f1
                  go_wp2_with fail
                  go_loopg [23] m13 (fun g vj wj => ∃ (j qj : Nat) (sides : List ByteArray) (SA : Option Addr) (sc : Nat), vj = .int .i64 j ∧ j ≤ m13 ∧ Hid (g + j = m13 ∧ sides.length = j ∧ qj ≤ s.size ∧ Face w 35 #[.int .i64 n, .slice A ms.length c] s qj wj ∧ Ch w5.heap.size (· = w.heap.size + 2) w5 wj ∧ Box wj w5.heap.size #[.int .i64 ix, .string key, .string val, .slice SA sides.length sc] 179 ∧ wj.ownsRow (w5.heap.size + 1) 9 1 (.slice SA sides.length sc) sides.length (sides.flatMap textCells) ∧ seqN (text s) m13 p4 [] = seqN (text s) g qj sides))
                  case atStart => exact ⟨0, p4, [], none, 0, rfl, Nat.zero_le _, rfl, rfl, b4, HF7.out, HC6.out, HBX.out, World.ownsRow_nil _ _ _ _, rfl⟩
                  case round =>
                    clear HF HF3 HF4 HF6 HF7 HBX HC6 HO HO3 HO4
                    obtain ⟨j, qj, sides, SA, sc, rfl, hj, HH⟩ := hrel
                    obtain ⟨hgj, hlj, hqj, hf, hcj, hbx, ho, hmj⟩ := HH.out
                    by_cases hjl : j < m13
                    · have hd3 : decide ((j : Int) < (m13 : Int)) = true := by simp; omega
                      obtain ⟨g2, hg2⟩ : ∃ g2, gk = g2 + 1 := ⟨gk - 1, by omega⟩
                      have HF := Lib.hid hf
                      have HC := Lib.hid hcj
                      have HBX := Lib.hid hbx
                      have HO := Lib.hid ho
                      have HQ := Lib.hid hqj
                      have HLJ := Lib.hid hlj
                      have HGJ := Lib.hid hgj
                      have hbl := hbx.lt
                      obtain ⟨x0, x1, x2, x3, _⟩ := hbx.facts4
                      clear hf hcj hbx ho hqj hlj hgj HH
                      subst hg2
                      have HT1 := Lib.hid (text_calls (w.heap.size + 1 + 1) s qj)
                      cases h6 : text s qj with
                      | error cc =>
                        rw [h6] at HT1
                        rw [seqN_no h6] at hmj
                        have hm := HM.out
                        rw [seqN_no (HPNO.out cc hmj)] at hm
                        have HE := Lib.hid (HNO.out cc (by rw [HX8.out, hm]))
                        clear h6 hmj hm
                        go_wp2_with fail
                        refine wp_region_any (by kernel_rfl) ?_
                        change wpAny _ _ _ _ _ _ _ (World.drew _)
                        refine wpAny_ready (rs := [0, 2]) (by kernel_rfl) (by simp) ?_
                        refine AllReady.cons rfl (fun K hK => ?_) (AllReady.cons rfl (fun K hK => ?_) AllReady.nil)
                        · go_simp
                          refine hK _ _ ?_
                          clear hK K
                          refine wpAny_ready (rs := [1, 2]) (by kernel_rfl) (by simp) ?_
                          refine AllReady.cons rfl (fun K hK => ?_) (AllReady.cons rfl (fun K hK => ?_) AllReady.nil)
                          · go_simp
                            refine hK _ _ ?_
                            clear hK K
                            refine wpAny_ready (rs := [2]) (by kernel_rfl) (by simp) ?_
                            refine AllReady.cons rfl (fun K hK => ?_) AllReady.nil
                            go_simp
                            refine (HT1.out _ HMAX.out HQ.out (by first | exact HF.out.r | exact HF.out.drew.r)).mono ?_
                            rintro e w9 ⟨hc, rfl⟩
                            exact ofPf_panic w _ s cc _ _ _ rfl rfl ((HF.out.drew).err hc) HE.out
                          · go_simp
                            refine (HT1.out _ HMAX.out HQ.out (by first | exact HF.out.r | exact HF.out.drew.r)).mono ?_
                            rintro e w9 ⟨hc, rfl⟩
                            exact ofPf_panic w _ s cc _ _ _ rfl rfl ((HF.out.drew).err hc) HE.out
                        · go_simp
                          refine (HT1.out _ HMAX.out HQ.out (by first | exact HF.out.r | exact HF.out.drew.r)).mono ?_
                          rintro e w9 ⟨hc, rfl⟩
                          exact ofPf_panic w _ s cc _ _ _ rfl rfl ((HF.out.drew).err hc) HE.out
                      | ok r =>
                        obtain ⟨sd, p5⟩ := r
                        have b5 := (text_bd h6).2.1
                        rw [h6] at HT1
                        rw [seqN_ok h6] at hmj
                        have HMJ := Lib.hid hmj
                        clear h6 hmj
                        have hrow : ∀ k, Row SA k → w5.heap.size + 1 ≤ k ∧ k < wr.heap.size := fun k hk => own_row HO.out hk
                        have hown0 := HF.out.own
                        have HLL := Lib.hid (show sides.length ≤ 13 by have := HLJ.out; omega)
                        go_wp2_with fail
                        refine wp_region_noPanic ?_
                        go_region_law (first | (go_simp; go_at_call 168; refine (HT1.out _ HMAX.out HQ.out (by exact HF.out.drew.r)).mono ?_; rintro e w9 ⟨hc, rfl, hr⟩; have HF9 := Lib.hid (HF.out.drew.rd hc hr); have HO9 := Lib.hid (own_ch (w := wr.drew) HO.out hc (by intro k hk; have := hrow k hk; simp; omega)); have HB9 := Lib.hid (Box.ch HBX.out.drew hc HBX.out.lt (by omega)); have HC9 := Lib.hid (HC.out.drew.step hc (by exact HC.out.size) (fun _ _ e => e)); have k9 := box4 HB9.out; obtain ⟨_, _, _, k93⟩ := k9; have hl9 := HB9.out.lt; have hrow9 : ∀ k, Row SA k → w5.heap.size + 1 ≤ k ∧ k < w9.heap.size := (fun k hk => own_row HO9.out hk); clear hc hr) | (refine step_app_row rfl (.tmp 26) (.tmp 28) 54 rfl (w5.heap.size + 1) 9 _ 1 16 info_str Try.underlying54 rfl (by decide) SA sc sides.length (sides.flatMap textCells) rfl (HO9.out.alloc _) ⟨w9.heap.size, 0, none⟩ 1 1 (textCells sd) rfl rfl (news_box (Box.new w9 #[.string sd] 9)) (text_one sd) ?hb1 ?hb2 ?hb3 ?_; (case hb1 => have := HLL.out; omega); (case hb2 => have := HLL.out; omega); (case hb3 => simp; omega); intro A' c' w11 ho11 hc11 hA11; have HF11 := Lib.hid ((HF9.out.alloc (.cells #[.string sd] 9)).call hc11 (by simp; omega) (by intro k hk hr; have := hrow9 k hr; omega)); have HO11 := Lib.hid ho11; have HB11 := Lib.hid ((HB9.out.alloc (.cells #[.string sd] 9)).ch hc11 (by simp; omega) (fun hr => by have := hrow9 _ hr; omega)); have HC11 := Lib.hid ((HC9.out.alloc (by omega) (.cells #[.string sd] 9)).step hc11 (by simp; omega) (fun i hi hr => by have := hrow9 _ hr; omega)); have hz11 := hc11.size; obtain ⟨x0, x1, x2, x3, g0, g1, g3, g4⟩ := HB11.out.facts4; clear ho11 hc11 hA11))
                        all_goals refine NoPanic.normal ?_
                        all_goals go_wp2
                        all_goals
                          go_roundg g2
                          case measure => omega
                          case rel => exact ⟨j + 1, p5, sides ++ [sd], A', c', by go_num, by omega, by have := HGJ.out; omega, by have := HLJ.out; simp; omega, b5, HF11.out.call (B := w11.heap.size) (S := (· = w5.heap.size)) (Ch.setCell (p := ⟨w5.heap.size, 3, none⟩) (Ch.refl w11.heap.size (· = w5.heap.size) w11) (.inr rfl) _) (by simp at hz11; omega) (by intro k hk e; omega), HC11.out.setCell (p := ⟨w5.heap.size, 3, none⟩) (.inl (Nat.le_refl _)) _, by have hh := HB11.out.set 3 (.slice A' (sides.length + 1) c'); simpa using hh, by have hh := own_at3 (b := w5.heap.size) (i := 3) HO11.out (by omega) (.slice A' (sides.length + 1) c'); simpa using hh, HMJ.out⟩
                    · have hd3 : decide ((j : Int) < (m13 : Int)) = false := by simp; omega
                      obtain rfl : gk = 0 := by omega
                      have hm0 : seqN (text s) 0 qj sides = .ok (sides, qj) := rfl
                      rw [hm0] at hmj
                      have hm := HM.out
                      rw [seqN_ok (HPYES.out _ _ hmj)] at hm
                      have HMX := Lib.hid hm
                      have HF := Lib.hid hf
                      have HO := Lib.hid (HO5.out.grow hcj (Nat.le_refl _) (fun k hk e => by omega))
                      have HSR := Lib.hid (own_base ho (show w.heap.size + 3 ≤ w5.heap.size + 1 by omega))
                      have HBX := Lib.hid hbx
                      have hsz5 := hcj.size
                      have hown0 := hf.own
                      obtain ⟨x0, x1, x2, x3, _⟩ := hbx.facts4
                      obtain ⟨c0, c1, f0, f1⟩ := hf.b.facts2
                      have hrow : ∀ k, Row A k → w.heap.size + 3 ≤ k ∧ k < wr.heap.size := fun k hk => own_row HO.out.row hk
                      have HLL := Lib.hid (show ms.length ≤ 2 by have := HLN.out; omega)
                      have HQJ := Lib.hid hqj
                      clear hm hm0 hmj hf ho hcj hbx hlj hgj HH hqj
                      go_wp2_with (at_builtin; refine app_row rfl (.tmp 33) (.tmp 35) 33 rfl (w.heap.size + 3) 179 _ 4 64 info_path Try.underlying33 rfl (by decide) A c ms.length (ms.flatMap Pm.cells) rfl (HO.out.row.alloc _) _ 1 1 (Pm.cells ⟨ix, key, val, sides, SA, sc⟩) rfl rfl (news_box (Box.new wr #[.int .i64 ix, .string key, .string val, .slice SA sides.length sc] 179)) (Pm.one ⟨ix, key, val, sides, SA, sc⟩) ?hb1 ?hb2 ?hb3 ?_; (case hb1 => have := HLL.out; omega); (case hb2 => have := HLL.out; omega); (case hb3 => simp; omega); intro A' c' w11 ho11 hc11 hA11; have HO11 := Lib.hid (PmO.snoc (m := ⟨ix, key, val, sides, SA, sc⟩) (HO.out.below ((Below.refl _ _).alloc (Nat.le_refl _) _)) (HSR.out.alloc _) hc11 ho11); have HF11 := Lib.hid ((HF.out.alloc (.cells #[.int .i64 ix, .string key, .string val, .slice SA sides.length sc] 179)).call hc11 (by simp; omega) (by intro k hk hr; have := hrow k hr; omega)); clear ho11 hc11 hA11 c0 c1 f0 f1; obtain ⟨c0, c1, f0, f1⟩ := HF11.out.b.facts2)
                      go_roundg g
                      case measure => omega
                      case rel => exact ⟨i + 1, qj, ms ++ [⟨ix, key, val, sides, SA, sc⟩], A', c', by go_num, by omega, by have := HGI.out; omega, by simp; have := HLN.out; omega, HQJ.out, by have hh := HF11.out.set 1 (.slice A' (ms.length + 1) c'); simpa using hh, by have hh := HO11.out.set (b := w.heap.size) (i := 1) (by omega) (.slice A' (ms.length + 1) c'); simpa using hh, by have hh := HMX.out; simpa [Pm.pt] using hh⟩
        · have hd2 : decide ((i : Int) < (m : Int)) = false := by simp; omega
          obtain rfl : gk = 0 := by omega
          have hm0 : seqN (path_ s) 0 qq (ms.map Pm.pt) = .ok (ms.map Pm.pt, qq) := rfl
          rw [hm0] at hm
          have HGG := Lib.hid (HYES.out _ _ (by rw [HX8.out, hm]))
          have HF := Lib.hid hf
          have HO := Lib.hid ho
          have HQ := Lib.hid hq
          clear hm hm0 hf ho hl hg hq HH HF8
          have HEND := Lib.hid (end_calls (w.heap.size + 1 + 1) s qq)
          by_cases hend : qq < s.size
          · have HG2 := HGG.out
            rw [if_pos hend] at HG2
            have HE := Lib.hid HG2
            have HEN := Lib.hid hend
            clear HG2 hend
            go_wp2_with fail
            refine (HEND.out _ HMAX.out HQ.out HF.out.r).mono ?_
            rintro e w9 ⟨hc, he⟩
            rw [if_pos HEN.out] at he
            obtain rfl := he
            have HFE := Lib.hid (HF.out.err hc)
            clear hc
            go_wp2
            exact ofPf_panic w _ s 12 _ _ _ rfl rfl HFE.out HE.out
          · have HG2 := HGG.out
            rw [if_neg hend] at HG2
            have HG3 := Lib.hid HG2
            have HEN := Lib.hid hend
            clear HG2 hend
            have hown0 := HF.out.own
            go_wp2_with fail
            refine (HEND.out _ HMAX.out HQ.out HF.out.r).mono ?_
            rintro e w9 ⟨hc, he⟩
            rw [if_neg HEN.out] at he
            obtain rfl := he
            have HFE := Lib.hid (HF.out.err hc)
            have HO9 := Lib.hid (HO.out.grow hc (Nat.le_refl _) (fun k hk e => by omega))
            have hsz9 := Nat.lt_of_lt_of_le hown0 hc.size
            clear hc
            obtain ⟨c0, c1, f0, f1⟩ := HFE.out.b.facts2
            obtain ⟨e0, g0⟩ := HFE.out.e.facts1
            have HRT := Lib.hid (wright_calls n A c ms w9 HO9.out.pm)
            cases hok : pfOk n (ms.map Pm.pt) with
            | true =>
              rw [hok] at HRT
              have HGE := HG3.out
              rw [if_pos hok] at HGE
              have HE := Lib.hid HGE
              clear HGE hok
              go_wp2_with fail
              refine HRT.out.mono ?_
              rintro e w10 ⟨rfl, hb10⟩
              have HB10 := Lib.hid (HFE.out.b.call hb10)
              have HE10 := Lib.hid (HFE.out.e.call hb10)
              have HC10 := Lib.hid (HFE.out.ch.trans (hb10.mono (by omega)))
              have HO10 := Lib.hid (HO9.out.below hb10)
              have hs10 := hb10.size
              clear c0 c1 f0 f1 e0 g0 hb10
              obtain ⟨c0, c1, f0, f1⟩ := HB10.out.facts2
              obtain ⟨e0, g0⟩ := HE10.out.facts1
              go_wp2
              refine ofPf_door w _ s n ms A c 0 _ rfl rfl ?_ ?_ ?_ ?_ HE.out
              · have hh := ((HB10.out.set 0 (.int .i64 n)).set 1 (.slice A (ms : List Pm).length c)).other (a := ⟨w.heap.size + 1, 0, none⟩) (by simp) (.int .i64 0)
                simpa using hh
              · have hh := ((HE10.out.other (a := ⟨w.heap.size, 0, none⟩) (by simp) (.int .i64 n)).other (a := ⟨w.heap.size, 1, none⟩) (by simp) (.slice A (ms : List Pm).length c)).set 0 (.int .i64 0)
                simpa using hh
              · exact ((HC10.out.setCell (p := ⟨w.heap.size, 0, none⟩) (by simp) _).setCell (p := ⟨w.heap.size, 1, none⟩) (by simp) _).setCell (p := ⟨w.heap.size + 1, 0, none⟩) (by simp) _
              · have hh := ((HO10.out.set (b := w.heap.size) (i := 0) (by omega) (.int .i64 n)).set (b := w.heap.size) (i := 1) (by omega) (.slice A ms.length c)).set (b := w.heap.size + 1) (i := 0) (by omega) (.int .i64 0)
                exact ⟨own_base hh.row (by omega), fun m hm => own_base (hh.sides m hm) (by omega)⟩
            | false =>
              rw [hok] at HRT
              have HGE := HG3.out
              rw [hok, if_neg (by simp)] at HGE
              have HE := Lib.hid HGE
              clear HGE hok
              go_wp2_with fail
              refine HRT.out.mono ?_
              rintro e w10 ⟨rfl, hb10⟩
              have HB10 := Lib.hid (HFE.out.b.call hb10)
              have HE10 := Lib.hid (HFE.out.e.call hb10)
              have HC10 := Lib.hid (HFE.out.ch.trans (hb10.mono (by omega)))
              have hs10 := hb10.size
              clear c0 c1 f0 f1 e0 g0 hb10
              obtain ⟨c0, c1, f0, f1⟩ := HB10.out.facts2
              obtain ⟨e0, g0⟩ := HE10.out.facts1
              go_wp2
              refine ofPf_door w _ s 0 [] none 0 14 _ rfl rfl ?_ ?_ ?_ ?_ HE.out
              · have hh := ((HB10.out.set 0 (.int .i64 0)).set 1 (.slice none ([] : List Pm).length 0)).other (a := ⟨w.heap.size + 1, 0, none⟩) (by simp) (.int .i64 14)
                simpa using hh
              · have hh := ((HE10.out.other (a := ⟨w.heap.size, 0, none⟩) (by simp) (.int .i64 0)).other (a := ⟨w.heap.size, 1, none⟩) (by simp) (.slice none ([] : List Pm).length 0)).set 0 (.int .i64 14)
                simpa using hh
              · exact ((HC10.out.setCell (p := ⟨w.heap.size, 0, none⟩) (by simp) _).setCell (p := ⟨w.heap.size, 1, none⟩) (by simp) _).setCell (p := ⟨w.heap.size + 1, 0, none⟩) (by simp) _
              · exact PmO.nil _ _
theorem ofPf_calls (s : ByteArray) (w : World) (hs : s.size ≤ maxLen) : Calls Try.prog 146 #[.string s] w (OfPfPost (ofPfE s) w) := by
  by_cases h : 1048576 < s.size
  · exact ofPf_longC s w hs h
  · exact ofPf_nearC s w h
end Go.Proofs.Ytfgpchffkpomoaa
