/- Texts of this proof, several in one file; each says ahead of it what it proves. -/
import Derived.Test.YtfgpchffkpomoaaPk06
import Derived.RegionTactic
import Derived.Deep.AppendLies
import Derived.Deep.RegionLaw
import Derived.Deep.RegionHeld3
/- A body is read: the walk through Of. -/
namespace Go.Proofs.Ytfgpchffkpomoaa
set_option linter.unusedSimpArgs false
set_option linter.unusedVariables false
open Go.RowKit

abbrev ofD (w0 : World) : Deferred := { target := .fn (.func 165) #[.pointer (some ⟨w0.heap.size, 0, none⟩), .pointer (some ⟨w0.heap.size + 1, 0, none⟩)], args := #[] }

theorem of_panic (w0 w1 : World) (s : ByteArray) (c : Nat) (tmps : Array Value) (x0 x1 x2 x3 x4 x5 x6 x7 : Value) (h2 : tmps[2]? = some (.pointer (some ⟨w0.heap.size, 0, none⟩))) (h3 : tmps[3]? = some (.pointer (some ⟨w0.heap.size + 1, 0, none⟩)))
    (hf : FaceE w0 59 #[x0, x1, x2, x3, x4, x5, x6, x7] w1) (hE : ofBody s = (zeroBd, (c : Int))) : Leaves Try.prog Try.f115 tmps (OfPost s w0) [ofD w0] (.panicking (fault c)) w1 := by
  have HE := Lib.hid hE
  clear hE
  refine leaves_cons (f := 165) (args := #[.pointer (some ⟨w0.heap.size, 0, none⟩), .pointer (some ⟨w0.heap.size + 1, 0, none⟩)]) (by simp) (by simp [go_sem]) ?_
  refine (of_catch w0.heap.size _ _ _ _ _ _ _ _ _ c w1 hf.b hf.e).mono ?_
  rintro e u' w' ⟨rfl, hu, hc, _, k0, k1⟩
  obtain ⟨c0, c1, c2, c3, c4, c5, c6, c7, _⟩ := k0.facts8
  obtain ⟨d0, _⟩ := k1.facts1
  refine leaves_end hu ⟨.tuple #[zeroBd.val none 0, .int .i64 c], by simp [results, Try.results115, go_sem, h2, h3, c0, c1, c2, c3, c4, c5, c6, c7, d0, zeroBd], none, 0, ?_, hf.ch.trans (hc.below (fun _ _ h => h)), ?_⟩
  · rw [HE.out]
  · rw [HE.out]; exact World.ownsRow_nil _ _ _ _

set_option maxRecDepth 100000 in
theorem of_long (s : ByteArray) (w : World) (h : 1048576 < s.size) : Calls Try.prog 115 #[.string s] w (OfPost s w) := by
  have HE := Lib.hid (show ofBody s = (zeroBd, 4) by unfold ofBody; rw [if_pos h])
  have hd : decide ((1048576 : Int) < (s.size : Int)) = true := by simp; omega
  go_enter_defers Try.func115, Try.ntmps115
  go_wp2
  refine ⟨.tuple #[zeroBd.val none 0, .int .i64 4], by simp [results, Try.results115, go_sem, zeroBd], none, 0, by rw [HE.out], ?_, by rw [HE.out]; exact World.ownsRow_nil _ _ _ _⟩
  exact ((Below.refl _ _).alloc (Nat.le_refl _) _).alloc (by simp) _

theorem of_door (w0 w1 : World) (s : ByteArray) (b : Bd) (A : Option Addr) (c : Nat) (code : Int) (tmps : Array Value) (h2 : tmps[2]? = some (.pointer (some ⟨w0.heap.size, 0, none⟩))) (h3 : tmps[3]? = some (.pointer (some ⟨w0.heap.size + 1, 0, none⟩)))
    (hb : Box w1 w0.heap.size (b.cells A c) 59) (he : Box w1 (w0.heap.size + 1) #[.int .i64 code] 25) (hch : Below w0.heap.size w0 w1)
    (hown : w1.ownsRow w0.heap.size 61 3 (.slice A b.list.length c) b.list.length (b.list.flatMap Sg.cells)) (hE : ofBody s = (b, code)) : Leaves Try.prog Try.f115 tmps (OfPost s w0) [ofD w0] .returning w1 := by
  have HE := Lib.hid hE
  clear hE
  refine leaves_cons (f := 165) (args := #[.pointer (some ⟨w0.heap.size, 0, none⟩), .pointer (some ⟨w0.heap.size + 1, 0, none⟩)]) (by simp) (by simp [go_sem]) ?_
  refine (of_idle w1 _ _).mono ?_
  rintro e u' w' ⟨rfl, hu, rfl⟩
  obtain ⟨c0, c1, c2, c3, c4, c5, c6, c7, _⟩ := hb.facts8
  obtain ⟨d0, _⟩ := he.facts1
  refine leaves_end hu ⟨.tuple #[b.val A c, .int .i64 code], by simp [results, Try.results115, go_sem, h2, h3, c0, c1, c2, c3, c4, c5, c6, c7, d0], A, c, ?_, hch, ?_⟩
  · rw [HE.out]
  · rw [HE.out]; exact hown


theorem ofBody_err {s : ByteArray} (hl : ¬ 1048576 < s.size) {c : Nat} (h : rdBody s = .error c) : ofBody s = (zeroBd, (c : Int)) := by
  unfold ofBody; rw [if_neg hl, h]

set_option maxHeartbeats 4000000 in
set_option maxRecDepth 100000 in
theorem of_short (s : ByteArray) (w : World) (h : ¬ 1048576 < s.size) : Calls Try.prog 115 #[.string s] w (OfPost s w) := by
  have hmf : ∀ (fn : Fn) (first cap : Array Value) (w : World), (Instr.makeFunc fn first cap).run Try.prog w = .ok (.func fn first cap) w := fun _ _ _ _ => rfl
  have hmax : s.size ≤ maxLen := by unfold maxLen; omega
  have HMAX := Lib.hid hmax
  clear hmax
  have HZ := Lib.hid (fun c (hc : rdBody s = .error c) => ofBody_err h hc)
  have HG := Lib.hid (show ofBody s = match rdBody s with | .error c => (zeroBd, (c : Int)) | .ok b => if rightE b = 0 then (b, 0) else (zeroBd, rightE b) by unfold ofBody; rw [if_neg h]; rfl)
  have hx : rdBody s = rdBody s := rfl
  conv at hx => rhs; unfold rdBody
  have HX0 := Lib.hid hx
  clear hx
  have hd : decide ((1048576 : Int) < (s.size : Int)) = false := by simp; omega
  have HF0 := Lib.hid (Face.new w 59 #[.int .i64 0, .int .i64 0, .int .i64 0, .int .i64 0, .int .i64 0, .string ⟨#[]⟩, .string ⟨#[]⟩, .slice none 0 0] s)
  go_enter_defers Try.func115, Try.ntmps115

  go_wp2_with fail
  refine (number_calls (w.heap.size + 1 + 1) s 0 _ HMAX.out (Nat.zero_le _) HF0.out.r).mono ?_
  rintro e w1 ⟨hc, he⟩
  cases hx : num s 0 with
  | error c =>
    rw [hx] at he HX0
    obtain rfl := he
    have HE := Lib.hid (HZ.out c HX0.out)
    have HFE := Lib.hid (HF0.out.err hc)
    clear hx hc HX0 HF0
    go_wp2
    exact of_panic w _ s c _ _ _ _ _ _ _ _ _ rfl rfl HFE.out HE.out
  | ok r =>
    obtain ⟨k, p1⟩ := r
    have hb1 := num_bd hx
    rw [hx] at he HX0
    obtain ⟨rfl, hr⟩ := he
    have HX1 := Lib.hid HX0.out
    have HF1 := Lib.hid (HF0.out.rd hc hr)
    clear hx hc hr HX0 HF0
    go_wp2_with fail
    refine (number_calls (w.heap.size + 1 + 1) s p1 _ HMAX.out hb1.2.1 HF1.out.r).mono ?_
    rintro e w2 ⟨hc, he⟩
    cases hx : num s p1 with
    | error c =>
      rw [hx] at he HX1
      obtain rfl := he
      have HE := Lib.hid (HZ.out c HX1.out)
      have HFE := Lib.hid (HF1.out.err hc)
      clear hx hc HX1 HF1
      go_wp2
      exact of_panic w _ s c _ _ _ _ _ _ _ _ _ rfl rfl HFE.out HE.out
    | ok r =>
      obtain ⟨v, p2⟩ := r
      have hb2 := num_bd hx
      rw [hx] at he HX1
      obtain ⟨rfl, hr⟩ := he
      have HX2 := Lib.hid HX1.out
      have HF2 := Lib.hid (HF1.out.rd hc hr)
      clear hx hc hr HX1 HF1
      go_wp2_with fail
      refine (number_calls (w.heap.size + 1 + 1) s p2 _ HMAX.out hb2.2.1 HF2.out.r).mono ?_
      rintro e w3 ⟨hc, he⟩
      cases hx : num s p2 with
      | error c =>
        rw [hx] at he HX2
        obtain rfl := he
        have HE := Lib.hid (HZ.out c HX2.out)
        have HFE := Lib.hid (HF2.out.err hc)
        clear hx hc HX2 HF2
        go_wp2
        exact of_panic w _ s c _ _ _ _ _ _ _ _ _ rfl rfl HFE.out HE.out
      | ok r =>
        obtain ⟨q, p3⟩ := r
        have hb3 := num_bd hx
        rw [hx] at he HX2
        obtain ⟨rfl, hr⟩ := he
        have HX3 := Lib.hid HX2.out
        have HF3 := Lib.hid (HF2.out.rd hc hr)
        clear hx hc hr HX2 HF2
        go_wp2_with fail
        refine (number_calls (w.heap.size + 1 + 1) s p3 _ HMAX.out hb3.2.1 HF3.out.r).mono ?_
        rintro e w4 ⟨hc, he⟩
        cases hx : num s p3 with
        | error c =>
          rw [hx] at he HX3
          obtain rfl := he
          have HE := Lib.hid (HZ.out c HX3.out)
          have HFE := Lib.hid (HF3.out.err hc)
          clear hx hc HX3 HF3
          go_wp2
          exact of_panic w _ s c _ _ _ _ _ _ _ _ _ rfl rfl HFE.out HE.out
        | ok r =>
          obtain ⟨cl, p4⟩ := r
          have hb4 := num_bd hx
          rw [hx] at he HX3
          obtain ⟨rfl, hr⟩ := he
          have HX4 := Lib.hid HX3.out
          have HF4 := Lib.hid (HF3.out.rd hc hr)
          clear hx hc hr HX3 HF3
          go_wp2_with fail
          refine (number_calls (w.heap.size + 1 + 1) s p4 _ HMAX.out hb4.2.1 HF4.out.r).mono ?_
          rintro e w5 ⟨hc, he⟩
          cases hx : num s p4 with
          | error c =>
            rw [hx] at he HX4
            obtain rfl := he
            have HE := Lib.hid (HZ.out c HX4.out)
            have HFE := Lib.hid (HF4.out.err hc)
            clear hx hc HX4 HF4
            go_wp2
            exact of_panic w _ s c _ _ _ _ _ _ _ _ _ rfl rfl HFE.out HE.out
          | ok r =>
            obtain ⟨t, p5⟩ := r
            have hb5 := num_bd hx
            rw [hx] at he HX4
            obtain ⟨rfl, hr⟩ := he
            have HX5 := Lib.hid HX4.out
            have HF5 := Lib.hid (HF4.out.rd hc hr)
            clear hx hc hr HX4 HF4
            have hb := HF5.out.b
            obtain ⟨c0, c1, c2, c3, c4, c5, c6, c7, f0, f1, f2, f3, f4, f5, f6, f7⟩ := hb.facts8
            clear hb
            have HF5b := Lib.hid (show Face w 59 #[.int .i64 k, .int .i64 v, .int .i64 q, .int .i64 cl, .int .i64 t, .string ⟨#[]⟩, .string ⟨#[]⟩, .slice none 0 0] s p5 _ by have hh := ((((HF5.out.set 0 (.int .i64 k)).set 1 (.int .i64 v)).set 2 (.int .i64 q)).set 3 (.int .i64 cl)).set 4 (.int .i64 t); simpa using hh)
            clear HF5
            have HF5 := Lib.hid HF5b.out
            clear HF5b
            go_wp2_with fail
            clear c0 c1 c2 c3 c4 c5 c6 c7 f0 f1 f2 f3 f4 f5 f6 f7
            refine (text_calls (w.heap.size + 1 + 1) s p5 _ HMAX.out hb5.2.1 HF5.out.r).mono ?_
            rintro e w6 ⟨hc, he⟩
            cases hx : text s p5 with
            | error c =>
              rw [hx] at he HX5
              obtain rfl := he
              have HE := Lib.hid (HZ.out c HX5.out)
              have HFE := Lib.hid (HF5.out.err hc)
              clear hx hc HX5 HF5
              go_wp2
              exact of_panic w _ s c _ _ _ _ _ _ _ _ _ rfl rfl HFE.out HE.out
            | ok r =>
              obtain ⟨d, p6⟩ := r
              have hb6 := text_bd hx
              rw [hx] at he HX5
              obtain ⟨rfl, hr⟩ := he
              have HX6 := Lib.hid HX5.out
              have HF6 := Lib.hid (HF5.out.rd hc hr)
              clear hx hc hr HX5 HF5
              go_wp2_with fail
              refine (text_calls (w.heap.size + 1 + 1) s p6 _ HMAX.out hb6.2.1 HF6.out.r).mono ?_
              rintro e w7 ⟨hc, he⟩
              cases hx : text s p6 with
              | error c =>
                rw [hx] at he HX6
                obtain rfl := he
                have HE := Lib.hid (HZ.out c HX6.out)
                have HFE := Lib.hid (HF6.out.err hc)
                clear hx hc HX6 HF6
                go_wp2
                exact of_panic w _ s c _ _ _ _ _ _ _ _ _ rfl rfl HFE.out HE.out
              | ok r =>
                obtain ⟨x, p7⟩ := r
                have hb7 := text_bd hx
                rw [hx] at he HX6
                obtain ⟨rfl, hr⟩ := he
                have HX7 := Lib.hid HX6.out
                have HF7 := Lib.hid (HF6.out.rd hc hr)
                clear hx hc hr HX6 HF6
                have hb := HF7.out.b
                obtain ⟨c0, c1, c2, c3, c4, c5, c6, c7, f0, f1, f2, f3, f4, f5, f6, f7⟩ := hb.facts8
                clear hb
                have HF7b := Lib.hid (show Face w 59 #[.int .i64 k, .int .i64 v, .int .i64 q, .int .i64 cl, .int .i64 t, .string d, .string x, .slice none 0 0] s p7 _ by have hh := (HF7.out.set 5 (.string d)).set 6 (.string x); simpa using hh)
                clear HF7
                have HF7 := Lib.hid HF7b.out
                clear HF7b
                go_wp2_with fail
                clear c0 c1 c2 c3 c4 c5 c6 c7 f0 f1 f2 f3 f4 f5 f6 f7
                refine (count_calls (w.heap.size + 1 + 1) s p7 64 _ HMAX.out hb7.2.1 (by decide) HF7.out.r).mono ?_
                rintro e w8 ⟨hc, he⟩
                rw [show Int.toNat 64 = 64 from rfl] at he
                cases hx : count s 64 p7 with
                | error c =>
                  rw [hx] at he HX7
                  obtain rfl := he
                  have HE := Lib.hid (HZ.out c HX7.out)
                  have HFE := Lib.hid (HF7.out.err hc)
                  clear hx hc HX7 HF7
                  go_wp2
                  exact of_panic w _ s c _ _ _ _ _ _ _ _ _ rfl rfl HFE.out HE.out
                | ok r =>
                  obtain ⟨n, p8⟩ := r
                  have hb8 := count_bd hx
                  rw [hx] at he HX7
                  obtain ⟨rfl, hr⟩ := he
                  have HX8 := Lib.hid HX7.out
                  have HF8 := Lib.hid (HF7.out.rd hc hr)
                  clear hx hc hr HX7 HF7
                  go_wp2_with fail
                  go_loopg [28] n (fun g vi wr => ∃ (i qq : Nat) (l : List Sg) (A : Option Addr) (c : Nat), vi = .int .i64 i ∧ i ≤ n ∧ Hid (g + i = n ∧ l.length = i ∧ qq ≤ s.size ∧ Face w 59 #[.int .i64 k, .int .i64 v, .int .i64 q, .int .i64 cl, .int .i64 t, .string d, .string x, .slice A l.length c] s qq wr ∧ wr.ownsRow (w.heap.size + 3) 61 3 (.slice A l.length c) l.length (l.flatMap Sg.cells) ∧ many s n p8 [] = many s g qq l))
                  case atStart => exact ⟨0, p8, [], none, 0, rfl, Nat.zero_le _, rfl, rfl, hb8.2.1, HF8.out, World.ownsRow_nil _ _ _ _, rfl⟩
                  case round =>
                    obtain ⟨i, qq, l, A, c, rfl, hi, HH⟩ := hrel
                    obtain ⟨hg, hl, hq, hf, ho, hm⟩ := HH.out
                    by_cases hlt : i < n
                    · have hd2 : decide ((i : Int) < (n : Int)) = true := by simp; omega
                      obtain ⟨g, rfl⟩ : ∃ g, gk = g + 1 := ⟨gk - 1, by omega⟩
                      have hstep : many s (g + 1) qq l = match signed s qq with | .error e => .error e | .ok (m, p) => many s g p (l ++ [m]) := rfl
                      rw [hstep] at hm
                      have HM := Lib.hid hm
                      have HF := Lib.hid hf
                      have HO := Lib.hid ho
                      have HQ := Lib.hid hq
                      have HGI := Lib.hid hg
                      have HLN := Lib.hid hl
                      obtain ⟨_, _, _, _, _, _, _, c7, _, _, _, _, _, _, _, f7⟩ := hf.b.facts8
                      clear hm hf ho hq hg hl hstep HH
                      have HSG := Lib.hid (signed_calls (w.heap.size + 1 + 1) s qq)
                      cases hx : signed s qq with
                      | error cc =>
                        rw [hx] at HM HSG
                        have HX9 := Lib.hid (show rdBody s = .error cc by rw [HX8.out, HM.out])
                        have HE := Lib.hid (HZ.out cc HX9.out)
                        clear hx HM HX9
                        go_wp2_with fail
                        refine wp_region_any (by kernel_rfl) ?_
                        change wpAny _ _ _ _ _ _ _ (World.drew _)
                        refine wpAny_ready (rs := [0, 2]) (by kernel_rfl) (by simp) ?_
                        refine AllReady.cons rfl (fun K hK => ?_) (AllReady.cons rfl (fun K hK => ?_) AllReady.nil)
                        · go_simp
                          refine hK _ _ ?_
                          clear hK K
                          refine wpAny_ready (rs := [1, 2]) (by kernel_rfl) (by simp) ?_
                          refine AllReady.cons rfl (fun K hK => ?_) (AllReady.cons rfl (fun K hK => ?_) AllReady.nil)
                          · go_simp
                            refine hK _ _ ?_
                            clear hK K
                            refine wpAny_ready (rs := [2]) (by kernel_rfl) (by simp) ?_
                            refine AllReady.cons rfl (fun K hK => ?_) AllReady.nil
                            go_simp
                            refine (HSG.out _ HMAX.out HQ.out (by first | exact HF.out.r | exact HF.out.drew.r)).mono ?_
                            rintro e w9 ⟨hc, rfl⟩
                            exact of_panic w _ s cc _ _ _ _ _ _ _ _ _ rfl rfl ((HF.out.drew).err hc) HE.out
                          · go_simp
                            refine (HSG.out _ HMAX.out HQ.out (by first | exact HF.out.r | exact HF.out.drew.r)).mono ?_
                            rintro e w9 ⟨hc, rfl⟩
                            exact of_panic w _ s cc _ _ _ _ _ _ _ _ _ rfl rfl ((HF.out.drew).err hc) HE.out
                        · go_simp
                          refine (HSG.out _ HMAX.out HQ.out (by first | exact HF.out.r | exact HF.out.drew.r)).mono ?_
                          rintro e w9 ⟨hc, rfl⟩
                          exact of_panic w _ s cc _ _ _ _ _ _ _ _ _ rfl rfl ((HF.out.drew).err hc) HE.out
                      | ok r =>
                        obtain ⟨m, pp⟩ := r
                        have hsb := signed_bd hx
                        rw [hx] at HM HSG
                        have HM2 := Lib.hid HM.out
                        clear hx HM
                        obtain ⟨who, body, sig⟩ := m
                        have hrow : ∀ k, Row A k → w.heap.size + 3 ≤ k ∧ k < wr.heap.size := fun k hk => own_row HO.out hk
                        have hown0 := HF.out.own
                        have HLL := Lib.hid (show l.length ≤ 64 by have := HLN.out; have := HGI.out; omega)
                        go_wp2_with fail
                        refine wp_region_noPanic ?_
                        go_region_law (first | (go_simp; go_at_call 170; refine (HSG.out _ HMAX.out HQ.out (by exact HF.out.drew.r)).mono ?_; rintro e w9 ⟨hc, he9, hr⟩; simp only [Sg.val] at he9; subst he9; have HF9 := Lib.hid (HF.out.drew.rd hc hr); have HO9 := Lib.hid (own_ch (w := wr.drew) HO.out hc (by intro k hk; have := hrow k hk; simp; omega)); have k7 := HF9.out.b.cell 7; have hown9 := HF9.out.own; have hlt9 := Nat.lt_of_le_of_lt (Nat.le_add_right _ 2) hown9; have hrow9 : ∀ k, Row A k → w.heap.size + 3 ≤ k ∧ k < w9.heap.size := (fun k hk => own_row HO9.out hk); clear hc hr; simp at k7) | (refine step_app_row rfl (.tmp 31) (.tmp 33) 57 rfl (w.heap.size + 3) 61 _ 3 40 info_sg Try.underlying57 rfl (by decide) A c l.length (l.flatMap Sg.cells) rfl (HO9.out.alloc _) ⟨w9.heap.size, 0, none⟩ 1 1 (Sg.cells ⟨who, body, sig⟩) rfl rfl (news_box (Box.new w9 #[.int .i64 who, .string body, .string sig] 61)) (Sg.one _) ?hb1 ?hb2 ?hb3 ?_; (case hb1 => have := HLL.out; omega); (case hb2 => have := HLL.out; omega); (case hb3 => simp; omega); intro A' c' w10 ho10 hc10 hA10; have HF10 := Lib.hid ((HF9.out.alloc (.cells #[.int .i64 who, .string body, .string sig] 61)).call hc10 (by simp; omega) (by intro k hk hr; have := hrow9 k hr; omega)); have HO10 := Lib.hid ho10; have k7' := HF10.out.b.cell 7; have f7' := HF10.out.b.free 7; clear ho10 hc10 hA10; simp at k7'))
                        all_goals refine NoPanic.normal ?_
                        all_goals go_wp2
                        all_goals
                          go_roundg g
                          case measure => omega
                          case rel => exact ⟨i + 1, pp, l ++ [⟨who, body, sig⟩], A', c', by go_num, by omega, by have := HGI.out; omega, by simp; have := HLN.out; omega, hsb.2, by have hh := HF10.out.set 7 (.slice A' (l.length + 1) c'); simpa using hh, by have hh := ownsRow_setCell_below HO10.out (a := ⟨w.heap.size, 7, none⟩) (by simp) (.slice A' (l.length + 1) c'); simpa [List.flatMap_append] using hh, HM2.out⟩
                    · have hd2 : decide ((i : Int) < (n : Int)) = false := by simp; omega
                      obtain rfl : gk = 0 := by omega
                      have hm0 : many s 0 qq l = .ok (l, qq) := rfl
                      rw [hm0] at hm
                      have HX9 := Lib.hid (show rdBody s = if qq < s.size then .error 12 else .ok ⟨k, v, q, cl, t, d, x, l⟩ by rw [HX8.out, hm])
                      have HF := Lib.hid hf
                      have HO := Lib.hid ho
                      have HQ := Lib.hid hq
                      clear hm hm0 hf ho hl hg HH
                      have HEND := Lib.hid (end_calls (w.heap.size + 1 + 1) s qq)
                      by_cases hend : qq < s.size
                      · have HX10 := HX9.out
                        rw [if_pos hend] at HX10
                        have HE := Lib.hid (HZ.out 12 HX10)
                        have HEN := Lib.hid hend
                        clear HX10 hend
                        go_wp2_with fail
                        refine (HEND.out _ HMAX.out HQ.out HF.out.r).mono ?_
                        rintro e w9 ⟨hc, he⟩
                        rw [if_pos HEN.out] at he
                        obtain rfl := he
                        have HFE := Lib.hid (HF.out.err hc)
                        clear hc
                        go_wp2
                        exact of_panic w _ s 12 _ _ _ _ _ _ _ _ _ rfl rfl HFE.out HE.out
                      · have HX10 := HX9.out
                        rw [if_neg hend] at HX10
                        have HG2 := HG.out
                        rw [HX10] at HG2
                        have HG3 := Lib.hid HG2
                        have HEN := Lib.hid hend
                        clear HX10 HG2 hend
                        have hrow : ∀ k, Row A k → w.heap.size + 3 ≤ k ∧ k < wr.heap.size := fun k hk => own_row HO.out hk
                        have hown0 := HF.out.own
                        go_wp2_with fail
                        refine (HEND.out _ HMAX.out HQ.out HF.out.r).mono ?_
                        rintro e w9 ⟨hc, he⟩
                        rw [if_neg HEN.out] at he
                        obtain rfl := he
                        have HFE := Lib.hid (HF.out.err hc)
                        have HO9 := Lib.hid (own_ch HO.out hc (by intro k hk; have := hrow k hk; omega))
                        have hsz9 := Nat.lt_of_lt_of_le hown0 hc.size
                        clear hc
                        obtain ⟨c0, c1, c2, c3, c4, c5, c6, c7, f0, f1, f2, f3, f4, f5, f6, f7⟩ := HFE.out.b.facts8
                        obtain ⟨e0, g0⟩ := HFE.out.e.facts1
                        obtain ⟨b, hb⟩ : ∃ b : Bd, b = ⟨k, v, q, cl, t, d, x, l⟩ := ⟨_, rfl⟩
                        have HRT := Lib.hid (right_calls b A c w9 (by rw [hb]; exact Sl.of_own HO9.out))
                        have HBB := Lib.hid hb
                        rw [← hb] at HG3
                        obtain ⟨re, hre⟩ : ∃ re, re = rightE b := ⟨_, rfl⟩
                        rw [← hre] at HRT HG3
                        have HRE := Lib.hid hre
                        unfold Bd.val Bd.cells at HRT
                        rw [hb] at HRT
                        clear hb hre
                        go_wp2_with fail
                        refine HRT.out.mono ?_
                        rintro e w10 ⟨rfl, hb10⟩
                        have hbx := HFE.out.b.call hb10
                        have hbe := HFE.out.e.call hb10
                        have HB10 := Lib.hid hbx
                        have HE10 := Lib.hid hbe
                        have HC10 := Lib.hid (HFE.out.ch.trans (hb10.mono (by omega)))
                        have HO10 := Lib.hid (own_ch HO9.out (Ch.of_below (S := fun _ => False) hb10) (fun k hk => ⟨(own_row HO9.out hk).2, fun h => h⟩))
                        have hs10 := hb10.size
                        clear c0 c1 c2 c3 c4 c5 c6 c7 f0 f1 f2 f3 f4 f5 f6 f7 e0 g0 hb10
                        obtain ⟨c0, c1, c2, c3, c4, c5, c6, c7, f0, f1, f2, f3, f4, f5, f6, f7⟩ := hbx.facts8
                        obtain ⟨e0, g0⟩ := hbe.facts1
                        clear hbx hbe
                        by_cases hz : re = 0
                        · have hne : (re != 0) = false := by simp [hz]
                          have HGE := HG3.out
                          rw [if_pos hz, HBB.out] at HGE
                          have HE := Lib.hid HGE
                          clear hz HGE
                          go_wp2
                          refine of_door w _ s ⟨k, v, q, cl, t, d, x, l⟩ A c 0 _ rfl rfl ?_ ?_ ?_ ?_ HE.out
                          · have hh := (((((((((HB10.out.set 0 (.int .i64 k)).set 1 (.int .i64 v)).set 2 (.int .i64 q)).set 3 (.int .i64 cl)).set 4 (.int .i64 t)).set 5 (.string d)).set 6 (.string x)).set 7 (.slice A l.length c)).other (a := ⟨w.heap.size + 1, 0, none⟩) (by simp) (.int .i64 0))
                            simpa using hh
                          · have hh := (((((((((HE10.out.other (a := ⟨w.heap.size, 0, none⟩) (by simp) (.int .i64 k)).other (a := ⟨w.heap.size, 1, none⟩) (by simp) (.int .i64 v)).other (a := ⟨w.heap.size, 2, none⟩) (by simp) (.int .i64 q)).other (a := ⟨w.heap.size, 3, none⟩) (by simp) (.int .i64 cl)).other (a := ⟨w.heap.size, 4, none⟩) (by simp) (.int .i64 t)).other (a := ⟨w.heap.size, 5, none⟩) (by simp) (.string d)).other (a := ⟨w.heap.size, 6, none⟩) (by simp) (.string x)).other (a := ⟨w.heap.size, 7, none⟩) (by simp) (.slice A l.length c)).set 0 (.int .i64 0))
                            simpa using hh
                          · exact (((((((((HC10.out.setCell (p := ⟨w.heap.size, 0, none⟩) (by simp) (.int .i64 k)).setCell (p := ⟨w.heap.size, 1, none⟩) (by simp) (.int .i64 v)).setCell (p := ⟨w.heap.size, 2, none⟩) (by simp) (.int .i64 q)).setCell (p := ⟨w.heap.size, 3, none⟩) (by simp) (.int .i64 cl)).setCell (p := ⟨w.heap.size, 4, none⟩) (by simp) (.int .i64 t)).setCell (p := ⟨w.heap.size, 5, none⟩) (by simp) (.string d)).setCell (p := ⟨w.heap.size, 6, none⟩) (by simp) (.string x)).setCell (p := ⟨w.heap.size, 7, none⟩) (by simp) (.slice A l.length c)).setCell (p := ⟨w.heap.size + 1, 0, none⟩) (by simp) (.int .i64 0))
                          · exact own_base (ownsRow_setCell_below (ownsRow_setCell_below (ownsRow_setCell_below (ownsRow_setCell_below (ownsRow_setCell_below (ownsRow_setCell_below (ownsRow_setCell_below (ownsRow_setCell_below (ownsRow_setCell_below HO10.out (a := ⟨w.heap.size, 0, none⟩) (by simp) (.int .i64 k)) (a := ⟨w.heap.size, 1, none⟩) (by simp) (.int .i64 v)) (a := ⟨w.heap.size, 2, none⟩) (by simp) (.int .i64 q)) (a := ⟨w.heap.size, 3, none⟩) (by simp) (.int .i64 cl)) (a := ⟨w.heap.size, 4, none⟩) (by simp) (.int .i64 t)) (a := ⟨w.heap.size, 5, none⟩) (by simp) (.string d)) (a := ⟨w.heap.size, 6, none⟩) (by simp) (.string x)) (a := ⟨w.heap.size, 7, none⟩) (by simp) (.slice A l.length c)) (a := ⟨w.heap.size + 1, 0, none⟩) (by simp) (.int .i64 0)) (by omega)
                        · have hne : (re != 0) = true := by simp [hz]
                          have HGE := HG3.out
                          rw [if_neg hz] at HGE
                          have HE := Lib.hid HGE
                          clear hz HGE
                          go_wp2
                          refine of_door w _ s zeroBd none 0 re _ rfl rfl ?_ ?_ ?_ (World.ownsRow_nil _ _ _ _) HE.out
                          · have hh := (((((((((HB10.out.set 0 (.int .i64 0)).set 1 (.int .i64 0)).set 2 (.int .i64 0)).set 3 (.int .i64 0)).set 4 (.int .i64 0)).set 5 (.string ⟨#[]⟩)).set 6 (.string ⟨#[]⟩)).set 7 (.slice none 0 0)).other (a := ⟨w.heap.size + 1, 0, none⟩) (by simp) (.int .i64 re))
                            simp at hh
                            exact hh
                          · have hh := (((((((((HE10.out.other (a := ⟨w.heap.size, 0, none⟩) (by simp) (.int .i64 0)).other (a := ⟨w.heap.size, 1, none⟩) (by simp) (.int .i64 0)).other (a := ⟨w.heap.size, 2, none⟩) (by simp) (.int .i64 0)).other (a := ⟨w.heap.size, 3, none⟩) (by simp) (.int .i64 0)).other (a := ⟨w.heap.size, 4, none⟩) (by simp) (.int .i64 0)).other (a := ⟨w.heap.size, 5, none⟩) (by simp) (.string ⟨#[]⟩)).other (a := ⟨w.heap.size, 6, none⟩) (by simp) (.string ⟨#[]⟩)).other (a := ⟨w.heap.size, 7, none⟩) (by simp) (.slice none 0 0)).set 0 (.int .i64 re))
                            simpa using hh
                          · exact (((((((((HC10.out.setCell (p := ⟨w.heap.size, 0, none⟩) (by simp) (.int .i64 0)).setCell (p := ⟨w.heap.size, 1, none⟩) (by simp) (.int .i64 0)).setCell (p := ⟨w.heap.size, 2, none⟩) (by simp) (.int .i64 0)).setCell (p := ⟨w.heap.size, 3, none⟩) (by simp) (.int .i64 0)).setCell (p := ⟨w.heap.size, 4, none⟩) (by simp) (.int .i64 0)).setCell (p := ⟨w.heap.size, 5, none⟩) (by simp) (.string ⟨#[]⟩)).setCell (p := ⟨w.heap.size, 6, none⟩) (by simp) (.string ⟨#[]⟩)).setCell (p := ⟨w.heap.size, 7, none⟩) (by simp) (.slice none 0 0)).setCell (p := ⟨w.heap.size + 1, 0, none⟩) (by simp) (.int .i64 re))

theorem of_calls (s : ByteArray) (w : World) : Calls Try.prog 115 #[.string s] w (OfPost s w) := by
  by_cases h : 1048576 < s.size
  · exact of_long s w h
  · exact of_short s w h
end Go.Proofs.Ytfgpchffkpomoaa
