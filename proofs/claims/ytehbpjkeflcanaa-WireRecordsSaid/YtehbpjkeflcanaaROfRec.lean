/- The document's own reading of bytes as records. -/
import Derived.Test.YtehbpjkeflcanaaPlainRec
import Derived.Test.YtehbpjkeflcanaaFace
namespace Go.Proofs.Ytehbpjkeflcanaa
set_option linter.unusedSimpArgs false
set_option linter.unusedVariables false
open Go.RowKit

def OfRecsPost (r : List Rc × Int) (w0 : World) (e : Ending) (w' : World) : Prop := ∃ A c, e = .returned (.tuple #[.slice A r.1.length c, .int .i64 r.2]) ∧ Below w0.heap.size w0 w' ∧ w'.ownsRow w0.heap.size 114 2 (.slice A r.1.length c) r.1.length (r.1.flatMap Rc.cells)
theorem info_rc : (Try.prog.info? 114).map (fun i => (i.zero, i.size, i.bytes)) = some (some (.agg #[.string ⟨#[]⟩, .string ⟨#[]⟩]), 2, 32) := by kernel_rfl
theorem Rc.one (m : Rc) : ∀ u ∈ m.cells, u.oneCell' = true := by
  intro u hu
  simp [Rc.cells] at hu
  rcases hu with rfl | rfl <;> rfl
theorem riseN_code {l : List Rc} : ∀ n, riseN l n = 0 ∨ riseN l n = 14 ∨ riseN l n = 15
  | 0 => .inl rfl
  | n + 1 => by
    unfold riseN
    split
    · unfold codeAt
      split
      · split
        · exact .inr (.inl rfl)
        · split
          · split
            · exact .inr (.inr rfl)
            · exact .inl rfl
          · exact .inl rfl
      · exact .inl rfl
    · exact riseN_code n
theorem rise_code (l : List Rc) : riseE l = 0 ∨ riseE l = 2 ∨ riseE l = 14 ∨ riseE l = 15 := by
  unfold riseE
  split
  · exact .inr (.inl rfl)
  · rcases riseN_code (l := l) l.length with h | h | h
    · exact .inl h
    · exact .inr (.inr (.inl h))
    · exact .inr (.inr (.inr h))

set_option maxHeartbeats 1000000 in
set_option maxRecDepth 100000 in
theorem rofRecs_calls (s : ByteArray) (w : World) (hs : s.size ≤ maxLen) : Calls Try.prog 52 #[.string s] w (OfRecsPost (ofRecsE s) w) := by
  have HB := Lib.hid (Below.refl w.heap.size w)
  by_cases h : 1048576 < s.size
  · unfold maxLen at hs
    have HE := Lib.hid (show ofRecsE s = ([], 4) by unfold ofRecsE; rw [if_pos h])
    have hd : decide ((1048576 : Int) < (s.size : Int)) = true := by simp; omega
    go_enter Try.func52, Try.ntmps52
    go_wp2
    go_ret2
    unfold OfRecsPost
    rw [HE.out]
    exact ⟨none, 0, rfl, HB.out, World.ownsRow_nil _ _ _ _⟩
  · have hd : decide ((1048576 : Int) < (s.size : Int)) = false := by simp; omega
    have HG := Lib.hid (ofRecs_near h)
    have HI := Lib.hid (fun w => rInt_calls s 0 w hs (Nat.zero_le _))
    unfold GetIntPost at HI
    rw [getInt_at (Nat.zero_le _)] at HI
    have HS := Lib.hid hs
    cases hx : num s 0 with
    | error c =>
      rw [hx] at HI
      simp only at HI
      have hd3 : ((c : Int) == 0) = false := by rcases num_err hx with rfl | rfl <;> rfl
      have HE := Lib.hid (show ofRecsE s = ([], (c : Int)) from ofRecs_err h (by unfold seqAt count; rw [hx]))
      clear hx hs
      go_enter Try.func52, Try.ntmps52
      go_wp2_with (first | (go_at_call 28; refine (HI.out _).mono ?_; rintro e wn ⟨rfl, hbn⟩; have HBn := Lib.hid (HB.out.trans (hbn.mono HB.out.size)); clear HB hbn; have HB := HBn; clear HBn))
      go_ret2
      unfold OfRecsPost
      rw [HE.out]
      exact ⟨none, 0, rfl, HB.out, World.ownsRow_nil _ _ _ _⟩
    | ok r =>
      obtain ⟨n, q⟩ := r
      obtain ⟨b1, b2, b3⟩ := num_bd hx
      rw [hx] at HI
      simp only at HI
      by_cases hl : 4096 < n
      · have hd4 : decide ((4096 : Int) < (n : Int)) = true := by simp; omega
        have HE := Lib.hid (show ofRecsE s = ([], 2) by have := ofRecs_err (c := 2) h (by unfold seqAt count; rw [hx]; simp only; rw [if_pos hl]); exact this)
        clear hx hs
        go_enter Try.func52, Try.ntmps52
        go_wp2_with (first | (go_at_call 28; refine (HI.out _).mono ?_; rintro e wn ⟨rfl, hbn⟩; have HBn := Lib.hid (HB.out.trans (hbn.mono HB.out.size)); clear HB hbn; have HB := HBn; clear HBn))
        go_ret2
        unfold OfRecsPost
        rw [HE.out]
        exact ⟨none, 0, rfl, HB.out, World.ownsRow_nil _ _ _ _⟩
      · have hd4 : decide ((4096 : Int) < (n : Int)) = false := by simp; omega
        have HT := Lib.hid (show seqAt s (rec_ s) 4096 0 = seqN (rec_ s) n q [] by unfold seqAt count; rw [hx]; simp only; rw [if_neg hl])
        have HNB := Lib.hid h
        have hn : n ≤ 4096 := by omega
        clear hx hs h
        go_enter Try.func52, Try.ntmps52
        go_wp2_with (first | (go_at_call 28; refine (HI.out _).mono ?_; rintro e wn ⟨rfl, hbn⟩; have HBn := Lib.hid (HB.out.trans (hbn.mono HB.out.size)); clear HB hbn; have HB := HBn; clear HBn))
        go_loopg [5, 7, 8] n (fun k v5 v7 v8 wr => ∃ (q' : Nat) (A : Option Addr) (c : Nat) (l : List Rc), v5 = .int .i64 q' ∧ v7 = .slice A l.length c ∧ v8 = .int .i64 l.length ∧ q' ≤ s.size ∧ l.length ≤ n ∧ Hid (k + l.length = n ∧ Below w.heap.size w wr ∧ wr.ownsRow w.heap.size 114 2 (.slice A l.length c) l.length (l.flatMap Rc.cells) ∧ seqN (rec_ s) k q' l = seqN (rec_ s) n q []))
        case atStart => exact ⟨q, none, 0, [], rfl, rfl, rfl, b2, by simp, by simp, HB.out, ⟨rfl, .inl ⟨rfl, rfl⟩⟩, rfl⟩
        case round =>
          clear HB
          obtain ⟨q', A, c, l, rfl, rfl, rfl, hq, hln, HH⟩ := hrel
          obtain ⟨hk, hb, ho, hx⟩ := HH.out
          have HK := Lib.hid hk
          have HB := Lib.hid hb
          have HO := Lib.hid ho
          clear HH hk hb ho
          by_cases hlt : l.length < n
          · have hd2 : decide ((l.length : Int) < (n : Int)) = true := by simp; omega
            obtain ⟨k1, rfl⟩ : ∃ k1, gk = k1 + 1 := ⟨gk - 1, by have := HK.out; omega⟩
            have HT1 := Lib.hid (fun w => rText_calls s q' w HS.out hq)
            unfold GetTextPost at HT1
            rw [getText_at hq] at HT1
            cases hz : text s q' with
            | error cc =>
              rw [hz] at HT1
              simp only at HT1
              have hd3 : ((cc : Int) == 0) = false := by rcases text_err hz with rfl | rfl | rfl <;> rfl
              rw [seqN_no (rec_no1 hz)] at hx
              have HE := Lib.hid (show ofRecsE s = ([], (cc : Int)) from ofRecs_err HNB.out (by rw [HT.out, ← hx]))
              clear hx hz
              go_wp2_with (first | (go_at_call 32; refine (HT1.out _).mono ?_; rintro e wn ⟨rfl, hbn⟩; have HBn := Lib.hid (HB.out.trans (hbn.mono HB.out.size)); clear HB hbn; have HB := HBn; clear HBn))
              go_ret2
              unfold OfRecsPost
              rw [HE.out]
              exact ⟨none, 0, rfl, HB.out, World.ownsRow_nil _ _ _ _⟩
            | ok r =>
              obtain ⟨key, q2⟩ := r
              obtain ⟨_, g2, _, _⟩ := text_bd hz
              rw [hz] at HT1
              simp only at HT1
              have HT2 := Lib.hid (fun w => rText_calls s q2 w HS.out g2)
              unfold GetTextPost at HT2
              rw [getText_at g2] at HT2
              cases hy : text s q2 with
              | error cc =>
                rw [hy] at HT2
                simp only at HT2
                have hd3 : ((cc : Int) == 0) = false := by rcases text_err hy with rfl | rfl | rfl <;> rfl
                rw [seqN_no (rec_no2 hz hy)] at hx
                have HE := Lib.hid (show ofRecsE s = ([], (cc : Int)) from ofRecs_err HNB.out (by rw [HT.out, ← hx]))
                clear hx hz hy
                go_wp2_with fail
                refine (HT1.out _).mono ?_
                rintro e w1 ⟨rfl, hb1⟩
                have HB1 := Lib.hid (HB.out.trans (hb1.mono HB.out.size))
                clear hb1
                go_wp2_with fail
                refine (HT2.out _).mono ?_
                rintro e w2 ⟨rfl, hb2⟩
                have HB2 := Lib.hid (HB1.out.trans (hb2.mono HB1.out.size))
                clear hb2
                go_wp2
                go_ret2
                unfold OfRecsPost
                rw [HE.out]
                exact ⟨none, 0, rfl, HB2.out, World.ownsRow_nil _ _ _ _⟩
              | ok r =>
                obtain ⟨val, q3⟩ := r
                obtain ⟨_, g3, _, _⟩ := text_bd hy
                rw [hy] at HT2
                simp only at HT2
                rw [seqN_ok (rec_yes hz hy)] at hx
                have HX := Lib.hid hx
                clear hx hz hy
                go_wp2_with fail
                refine (HT1.out _).mono ?_
                rintro e w1 ⟨rfl, hb1⟩
                have HB1 := Lib.hid (HB.out.trans (hb1.mono HB.out.size))
                have HO1 := Lib.hid (own_ch HO.out (Ch.of_below (S := fun _ => False) hb1) (fun k hk => ⟨(own_row HO.out hk).2, fun h => h⟩))
                clear hb1
                go_wp2_with fail
                refine (HT2.out _).mono ?_
                rintro e w2 ⟨rfl, hb2⟩
                have HB2 := Lib.hid (HB1.out.trans (hb2.mono HB1.out.size))
                have HO2 := Lib.hid (own_ch HO1.out (Ch.of_below (S := fun _ => False) hb2) (fun k hk => ⟨(own_row HO1.out hk).2, fun h => h⟩))
                clear hb2
                have hrow : ∀ k, Row A k → w.heap.size ≤ k ∧ k < w2.heap.size := fun k hk => own_row HO2.out hk
                have HB3 := Lib.hid (HB2.out.alloc (by have := HB2.out.size; omega) (.cells #[.string key, .string val] 114))
                go_wp2_with (at_builtin; refine app_row rfl (.tmp 54) (.tmp 58) 68 rfl w.heap.size 114 _ 2 32 info_rc Try.underlying68 rfl (by decide) A c l.length (l.flatMap Rc.cells) rfl (HO2.out.alloc _) ⟨w2.heap.size, 0, none⟩ 1 1 (Rc.cells ⟨key, val⟩) rfl rfl (news_box (Box.new w2 #[.string key, .string val] 114)) (Rc.one _) ?hb1 ?hb2 ?hb3 ?_; (case hb1 => omega); (case hb2 => omega); (case hb3 => (have := HB2.out.size; simp; omega)); intro A' c' w3 ho3 hc3 hA3; have HB4 := Lib.hid (below_app0 HB3.out HB3.out.size hc3 (fun k hk => (hrow k hk).1)); have HO3 := Lib.hid ho3; clear ho3 hc3 hA3)
                go_roundg k1
                case measure => omega
                case rel =>
                  refine ⟨q3, A', c', l ++ [⟨key, val⟩], rfl, by simp, by simp, g3, by simp; omega, by have := HK.out; simp; omega, HB4.out, ?_, HX.out⟩
                  have := HO3.out
                  simpa [Rc.cells] using this
          · have hd2 : decide ((l.length : Int) < (n : Int)) = false := by simp; omega
            obtain rfl : gk = 0 := by have := HK.out; omega
            rw [seqN] at hx
            have hge := HG.out
            rw [HT.out, ← hx] at hge
            simp only at hge
            clear hx
            by_cases hend : q' < s.size
            · have hd5 : decide ((q' : Int) < (s.size : Int)) = true := by simp; omega
              rw [if_pos hend] at hge
              have HE := Lib.hid hge
              clear hge
              go_wp2
              go_ret2
              unfold OfRecsPost
              rw [HE.out]
              exact ⟨none, 0, rfl, HB.out, World.ownsRow_nil _ _ _ _⟩
            · have hd5 : decide ((q' : Int) < (s.size : Int)) = false := by simp; omega
              rw [if_neg hend] at hge
              have HR := Lib.hid (rrise_calls A c l wr (Sl.of_own HO.out))
              by_cases hr : riseE l = 0
              · rw [if_pos hr] at hge
                rw [hr] at HR
                have HE := Lib.hid hge
                clear hge hr
                go_wp2_with fail
                refine HR.out.mono ?_
                rintro e w1 ⟨rfl, hb1⟩
                have HB1 := Lib.hid (HB.out.trans (hb1.mono HB.out.size))
                have HO1 := Lib.hid (own_ch HO.out (Ch.of_below (S := fun _ => False) hb1) (fun k hk => ⟨(own_row HO.out hk).2, fun h => h⟩))
                clear hb1
                go_wp2
                go_ret2
                unfold OfRecsPost
                rw [HE.out]
                exact ⟨A, c, rfl, HB1.out, HO1.out⟩
              · rw [if_neg hr] at hge
                obtain ⟨x, hx⟩ : ∃ x, x = riseE l := ⟨_, rfl⟩
                rw [← hx] at hge HR hr
                have hd6 : (x == 0) = false := by simpa using hr
                have HE := Lib.hid hge
                clear hge hr hx
                go_wp2_with fail
                refine HR.out.mono ?_
                rintro e w1 ⟨rfl, hb1⟩
                have HB1 := Lib.hid (HB.out.trans (hb1.mono HB.out.size))
                clear hb1
                go_wp2
                go_ret2
                unfold OfRecsPost
                rw [HE.out]
                exact ⟨none, 0, rfl, HB1.out, World.ownsRow_nil _ _ _ _⟩
end Go.Proofs.Ytehbpjkeflcanaa
