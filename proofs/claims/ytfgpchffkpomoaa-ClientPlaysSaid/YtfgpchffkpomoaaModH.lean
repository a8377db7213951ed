/- The document's client hears a reply: the walk. -/
import Derived.Test.YtfgpchffkpomoaaMod
namespace Go.Proofs.Ytfgpchffkpomoaa
set_option linter.unusedSimpArgs false
set_option linter.unusedVariables false
open Go.RowKit

def MHPost (w0 : World) (q J : Nat) (HA MA : Option Addr) (r : Bool × Cl) (e : Ending) (w' : World) : Prop :=
  ∃ v HA' hc' MA' mc', e = .returned (.bool v) ∧ v = r.1 ∧ MS w' q J r.2 HA' hc' MA' mc' ∧ Ch w0.heap.size (fun k => k = q ∨ Row HA k ∨ Row MA k) w0 w' ∧ (∀ k, Row HA' k → Row HA k ∨ w0.heap.size ≤ k) ∧ ∀ k, Row MA' k → Row MA k ∨ w0.heap.size ≤ k
theorem mh_keep {w : World} {q J : Nat} {y : Cl} {HA MA : Option Addr} {hc mc : Nat} (h : MS w q J y HA hc MA mc) : MHPost w q J HA MA (false, y) (.returned (.bool false)) w :=
  ⟨false, HA, hc, MA, mc, rfl, rfl, h, Ch.refl _ _ _, fun _ h => .inl h, fun _ h => .inl h⟩
theorem alike_snoc' (t : ByteArray) (l : List Td) (x : Td) : alike t (l ++ [x]) = alike t l + if x.2 = t then 1 else 0 := by
  unfold alike
  rw [List.filter_append]
  by_cases h : x.2 = t <;> simp [h]
theorem td_get (l : List Td) (k : Nat) (h : k < l.length) : (l.flatMap tdCells)[k * 2]? = some (.int .i64 l[k].1) ∧ (l.flatMap tdCells)[k * 2 + 1]? = some (.string l[k].2) :=
  ⟨flat_get tdCells 2 tdCells_len l k 0 h (by decide), flat_get tdCells 2 tdCells_len l k 1 h (by decide)⟩

set_option maxHeartbeats 8000000 in
set_option maxRecDepth 100000 in
theorem mhears_calls (q J : Nat) (y : Cl) (HA : Option Addr) (hc : Nat) (MA : Option Addr) (mc : Nat) (from_ stamp : Int) (text : ByteArray) (f : Nat) (w : World) (h : MS w q J y HA hc MA mc) (hf : y.F = (f : Int)) (hf4 : f ≤ 4) (h0 : 0 ≤ from_) (hl : y.told.length ≤ 1000) (hal : y.ans.length ≤ 100000) :
    Calls Try.prog 136 #[.pointer (some ⟨q, 0, none⟩), .int .i64 from_, .int .i64 stamp, .string text] w (MHPost w q J HA MA (hears y from_ y.id stamp text)) := by
  have HM := Lib.hid h
  have hw1 : IntKind.i64.wrap (3 * (f : Int)) = 3 * (f : Int) := wrap_near _ (by omega) (by omega)
  have hd0 : decide (from_ < 0) = false := by simp; omega
  have k0 : w.cell? ⟨q, 0, none⟩ = some (.int .i64 (f : Int)) := by rw [← hf]; exact h.box.cell 0
  have k2 : w.cell? ⟨q, 2, none⟩ = some (.int .i64 y.stamp) := h.box.cell 2
  have k4 : w.cell? ⟨q, 4, none⟩ = some (.bool y.waits) := h.box.cell 4
  have k6 : w.cell? ⟨q, 6, none⟩ = some (.slice HA y.told.length hc) := h.box.cell 6
  have k7 : w.cell? ⟨q, 7, none⟩ = some (.slice MA y.ans.length mc) := h.box.cell 7
  have HE := Lib.hid (show hears y from_ y.id stamp text = if y.waits = false ∨ 3 * y.F < from_ then (false, y) else if stamp ≠ y.stamp then (false, y) else if y.told.any (fun x => decide (x.1 = from_)) = true then (false, y) else if (f : Int) < (alike text y.told + 1 : Nat) then (true, { y with told := y.told ++ [(from_, text)], waits := false, ans := y.ans ++ [⟨y.stamp, text⟩] }) else (true, { y with told := y.told ++ [(from_, text)] }) by
    unfold hears hearE
    simp only [cliB, hf]
    by_cases hs : stamp = y.stamp
    · simp [hs, alike_snoc']
    · simp [hs])
  clear h
  by_cases hbad : y.waits = false ∨ stamp ≠ y.stamp ∨ 3 * (f : Int) < from_
  · have HE1 := Lib.hid (show hears y from_ y.id stamp text = (false, y) by
      rw [HE.out, hf]
      rcases hbad with h | h | h
      · rw [if_pos (.inl h)]
      · by_cases h2 : y.waits = false ∨ 3 * (f : Int) < from_
        · rw [if_pos h2]
        · rw [if_neg h2, if_pos h]
      · rw [if_pos (.inr h)])
    rw [HE1.out]
    have hw3 : y.waits = false ∨ (y.waits = true ∧ stamp ≠ y.stamp) ∨ (y.waits = true ∧ stamp = y.stamp ∧ 3 * (f : Int) < from_) := by
      cases hw : y.waits with
      | false => exact .inl rfl
      | true =>
        by_cases hs : stamp = y.stamp
        · refine .inr (.inr ⟨rfl, hs, ?_⟩)
          rcases hbad with h | h | h
          · rw [hw] at h; cases h
          · exact absurd hs h
          · exact h
        · exact .inr (.inl ⟨rfl, hs⟩)
    clear hbad HE
    rcases hw3 with hw | ⟨hw, hs⟩ | ⟨hw, rfl, hs⟩
    · rw [hw] at k4
      clear hw
      go_enter Try.func136, Try.ntmps136
      go_wp2
      go_ret
      exact mh_keep HM.out
    · rw [hw] at k4
      have hne := bne_iff_ne.2 hs
      clear hw hs
      go_enter Try.func136, Try.ntmps136
      go_wp2
      go_ret
      exact mh_keep HM.out
    · rw [hw] at k4
      have hd3 : decide (3 * (f : Int) < from_) = true := by simpa using hs
      clear hw hs
      go_enter Try.func136, Try.ntmps136
      go_wp2
      go_ret
      exact mh_keep HM.out
  · have hw : y.waits = true := by cases h : y.waits with | true => rfl | false => exact absurd (.inl h) hbad
    have hs : stamp = y.stamp := Classical.byContradiction fun e => hbad (.inr (.inl e))
    have hd3 : decide (3 * (f : Int) < from_) = false := by
      have : ¬ 3 * (f : Int) < from_ := fun e => hbad (.inr (.inr e))
      simpa using this
    have HE1 := Lib.hid (show hears y from_ y.id stamp text = if y.told.any (fun x => decide (x.1 = from_)) = true then (false, y) else if (f : Int) < (alike text y.told + 1 : Nat) then (true, { y with told := y.told ++ [(from_, text)], waits := false, ans := y.ans ++ [⟨y.stamp, text⟩] }) else (true, { y with told := y.told ++ [(from_, text)] }) by
      rw [HE.out, hf, if_neg (fun e => hbad (e.elim .inl (fun e => .inr (.inr e)))), if_neg (by simpa using hs)])
    subst hs
    rw [hw] at k4
    obtain ⟨R, hR⟩ : ∃ R, R = hears y from_ y.id y.stamp text := ⟨_, rfl⟩
    rw [← hR] at HE1 ⊢
    clear hbad HE hw hR
    go_enter Try.func136, Try.ntmps136
    go_wp2_with fail
    go_loopg [9, 10] y.told.length (fun gk v9 v10 wr => ∃ (i : Nat), v9 = .int .i64 ((alike text (y.told.take i) + 1 : Nat) : Int) ∧ v10 = .int .i64 i ∧ i ≤ y.told.length ∧ Hid (gk + i = y.told.length ∧ wr = w ∧ ∀ td ∈ y.told.take i, td.1 ≠ from_))
    case atStart => exact ⟨0, by simp [alike], rfl, by omega, by omega, rfl, by simp⟩
    case round =>
      obtain ⟨i, rfl, rfl, hi, HH⟩ := hrel
      obtain ⟨hg, rfl, hno⟩ := HH.out
      have HG := Lib.hid hg
      have HNO := Lib.hid hno
      have hale : alike text (y.told.take i) ≤ i := Nat.le_trans (List.length_filter_le _ _) (by simp; omega)
      clear HH hg hno
      by_cases hlt : i < y.told.length
      · have hd : decide ((i : Int) < (y.told.length : Int)) = true := by simp; omega
        obtain ⟨g, rfl⟩ := own_some HM.out.heard (by omega)
        obtain ⟨t0, t1⟩ := td_get y.told i hlt
        have c0 : wr.cell? ⟨g, i * 2, none⟩ = some (.int .i64 y.told[i].1) := by rw [HM.out.heard.cellAt (i * 2) (by omega), t0]
        have c1 : wr.cell? ⟨g, i * 2 + 1, none⟩ = some (.string y.told[i].2) := by rw [HM.out.heard.cellAt (i * 2 + 1) (by omega), t1]
        obtain ⟨td, htd⟩ : ∃ td, td = y.told[i] := ⟨_, rfl⟩
        have HTD := Lib.hid htd
        rw [← htd] at c0 c1
        have htk : y.told.take (i + 1) = y.told.take i ++ [td] := by rw [htd, List.take_append_getElem hlt]
        have HTK := Lib.hid htk
        clear t0 t1 htd htk
        by_cases he : td.1 = from_
        · have hde : (td.1 == from_) = true := by rw [he]; simp
          have hany : y.told.any (fun x => decide (x.1 = from_)) = true := List.any_eq_true.2 ⟨td, by rw [HTD.out]; exact List.getElem_mem hlt, by simpa using he⟩
          have HANY := Lib.hid hany
          clear he hany
          go_wp2
          go_ret
          rw [HE1.out, if_pos HANY.out]
          exact mh_keep HM.out
        · have hde : (td.1 == from_) = false := by rw [beq_eq_false_iff_ne]; exact he
          have HNE := Lib.hid he
          have hbq := beq_list td.2 text
          clear he
          by_cases htt : td.2 = text
          · rw [decide_eq_true htt] at hbq
            have HTT := Lib.hid htt
            have hwr : IntKind.i64.wrap (((alike text (y.told.take i) + 1 : Nat) : Int) + 1) = ((alike text (y.told.take i) + 1 : Nat) : Int) + 1 := wrap_near _ (by omega) (by omega)
            clear htt
            go_wp2
            go_roundg (gk - 1)
            case measure => have := HG.out; omega
            case rel => exact ⟨i + 1, by rw [HTK.out, alike_snoc', if_pos HTT.out]; simp, by go_num, by omega, by have := HG.out; omega, rfl, fun x hx => by
              rw [HTK.out] at hx
              rcases List.mem_append.1 hx with h1 | h1
              · exact HNO.out x h1
              · obtain rfl := List.mem_singleton.1 h1; exact HNE.out⟩
          · rw [decide_eq_false htt] at hbq
            have HTT := Lib.hid htt
            clear htt
            go_wp2
            go_roundg (gk - 1)
            case measure => have := HG.out; omega
            case rel => exact ⟨i + 1, by rw [HTK.out, alike_snoc', if_neg HTT.out], by go_num, by omega, by have := HG.out; omega, rfl, fun x hx => by
              rw [HTK.out] at hx
              rcases List.mem_append.1 hx with h1 | h1
              · exact HNO.out x h1
              · obtain rfl := List.mem_singleton.1 h1; exact HNE.out⟩
      · have hd : decide ((i : Int) < (y.told.length : Int)) = false := by simp; omega
        obtain rfl : i = y.told.length := by omega
        rw [List.take_of_length_le (Nat.le_refl _)] at hale HNO ⊢
        have hany : ¬ y.told.any (fun x => decide (x.1 = from_)) = true := fun e => by
          obtain ⟨td, htd, h1⟩ := List.any_eq_true.1 e
          exact HNO.out td htd (by simpa using h1)
        have HE2 := Lib.hid (HE1.out.trans (if_neg hany))
        obtain ⟨nn, hnn⟩ : ∃ nn, nn = alike text y.told + 1 := ⟨_, rfl⟩
        rw [← hnn] at HE2 ⊢
        have hnl : nn ≤ 1001 := by omega
        have HEN := Lib.hid (fun w => enough_calls nn f w (by omega) hf4)
        clear hany HNO hale hnn HE1
        have hJ := HM.out.lt
        have hqR : ¬ Row HA q := fun e => by have := (own_row HM.out.heard e).1; omega
        go_wp2_with (at_builtin; refine app_row rfl (.tmp 72) (.tmp 76) 121 rfl J 247 _ 2 24 info_td Try.underlying121 rfl (by decide) HA hc y.told.length (y.told.flatMap tdCells) rfl (HM.out.heard.alloc _) _ 1 1 (tdCells (from_, text)) rfl rfl (news_box (Box.new _ #[.int .i64 (from_, text).1, .string (from_, text).2] 247)) (td_one (from_, text)) ?hb1 ?hb2 ?hb3 ?_; (case hb1 => omega); (case hb2 => omega); (case hb3 => simp; omega); intro A' c' w8 ho8 hc8 hA8; have HO8 := Lib.hid ho8; have HC8 := Lib.hid hc8; have HA8 := Lib.hid hA8; have hx8 := Box.ch (HM.out.box.alloc _) hc8 (by have := HM.out.ql; simp; omega) hqR; have g6 := (show w8.cell? ⟨q, 6, none⟩ = some (.slice HA y.told.length hc) from hx8.cell 6); have f6 := hx8.free 6; have g0 := (show w8.cell? ⟨q, 0, none⟩ = some (.int .i64 (f : Int)) from by rw [← hf]; exact hx8.cell 0); have g4 := (show w8.cell? ⟨q, 4, none⟩ = some (.bool y.waits) from hx8.cell 4); have f4 := hx8.free 4; have g7 := (show w8.cell? ⟨q, 7, none⟩ = some (.slice MA y.ans.length mc) from hx8.cell 7); have f7 := hx8.free 7; clear ho8 hc8 hA8 hx8)
        have HM1 := Lib.hid (HM.out.hear (a := (from_, text)) HO8.out HC8.out HA8.out)
        have hz8 := HC8.out.size
        have hqM : ¬ Row MA q := fun e => by have := (own_row HM.out.ans e).1; omega
        have hch1 := ((((Ch.refl wr.heap.size (fun k => k = q ∨ Row HA k ∨ Row MA k) wr).alloc (Nat.le_refl _) (.cells #[.int .i64 (from_, text).1, .string (from_, text).2] 247)).step HC8.out (by simp) (fun _ _ e => .inr (.inl e))).setCell (p := ⟨q, 6, none⟩) (.inr (.inl rfl)) (.slice A' (y.told.length + 1) c'))
        have HCH1 := Lib.hid hch1
        have HRW := Lib.hid (show ∀ k, Row A' k → Row HA k ∨ wr.heap.size ≤ k from fun k hk => by
          rcases HA8.out with e | e
          · rw [e] at hk; exact .inl hk
          · rw [e] at hk
            have h1 : wr.heap.size + 1 = k := by simpa [Row] using hk
            exact .inr (by omega))
        clear hch1
        refine (HEN.out _).mono ?_
        rintro e w9 ⟨rfl, hw9⟩
        obtain rfl := hw9.symm
        by_cases hq : f < nn
        · rw [decide_eq_true hq]
          have HE3 := Lib.hid (HE2.out.trans (if_pos (by omega)))
          clear hq HE2
          have HM2 := Lib.hid (HM1.out.setX 4 (.bool false) { y with told := y.told ++ [(from_, text)], waits := false } rfl rfl rfl)
          have hqM2 : ¬ Row MA q := hqM
          have HBN := Lib.hid (show Box (((w8.setCell ⟨q, 6, none⟩ (.slice A' (y.told.length + 1) c')).setCell ⟨q, 4, none⟩ (.bool false)).alloc (.cells #[.int .i64 y.stamp, .string text] 118)) w8.heap.size #[.int .i64 y.stamp, .string text] 118 by
            have h := Box.new ((w8.setCell ⟨q, 6, none⟩ (.slice A' (y.told.length + 1) c')).setCell ⟨q, 4, none⟩ (.bool false)) #[.int .i64 y.stamp, .string text] 118
            have hs : ((w8.setCell ⟨q, 6, none⟩ (.slice A' (y.told.length + 1) c')).setCell ⟨q, 4, none⟩ (.bool false)).heap.size = w8.heap.size := by simp [World.setCell]
            rw [hs] at h
            exact h)
          have hz8s : ((w8.setCell ⟨q, 6, none⟩ (.slice A' (y.told.length + 1) c')).setCell ⟨q, 4, none⟩ (.bool false)).heap.size = w8.heap.size := by simp [World.setCell]
          have HZ8 := Lib.hid hz8s
          clear hz8s
          have HCH2 := Lib.hid (HCH1.out.setCell (p := ⟨q, 4, none⟩) (.inr (.inl rfl)) (.bool false))
          have hz2 := HCH2.out.size
          go_wp2_with (at_builtin; (refine app_row rfl (.tmp 93) (.tmp 97) 115 rfl J 118 _ 2 24 info_an Try.underlying115 rfl (by decide) MA mc y.ans.length (y.ans.flatMap An.cells) rfl (HM2.out.ans.alloc _) _ 1 1 (An.cells ⟨y.stamp, text⟩) rfl rfl (news_box HBN.out) (an_one _) ?hb1 ?hb2 ?hb3 ?_; (case hb1 => omega); (case hb2 => omega); (case hb3 => have := HM2.out.lt; have := HZ8.out; simp only [World.size_alloc]; omega); intro A9 c9 w9 ho9 hc9 hA9; have HO9 := Lib.hid ho9; have HC9 := Lib.hid hc9; have HA9 := Lib.hid hA9; have hx9 := Box.ch (HM2.out.box.alloc _) hc9 (by have := HM2.out.ql; have := HZ8.out; simp only [World.size_alloc]; omega) hqM2; have g7b := (show w9.cell? ⟨q, 7, none⟩ = some (.slice MA y.ans.length mc) from hx9.cell 7); have f7b := hx9.free 7; clear ho9 hc9 hA9 hx9))
          go_ret
          rw [HE3.out]
          have HM3 := HM2.out.answer (a := ⟨y.stamp, text⟩) HO9.out HC9.out HA9.out
          refine ⟨true, A', c', A9, c9, rfl, rfl, HM3, ((HCH2.out.alloc hz2 _).step HC9.out (by simp only [World.size_alloc]; omega) (fun _ _ e => .inr (.inr e))).setCell (p := ⟨q, 7, none⟩) (.inr (.inl rfl)) _, HRW.out, fun k hk => ?_⟩
          rcases HA9.out with e | e
          · rw [e] at hk; exact .inl hk
          · rw [e] at hk
            have h1 := Option.some.inj hk
            simp only [World.size_alloc] at h1
            rw [HZ8.out] at h1
            have h2 : wr.heap.size + 1 ≤ w8.heap.size := by simpa using hz8
            exact .inr (by omega)
        · rw [decide_eq_false hq]
          have HE3 := Lib.hid (HE2.out.trans (if_neg (by omega)))
          clear hq HE2
          go_wp2
          go_ret
          rw [HE3.out]
          exact ⟨true, A', c', MA, mc, rfl, rfl, HM1.out, HCH1.out, HRW.out, fun k hk => .inl hk⟩
end Go.Proofs.Ytfgpchffkpomoaa
