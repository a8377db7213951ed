/- The document's Drop, and the tree's Records: the walks. -/
import Derived.Test.YtfgpchffkpomoaaRPut
namespace Go.Proofs.Ytfgpchffkpomoaa
set_option linter.unusedSimpArgs false
set_option linter.unusedVariables false
open Go.RowKit

set_option maxHeartbeats 4000000 in
set_option maxRecDepth 100000 in
theorem rDrop_calls (A : Option Addr) (c : Nat) (l : List Rc) (key : ByteArray) (w : World) (hs : RcS w A c l) (hl : l.length ≤ 1000) :
    Calls Try.prog 142 #[.slice A l.length c, .string key] w (RPutPost w (dropD l key)) := by
  have HS := Lib.hid hs
  have hfit := hs.fits
  clear hs
  go_enter Try.func142, Try.ntmps142
  go_wp2_with fail
  go_loopg [5, 6] l.length (fun g v5 v6 wr => ∃ (k : Nat) (A1 : Option Addr) (c1 : Nat) (L : List Rc), v5 = .slice A1 L.length c1 ∧ v6 = .int .i64 k ∧ k ≤ l.length ∧ Hid (g + k = l.length ∧ L = (l.take k).filter (notK key) ∧ RSt w wr A1 c1 L))
  case atStart => exact ⟨0, none, 0, [], rfl, rfl, by omega, by omega, by simp, RSt.nil w⟩
  case round =>
    obtain ⟨k, A1, c1, L, rfl, rfl, hk, HH⟩ := hrel
    obtain ⟨hg, hL, hst⟩ := HH.out
    have HG := Lib.hid hg
    have HST := Lib.hid hst
    have hLl : L.length ≤ k := by rw [hL]; exact Nat.le_trans (List.length_filter_le _ _) (by simp; omega)
    have HL := Lib.hid hL
    clear HH hg hL hst
    by_cases hlt : k < l.length
    · have hd2 : decide ((k : Int) < (l.length : Int)) = true := by simp; omega
      obtain ⟨a, rfl, e0, e1⟩ := (HS.out.below HST.out.1).elem k hlt
      obtain ⟨x, hx⟩ : ∃ x, x = l[k] := ⟨_, rfl⟩
      rw [← hx] at e0 e1
      have HX := Lib.hid (show l[k]? = some x by rw [List.getElem?_eq_getElem hlt, hx])
      clear hx
      obtain ⟨xk, xv⟩ := x
      simp only at e0 e1
      have hbq := beq_list xk key
      by_cases he : xk = key
      · rw [decide_eq_true he] at hbq
        have HE := Lib.hid he
        clear he
        go_wp2
        go_roundg (gk - 1)
        case measure => have := HG.out; omega
        case rel => exact ⟨k + 1, A1, c1, L, rfl, by go_num, by omega, by have := HG.out; omega, by rw [HL.out, take_one HX.out, List.filter_append, List.filter_cons_of_neg (by rw [notK_iff]; simpa using HE.out)]; simp, HST.out⟩
      · rw [decide_eq_false he] at hbq
        have HE := Lib.hid he
        clear he
        go_wp2_with (at_builtin; refine app_row rfl (.tmp 20) (.tmp 25) 22 rfl w.heap.size 131 _ 2 32 info_rc0 Try.underlying22 rfl (by decide) A1 c1 L.length (L.flatMap Rc.cells) rfl (HST.out.2.alloc _) _ 1 1 (Rc.cells (⟨xk, xv⟩ : Rc)) rfl rfl (news_box (Box.new _ #[.string (⟨xk, xv⟩ : Rc).key, .string (⟨xk, xv⟩ : Rc).val] 131)) (rc_one (⟨xk, xv⟩ : Rc)) ?hb1 ?hb2 ?hb3 ?_; (case hb1 => (try simp only [List.length_append, List.length_cons, List.length_nil]); omega); (case hb2 => (try simp only [List.length_append, List.length_cons, List.length_nil]); omega); (case hb3 => have := HST.out.1.size; simp; omega); intro A2 c2 w6 ho hc hA; have HST2 := Lib.hid (RSt.app HST.out ho hc); have HOW := Lib.hid ho; clear ho hc hA)
        go_roundg (gk - 1)
        case measure => have := HG.out; omega
        case rel => exact ⟨k + 1, A2, c2, L ++ [⟨xk, xv⟩], by simp, by go_num, by omega, by have := HG.out; omega, by rw [HL.out, take_one HX.out, List.filter_append, List.filter_cons_of_pos (notK_iff.2 HE.out)]; simp, HST2.out⟩
    · have hd2 : decide ((k : Int) < (l.length : Int)) = false := by simp; omega
      obtain rfl : k = l.length := by omega
      go_wp2
      go_ret
      have hfin : L = dropD l key := by rw [HL.out, List.take_of_length_le (Nat.le_refl _)]; rfl
      rw [← hfin]
      exact ⟨A1, c1, rfl, HST.out⟩

set_option maxHeartbeats 2000000 in
set_option maxRecDepth 100000 in
theorem tRecords_calls (q b t m n : Nat) (T : List ByteArray) (S : List Wd) (l : List Rc) (A : Option Addr) (c : Nat) (D : Option Addr) (d : Nat) (w : World) (h : TrS w q b t m n T S l A c D d) (hl : l.length ≤ 1000) :
    Calls Try.prog 86 #[.pointer (some ⟨q, 0, none⟩)] w (RPutPost w l) := by
  have HM := Lib.hid (tmade_calls q b A l.length c D l.length d w h.box)
  have hz := h.ql
  have hb1 := (Below.refl w.heap.size w).alloc (Nat.le_refl _) (.cells #[] 131)
  have HB1 := Lib.hid hb1
  have HS := Lib.hid (h.rcs.below hb1)
  have HO := Lib.hid (World.ownsRow_lit (base := w.heap.size) (e := 131) (size := 2) w #[] 0 (Nat.le_refl _) (by decide) (by rfl))
  obtain ⟨k0, k1, k2, f0, f1, f2⟩ := Box.facts3 (Box.alloc h.box (.cells #[] 131))
  obtain ⟨r0, r1, r2, -⟩ := Box.facts3 h.box
  clear h hb1
  go_enter Try.func86, Try.ntmps86
  go_wp2_with fail
  refine HM.out.mono ?_
  rintro e wx ⟨rfl, hwx⟩
  obtain rfl := hwx.symm
  go_wp2_with (at_builtin; refine app_rowO rfl (.tmp 6) (.tmp 10) 22 rfl w.heap.size 131 _ 2 32 info_rc0 Try.underlying22 rfl (by decide) (some ⟨w.heap.size, 0, none⟩) 0 0 [] rfl HO.out A l.length c (l.flatMap Rc.cells) rfl HS.out.len HS.out.at_ (rc_ones l) ?hb1 ?hb2 ?hb3 ?_; (case hb1 => omega); (case hb2 => omega); (case hb3 => simp); intro A2 c2 w6 ho hc hA; have HO6 := Lib.hid ho; have HC6 := Lib.hid hc; clear ho hc hA)
  go_ret
  have ho := HO6.out
  simp only [List.nil_append, Nat.zero_add] at ho
  have hb : Below w.heap.size w w6 := below_app0 HB1.out (by simp) HC6.out (fun k hk => by simp [Row] at hk; omega)
  exact ⟨A2, c2, by simp, hb, ho⟩
end Go.Proofs.Ytfgpchffkpomoaa
