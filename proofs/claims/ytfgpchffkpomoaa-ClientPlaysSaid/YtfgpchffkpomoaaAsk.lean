/- A client asks what there is at a key; what was sent is looked through: the walks. -/
import Derived.Test.YtfgpchffkpomoaaAwake12
namespace Go.Proofs.Ytfgpchffkpomoaa
set_option linter.unusedSimpArgs false
set_option linter.unusedVariables false
open Go.RowKit

theorem ask_right {client : Int} {text : ByteArray} (hc : 0 ≤ client ∧ client ≤ 15) (ht : text.size ≤ 64) : rightE (askB client text) = 0 := by
  have hm : (askB client text).mask = (if client = 0 then 0 else 4) + (if text.size = 0 then 0 else 32) := by
    have ht := has_text text
    unfold Bd.mask Bd.flags askB
    rcases Nat.eq_zero_or_pos text.size with h2 | h2
    · rw [decide_eq_false (by omega)] at ht
      have h3 : text.toList.isEmpty = true := by simpa using ht
      simp only [h3, if_pos h2]
      by_cases h1 : client = 0
      · simp [h1, maskOf]
      · simp [h1, maskOf]
    · rw [decide_eq_true h2] at ht
      have h3 : text.toList.isEmpty = false := by simpa using ht
      simp only [h3, if_neg (show ¬ text.size = 0 by omega)]
      by_cases h1 : client = 0
      · simp [h1, maskOf]
      · simp [h1, maskOf]
  have ha : partA (askB client text) = true := by unfold partA askB; simp; omega
  have hb : partB (askB client text) = true := by
    unfold partB
    rw [hm]
    unfold partBr
    have e1 : (askB client text).text = text := rfl
    have e2 : (askB client text).digest = ⟨#[]⟩ := rfl
    have e3 : (askB client text).list = [] := rfl
    have e4 : (askB client text).kind = 12 := rfl
    rw [e1, e2, e3, e4]
    simp only [Bool.and_eq_true, decide_eq_true_eq]
    refine ⟨by decide, by show text.size ≤ 64; omega, by decide, ?_, ?_, by decide⟩ <;> (split <;> split <;> decide +kernel)
  unfold rightE
  rw [if_neg (by unfold askB; simp), ha, hb]
  rfl
theorem ask_said {S : List Wd} {who client : Int} {text : ByteArray} (hw : 0 ≤ who ∧ who ≤ 255) (hc : 0 ≤ client ∧ client ≤ 15) (ht : text.size ≤ 64) :
    ∃ m S', sealE S who (askB client text) = ((m, 0), S') ∧ Said S' who (askB client text) m ∧ S'.length ≤ S.length + 1 :=
  seal_said hw (small_bytes (ask_right hc ht) rfl (by show text.size ≤ 1000; omega))
/-- Sealed once more, it is the same. -/
theorem seal_again {S S' : List Wd} {who : Int} {b : Bd} {sg : Sg} (hw : 0 ≤ who ∧ who ≤ 255) (h : sealE S who b = ((sg, 0), S')) : sealE S' who b = ((sg, 0), S') := by
  have hn : namedB who = true := by simpa [namedB] using hw
  by_cases hb : (bytesE b).2 = 0
  · obtain ⟨p, h1, h2⟩ := sealE_ok (S := S) hw hb
    rw [h1] at h
    obtain ⟨h3, rfl⟩ := Prod.mk.inj h
    have h4 := (Prod.mk.inj h3).1
    unfold sealE
    rw [if_pos hb, signE_again hn h2]
    simp only [if_true]
    rw [h4]
  · unfold sealE at h
    rw [if_neg hb] at h
    exact absurd (Prod.mk.inj (Prod.mk.inj h).1).2 hb

def AskPost (w0 : World) (x g K b t m n : Nat) (T : List ByteArray) (S' : List Wd) (y : Cl) (AA : Option Addr) (ac : Nat) (l : List Sn) (e : Ending) (w' : World) : Prop :=
  ∃ A c, e = .returned (.tuple #[.slice A l.length c, .int .i64 0]) ∧ CS w' x g K b t m n T S' y AA ac ∧ Ch w0.heap.size (· = n) w0 w' ∧ w'.ownsRow w0.heap.size 211 2 (.slice A l.length c) l.length (l.flatMap Sn.cells)
set_option maxHeartbeats 4000000 in
set_option maxRecDepth 100000 in
theorem ask_calls (x g K b t m n : Nat) (T : List ByteArray) (S : List Wd) (y : Cl) (AA : Option Addr) (ac : Nat) (key : ByteArray) (sg : Sg) (S' : List Wd) (f : Nat) (w : World) (h : CS w x g K b t m n T S y AA ac) (hS : S.length ≤ 1000000000) (hid : 0 ≤ y.id ∧ y.id ≤ 15) (hk : 1 ≤ key.size ∧ key.size ≤ 64) (hf : y.F = (f : Int)) (hf4 : f ≤ 4) (he : sealE S (100 + y.id) (askB y.id key) = ((sg, 0), S')) (hft : fitsB sg = true) :
    Calls Try.prog 75 #[.pointer (some ⟨x, 0, none⟩), .string key] w (AskPost w x g K b t m n T S' y AA ac (toAll (3 * f + 1) (bs (putSg sg)))) := by
  have HM := Lib.hid (cmade_calls x g K b t m n T S y AA ac w h)
  have HG := Lib.hid (cseal_calls x g K b t m n T S y AA ac (askB y.id key) sg S' w h hS (by omega) rfl he hft)
  unfold SealPost2 askB Bd.val Bd.cells at HG
  simp only [List.length_nil] at HG
  obtain ⟨out, hout⟩ : ∃ o, o = bs (putSg sg) := ⟨_, rfl⟩
  rw [← hout] at HG ⊢
  have HALL := Lib.hid (fun w h => all_calls x g K b t m n T S' y AA ac out f w h hf hf4)
  have k4 := h.c4
  have hd1 : decide ((64 : Int) < (key.size : Int)) = false := by simp; omega
  have hne : key.toList.isEmpty = false := by have := has_text key; rw [decide_eq_true (by omega)] at this; simpa using this
  clear h he hft hout
  go_enter Try.func75, Try.ntmps75
  go_wp2_with fail
  refine HM.out.mono ?_
  rintro e wx ⟨rfl, hwx⟩
  obtain rfl := hwx.symm
  go_wp2_with fail
  refine HG.out.mono ?_
  rintro e w5 ⟨rfl, hc5, hh5⟩
  have HC5 := Lib.hid hc5
  have HH5 := Lib.hid hh5
  have hz5 := hh5.size
  clear hc5 hh5 k4
  go_wp2_with fail
  refine (HALL.out _ HC5.out).mono ?_
  rintro e wa ⟨A, c, rfl, hba, hoa⟩
  have HBA := Lib.hid hba
  have HOA := Lib.hid hoa
  clear hba hoa
  go_wp2
  go_ret2
  exact ⟨A, c, rfl, HC5.out.below HBA.out, HH5.out.step (Ch.of_below (S := fun _ => False) HBA.out) hz5 (fun _ _ e => e.elim), own_base HOA.out hz5⟩
set_option maxRecDepth 100000 in
theorem askNo_calls (x g K b t m n : Nat) (T : List ByteArray) (S : List Wd) (y : Cl) (AA : Option Addr) (ac : Nat) (key : ByteArray) (w : World) (h : CS w x g K b t m n T S y AA ac) (hk : ¬ (1 ≤ key.size ∧ key.size ≤ 64)) :
    Calls Try.prog 75 #[.pointer (some ⟨x, 0, none⟩), .string key] w (fun e w' => e = .returned (.tuple #[.slice none 0 0, .int .i64 1]) ∧ w' = w) := by
  have HM := Lib.hid (cmade_calls x g K b t m n T S y AA ac w h)
  have ht := has_text key
  clear h
  rcases Nat.eq_zero_or_pos key.size with h2 | h2
  · have hne : key.toList.isEmpty = true := by rw [decide_eq_false (by omega)] at ht; simpa using ht
    clear ht hk h2
    go_enter Try.func75, Try.ntmps75
    go_wp2_with fail
    refine HM.out.mono ?_
    rintro e wx ⟨rfl, hwx⟩
    obtain rfl := hwx.symm
    go_wp2
    go_ret2
    exact ⟨rfl, rfl⟩
  · have hne : key.toList.isEmpty = false := by rw [decide_eq_true h2] at ht; simpa using ht
    have hd1 : decide ((64 : Int) < (key.size : Int)) = true := by simp; omega
    clear ht hk h2
    go_enter Try.func75, Try.ntmps75
    go_wp2_with fail
    refine HM.out.mono ?_
    rintro e wx ⟨rfl, hwx⟩
    obtain rfl := hwx.symm
    go_wp2
    go_ret2
    exact ⟨rfl, rfl⟩

theorem toAll_get {N k : Nat} (h : k < N) (s : ByteArray) : ((toAll N s).flatMap Sn.cells)[k * 2]? = some (.int .i64 (k : Int)) ∧ ((toAll N s).flatMap Sn.cells)[k * 2 + 1]? = some (.string s) := by
  have e : (toAll N s)[k]? = some ⟨(k : Int), s⟩ := by unfold toAll; rw [List.getElem?_map, List.getElem?_range h]; rfl
  obtain ⟨hl, e2⟩ := List.getElem?_eq_some_iff.1 e
  have h0 := flat_get Sn.cells 2 Sn.cells_len (toAll N s) k 0 hl (by decide)
  have h1 := flat_get Sn.cells 2 Sn.cells_len (toAll N s) k 1 hl (by decide)
  rw [e2] at h0 h1
  exact ⟨h0, h1⟩
set_option maxHeartbeats 2000000 in
set_option maxRecDepth 100000 in
theorem sent_calls (A : Option Addr) (c base f : Nat) (s : ByteArray) (w : World) (h : w.ownsRow base 211 2 (.slice A (3 * f + 1) c) (3 * f + 1) ((toAll (3 * f + 1) s).flatMap Sn.cells)) (hf4 : f ≤ 4) :
    Calls Try.prog 76 #[.slice A (3 * f + 1) c, .int .i64 (f : Int), .string s] w (fun e w' => e = .returned (.bool true) ∧ w' = w) := by
  obtain ⟨g, rfl⟩ := own_some h (by omega)
  have HO := Lib.hid h
  have hw1 : IntKind.i64.wrap (3 * (f : Int)) = 3 * (f : Int) := wrap_near _ (by omega) (by omega)
  have hw2 : IntKind.i64.wrap (3 * (f : Int) + 1) = 3 * (f : Int) + 1 := wrap_near _ (by omega) (by omega)
  have hbq := beq_list s s
  rw [decide_eq_true rfl] at hbq
  clear h
  go_enter Try.func76, Try.ntmps76
  go_wp2_with fail
  go_loopg [7] (3 * f + 1) (fun gk v7 wr => ∃ k : Nat, v7 = .int .i64 k ∧ k ≤ 3 * f + 1 ∧ Hid (gk + k = 3 * f + 1 ∧ wr = w))
  case atStart => exact ⟨0, rfl, by omega, by omega, rfl⟩
  case round =>
    obtain ⟨k, rfl, hk, HH⟩ := hrel
    obtain ⟨hg, rfl⟩ := HH.out
    have HG := Lib.hid hg
    clear HH hg
    by_cases hlt : k < 3 * f + 1
    · have hd2 : decide ((k : Int) < 3 * (f : Int) + 1) = true := by simp; omega
      obtain ⟨t0, t1⟩ := toAll_get hlt s
      have c0 : wr.cell? ⟨g, k * 2, none⟩ = some (.int .i64 (k : Int)) := by rw [HO.out.cellAt (k * 2) (by omega), t0]
      have c1 : wr.cell? ⟨g, k * 2 + 1, none⟩ = some (.string s) := by rw [HO.out.cellAt (k * 2 + 1) (by omega), t1]
      clear t0 t1
      go_wp2
      go_roundg (gk - 1)
      case measure => have := HG.out; omega
      case rel => exact ⟨k + 1, by go_num, by omega, by have := HG.out; omega, rfl⟩
    · have hd2 : decide ((k : Int) < 3 * (f : Int) + 1) = false := by simp; omega
      go_wp2
      go_ret
      exact ⟨rfl, rfl⟩
end Go.Proofs.Ytfgpchffkpomoaa
