/- How many signed: the walk through Quorum. -/
import Derived.Test.YtfgpchffkpomoaaSeal
namespace Go.Proofs.Ytfgpchffkpomoaa
set_option linter.unusedSimpArgs false
set_option linter.unusedVariables false
open Go.RowKit
open Go.Maps (Keyed)

theorem keyInt : Keyed Try.prog 3 := Go.Maps.int_keyed Try.underlying3
theorem int_key {n : Int} (h0 : -9223372036854775808 ≤ n) (h1 : n ≤ 9223372036854775807) : keyOf Try.prog 3 (.int .i64 n) = some (.int .i64 n) := by
  refine Go.Maps.keyOf_int_mk Try.underlying3 ?_
  show (decide (IntKind.i64.min ≤ n) && decide (n ≤ IntKind.i64.max)) = true
  rw [show IntKind.i64.min = -9223372036854775808 by decide, show IntKind.i64.max = 9223372036854775807 by decide]
  simp [h0, h1]

/-- Is a message such a vote? -/
def voteB (S : List Wd) (kind view seq : Int) (digest : ByteArray) (m : Sg) : Bool :=
  ((openE S m).2 == 0) && (((openE S m).1.kind == kind) && (((openE S m).1.view == view) && (((openE S m).1.seq == seq) && decide ((openE S m).1.digest = digest))))
/-- Who voted, each once, in the order in which they did. -/
def votersS (S : List Wd) (kind view seq : Int) (digest : ByteArray) (below : Int) : List Sg → List Int → List Int
  | [], acc => acc
  | m :: l, acc => votersS S kind view seq digest below l (if (0 ≤ m.who ∧ m.who < below) ∧ m.who ∉ acc ∧ voteB S kind view seq digest m = true then acc ++ [m.who] else acc)
theorem votersS_append (S : List Wd) (kind view seq : Int) (digest : ByteArray) (below : Int) (l k : List Sg) : ∀ acc, votersS S kind view seq digest below (l ++ k) acc = votersS S kind view seq digest below k (votersS S kind view seq digest below l acc) := by
  induction l with
  | nil => intro acc; rfl
  | cons m l ih => intro acc; exact ih _
def seenL (acc : List Int) : List (Value × Value) := acc.map (fun x => (.int .i64 x, .int .i64 1))
theorem seenL_mem {acc : List Int} {x : Int} (h : x ∈ acc) : (Value.int .i64 x, Value.int .i64 1) ∈ seenL acc := List.mem_map.2 ⟨x, h, rfl⟩
theorem seenL_not {acc : List Int} {x : Int} (h : x ∉ acc) : ∀ v, (Value.int .i64 x, v) ∉ seenL acc := by
  intro v hv
  obtain ⟨y, hy, e⟩ := List.mem_map.1 hv
  simp only [Prod.mk.injEq, Value.int.injEq, true_and] at e
  exact h (e.1 ▸ hy)
theorem HB5of {B k : Nat} {w0 w w' : World} (h : Below B w0 w) (hc : Ch w.heap.size (· = k) w w') (hB : B ≤ w.heap.size) (hk : B ≤ k) : Ch B (fun _ => False) w0 w' :=
  (Ch.of_below h).trans (hc.mono (hB) (fun i hi e => by omega))
def IntAny (z : Int) (w : World) (e : Ending) (w' : World) : Prop := e = .returned (.int .i64 z) ∧ Below w.heap.size w w'

set_option maxHeartbeats 1000000 in
set_option maxRecDepth 100000 in
theorem quorum_calls (b t m n : Nat) (T : List ByteArray) (S : List Wd) (A : Option Addr) (c : Nat) (l : List Sg) (kind view seq : Int) (digest : ByteArray) (below : Int) (w : World) (hb : Bk w b t m n T S) (hS : S.length ≤ 1000000000)
    (hs : SgS w A c l) (hl : ∀ x ∈ l, x.body.size ≤ maxLen ∧ -9223372036854775808 ≤ x.who ∧ x.who ≤ 9223372036854775807) :
    Calls Try.prog 59 #[.pointer (some ⟨b, 0, none⟩), .slice A l.length c, .int .i64 kind, .int .i64 view, .int .i64 seq, .string digest, .int .i64 below] w (IntAny ((votersS S kind view seq digest below l []).length : Nat) w) := by
  have hfit := hs.fits
  have HS := Lib.hid hs
  have HBK := Lib.hid hb
  have HL := Lib.hid hl
  have hmm := @run_makeMap Try.prog
  clear hb hs hl
  go_enter Try.func59, Try.ntmps59
  go_wp2_with fail
  go_loopg [23] l.length (fun g vi wr => ∃ (k : Nat), vi = .int .i64 k ∧ k ≤ l.length ∧ Hid (g + k = l.length ∧ Below w.heap.size w wr ∧ w.heap.size < wr.heap.size ∧ MapIs 3 wr w.heap.size (seenL (votersS S kind view seq digest below (l.take k) []))))
  case atStart => exact ⟨0, rfl, Nat.zero_le _, rfl, (Below.refl _ _).alloc (Nat.le_refl _) _, by simp, MapIs.new w _⟩
  case round =>
    obtain ⟨k, rfl, hk, HH⟩ := hrel
    obtain ⟨hg, hb, hsz, hm⟩ := HH.out
    have HG := Lib.hid hg
    have HB := Lib.hid hb
    have HMM := Lib.hid hm
    clear HH hg hb hm
    by_cases hlt : k < l.length
    · have hd : decide ((k : Int) < (l.length : Int)) = true := by simp; omega
      obtain ⟨a, rfl, h0, h1, h2⟩ := (HS.out.below HB.out).elem k hlt
      have hxx := HL.out l[k] (List.getElem_mem hlt)
      have hst := votersS_append S kind view seq digest below (l.take k) [l[k]] []
      rw [← List.take_succ_eq_append_getElem hlt] at hst
      obtain ⟨x, hx⟩ : ∃ x, x = l[k] := ⟨_, rfl⟩
      rw [← hx] at h0 h1 h2 hxx hst
      obtain ⟨acc, hacc⟩ : ∃ acc, acc = votersS S kind view seq digest below (l.take k) [] := ⟨_, rfl⟩
      rw [← hacc] at hst HMM
      have HST := Lib.hid (show votersS S kind view seq digest below (l.take (k + 1)) [] = if (0 ≤ x.who ∧ x.who < below) ∧ x.who ∉ acc ∧ voteB S kind view seq digest x = true then acc ++ [x.who] else acc from hst)
      clear hx hacc hst
      have HO := Lib.hid (fun w hb => open_calls b t m n T S x w hb hS hxx.1)
      obtain ⟨W, hW⟩ : ∃ W, W = wr.alloc (.cells #[.int .i64 x.who, .string x.body, .string x.sig] 61) := ⟨_, rfl⟩
      have HBX := Lib.hid (show Box W wr.heap.size #[.int .i64 x.who, .string x.body, .string x.sig] 61 by rw [hW]; exact Box.new _ _ _)
      have HBW := Lib.hid (show Below w.heap.size w W by rw [hW]; exact HB.out.alloc (by omega) _)
      have HMW := Lib.hid (show MapIs 3 W w.heap.size (seenL acc) by rw [hW]; exact HMM.out.alloc _)
      obtain ⟨lk1, lk2⟩ := HMW.out.look (T := 198) keyInt Try.underlying198 (zero_int W) (int_key hxx.2.1 hxx.2.2) false
      have HLK1 := Lib.hid lk1
      have HLK2 := Lib.hid lk2
      clear lk1 lk2
      have hszW : W.heap.size = wr.heap.size + 1 := by rw [hW]; simp
      have HWW := Lib.hid hW
      clear hW HMM
      obtain ⟨hb1, hw0, hw1⟩ := hxx
      obtain ⟨who, body, sig⟩ := x
      unfold Sg.val at HO
      simp only at *
      by_cases hneg : who < 0
      · have hdn : decide (who < 0) = true := by simpa using hneg
        have HNX := HST.out
        rw [if_neg (by omega)] at HNX
        have HNX := Lib.hid HNX
        go_wp2_with fail
        go_roundg (gk - 1)
        case measure => have := HG.out; omega
        case rel => exact ⟨k + 1, by go_num, by omega, by have := HG.out; omega, (by have h := HBW.out; rw [HWW.out] at h; exact h), by simp; omega, by rw [HNX.out]; exact (by have h := HMW.out; rw [HWW.out] at h; exact h)⟩
      · have hdn : decide (who < 0) = false := by simpa using hneg
        by_cases hbe : below ≤ who
        · have hdb : decide (below ≤ who) = true := by simpa using hbe
          have HNX := HST.out
          rw [if_neg (by omega)] at HNX
          have HNX := Lib.hid HNX
          go_wp2_with fail
          go_roundg (gk - 1)
          case measure => have := HG.out; omega
          case rel => exact ⟨k + 1, by go_num, by omega, by have := HG.out; omega, (by have h := HBW.out; rw [HWW.out] at h; exact h), by simp; omega, by rw [HNX.out]; exact (by have h := HMW.out; rw [HWW.out] at h; exact h)⟩
        · have hdb : decide (below ≤ who) = false := by simp; omega
          by_cases hin : who ∈ acc
          · have hlk := HLK1.out _ (seenL_mem hin)
            rw [HWW.out] at hlk
            have HNX := HST.out
            rw [if_neg (by intro h; exact h.2.1 hin)] at HNX
            have HNX := Lib.hid HNX
            clear hin
            go_wp2_with fail
            go_roundg (gk - 1)
            case measure => have := HG.out; omega
            case rel => exact ⟨k + 1, by go_num, by omega, by have := HG.out; omega, (by have h := HBW.out; rw [HWW.out] at h; exact h), by simp; omega, by rw [HNX.out]; exact (by have h := HMW.out; rw [HWW.out] at h; exact h)⟩
          · have hlk := HLK2.out (seenL_not hin)
            rw [HWW.out] at hlk
            have HNOT := Lib.hid (seenL_not hin)
            have hkey := int_key hw0 hw1
            have HKEY := Lib.hid hkey
            have HV := Lib.hid (show voteB S kind view seq digest ⟨who, body, sig⟩ = (((openE S ⟨who, body, sig⟩).2 == 0) && (((openE S ⟨who, body, sig⟩).1.kind == kind) && (((openE S ⟨who, body, sig⟩).1.view == view) && (((openE S ⟨who, body, sig⟩).1.seq == seq) && decide ((openE S ⟨who, body, sig⟩).1.digest = digest))))) from rfl)
            have HIN := Lib.hid hin
            unfold BodyErr at HO
            obtain ⟨⟨y, err⟩, hr⟩ : ∃ r, openE S ⟨who, body, sig⟩ = r := ⟨_, rfl⟩
            rw [hr] at HO HV
            clear hr hkey hin
            obtain ⟨kd, vw, sq, cl, sp, dg, tx, ls⟩ := y
            unfold Bd.val Bd.cells at HO
            simp only at HO HV
            go_wp2_with fail
            rw [← HWW.out]
            refine (HO.out _ (HBK.out.below HBW.out)).mono ?_
            rintro e w3 ⟨A3, c3, rfl, hb3, ho3⟩
            have HB3 := Lib.hid (HBW.out.trans (hb3.mono HBW.out.size))
            have HM3 := Lib.hid (HMW.out.ch (Ch.of_below (S := fun _ => False) hb3) HMW.out.lt (fun h => h))
            have hbx := HBX.out.call hb3
            have hsz3 := hb3.size
            clear hb3 ho3 hlk
            obtain ⟨v0, v1, v2, _⟩ := hbx.facts3
            clear hbx
            by_cases t0 : err = 0
            · have td0 : (err == 0) = true := by simpa using t0
              by_cases t1 : kd = kind
              · have td1 : (kd == kind) = true := by simpa using t1
                by_cases t2 : vw = view
                · have td2 : (vw == view) = true := by simpa using t2
                  by_cases t3 : sq = seq
                  · have td3 : (sq == seq) = true := by simpa using t3
                    by_cases t4 : dg = digest
                    · have td4 : (dg.toList == digest.toList) = true := by rw [beq_list]; simpa using t4
                      have HNX := HST.out
                      rw [if_pos ⟨⟨by omega, by omega⟩, HIN.out, by rw [HV.out]; simp [t0, t1, t2, t3, t4]⟩] at HNX
                      have HNX := Lib.hid HNX
                      have HB4 := Lib.hid (HB3.out.alloc (by omega) (.cells #[.int .i64 kd, .int .i64 vw, .int .i64 sq, .int .i64 cl, .int .i64 sp, .string dg, .string tx, .slice A3 ls.length c3] 59))
                      have HM4 := Lib.hid (HM3.out.alloc (.cells #[.int .i64 kd, .int .i64 vw, .int .i64 sq, .int .i64 cl, .int .i64 sp, .string dg, .string tx, .slice A3 ls.length c3] 59))
                      have v9 := (World.cell?_alloc_lt w3 (.cells #[.int .i64 kd, .int .i64 vw, .int .i64 sq, .int .i64 cl, .int .i64 sp, .string dg, .string tx, .slice A3 ls.length c3] 59) _ (World.block_lt_of_cell? _ _ v0)).trans v0
                      clear t0 t1 t2 t3 t4
                      go_wp2_with (at_mapUpdate; refine wpList_push _ rfl (.tmp 75) (.tmp 77) (.const (.int .i64 1)) rfl keyInt Try.underlying198 w.heap.size (seenL acc) rfl HM4.out _ _ _ rfl rfl HKEY.out HNOT.out ?_; intro w5 hm5 hc5 hs5; have HM5 := Lib.hid (show MapIs 3 w5 w.heap.size (seenL acc ++ [(.int .i64 who, .int .i64 1)]) from hm5); have HB5 := Lib.hid (Ch.below (HB5of HB4.out hc5 (by simp; omega) (Nat.le_refl _)) (fun _ _ h => h)); clear hm5 hc5)
                      go_wp2_with fail
                      go_roundg (gk - 1)
                      case measure => have := HG.out; omega
                      case rel => exact ⟨k + 1, by go_num, by omega, by have := HG.out; omega, HB5.out, by have := HB5.out.size; simp at hs5; omega, by rw [HNX.out]; simpa [seenL] using HM5.out⟩
                    · have td4 : (dg.toList == digest.toList) = false := by rw [beq_list]; simpa using t4
                      have HNX := HST.out
                      rw [if_neg (by rw [HV.out]; simp [t0, t1, t2, t3, t4])] at HNX
                      have HNX := Lib.hid HNX
                      clear t0 t1 t2 t3 t4
                      go_wp2_with fail
                      go_roundg (gk - 1)
                      case measure => have := HG.out; omega
                      case rel => exact ⟨k + 1, by go_num, by omega, by have := HG.out; omega, (HB3.out.alloc (by omega) _), by simp; omega, by rw [HNX.out]; exact (HM3.out.alloc _)⟩
                  · have td3 : (sq == seq) = false := by simpa using t3
                    have HNX := HST.out
                    rw [if_neg (by rw [HV.out]; simp [t0, t1, t2, t3])] at HNX
                    have HNX := Lib.hid HNX
                    clear t0 t1 t2 t3
                    go_wp2_with fail
                    go_roundg (gk - 1)
                    case measure => have := HG.out; omega
                    case rel => exact ⟨k + 1, by go_num, by omega, by have := HG.out; omega, (HB3.out.alloc (by omega) _), by simp; omega, by rw [HNX.out]; exact (HM3.out.alloc _)⟩
                · have td2 : (vw == view) = false := by simpa using t2
                  have HNX := HST.out
                  rw [if_neg (by rw [HV.out]; simp [t0, t1, t2])] at HNX
                  have HNX := Lib.hid HNX
                  clear t0 t1 t2
                  go_wp2_with fail
                  go_roundg (gk - 1)
                  case measure => have := HG.out; omega
                  case rel => exact ⟨k + 1, by go_num, by omega, by have := HG.out; omega, (HB3.out.alloc (by omega) _), by simp; omega, by rw [HNX.out]; exact (HM3.out.alloc _)⟩
              · have td1 : (kd == kind) = false := by simpa using t1
                have HNX := HST.out
                rw [if_neg (by rw [HV.out]; simp [t0, t1])] at HNX
                have HNX := Lib.hid HNX
                clear t0 t1
                go_wp2_with fail
                go_roundg (gk - 1)
                case measure => have := HG.out; omega
                case rel => exact ⟨k + 1, by go_num, by omega, by have := HG.out; omega, (HB3.out.alloc (by omega) _), by simp; omega, by rw [HNX.out]; exact (HM3.out.alloc _)⟩
            · have td0 : (err == 0) = false := by simpa using t0
              have HNX := HST.out
              rw [if_neg (by rw [HV.out]; simp [t0])] at HNX
              have HNX := Lib.hid HNX
              clear t0
              go_wp2_with fail
              go_roundg (gk - 1)
              case measure => have := HG.out; omega
              case rel => exact ⟨k + 1, by go_num, by omega, by have := HG.out; omega, (HB3.out.alloc (by omega) _), by simp; omega, by rw [HNX.out]; exact (HM3.out.alloc _)⟩
    · have hd : decide ((k : Int) < (l.length : Int)) = false := by simp; omega
      have hlen := fun ty => HMM.out.len Try.underlying198 ty
      have HLN := Lib.hid (show (seenL (votersS S kind view seq digest below (l.take k) [])).length = (votersS S kind view seq digest below l []).length by rw [List.take_of_length_le (by omega)]; simp [seenL])
      rw [HLN.out] at hlen
      go_wp2
      go_ret
      exact ⟨rfl, HB.out⟩
    end Go.Proofs.Ytfgpchffkpomoaa
