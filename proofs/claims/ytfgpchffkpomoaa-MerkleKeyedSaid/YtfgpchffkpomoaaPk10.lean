/- Texts of this proof, several in one file; each says ahead of it what it proves. -/
import Derived.Test.YtfgpchffkpomoaaPk09
import Derived.Test.YtfgpchffkpomoaaPk05
import Derived.ProofKit
import Derived.Deep.Slices
import Derived.Deep.Fields
import Derived.SizedLaws
/- How many signed: the walk through Quorum. -/
namespace Go.Proofs.Ytfgpchffkpomoaa
set_option linter.unusedSimpArgs false
set_option linter.unusedVariables false
open Go.RowKit
open Go.Maps (Keyed)

theorem keyInt : Keyed Try.prog 3 := Go.Maps.int_keyed Try.underlying3
theorem int_key {n : Int} (h0 : -9223372036854775808 ≤ n) (h1 : n ≤ 9223372036854775807) : keyOf Try.prog 3 (.int .i64 n) = some (.int .i64 n) := by
  refine Go.Maps.keyOf_int_mk Try.underlying3 ?_
  show (decide (IntKind.i64.min ≤ n) && decide (n ≤ IntKind.i64.max)) = true
  rw [show IntKind.i64.min = -9223372036854775808 by decide, show IntKind.i64.max = 9223372036854775807 by decide]
  simp [h0, h1]

/-- Is a message such a vote? -/
def voteB (S : List Wd) (kind view seq : Int) (digest : ByteArray) (m : Sg) : Bool :=
  ((openE S m).2 == 0) && (((openE S m).1.kind == kind) && (((openE S m).1.view == view) && (((openE S m).1.seq == seq) && decide ((openE S m).1.digest = digest))))
/-- Who voted, each once, in the order in which they did. -/
def votersS (S : List Wd) (kind view seq : Int) (digest : ByteArray) (below : Int) : List Sg → List Int → List Int
  | [], acc => acc
  | m :: l, acc => votersS S kind view seq digest below l (if (0 ≤ m.who ∧ m.who < below) ∧ m.who ∉ acc ∧ voteB S kind view seq digest m = true then acc ++ [m.who] else acc)
theorem votersS_append (S : List Wd) (kind view seq : Int) (digest : ByteArray) (below : Int) (l k : List Sg) : ∀ acc, votersS S kind view seq digest below (l ++ k) acc = votersS S kind view seq digest below k (votersS S kind view seq digest below l acc) := by
  induction l with
  | nil => intro acc; rfl
  | cons m l ih => intro acc; exact ih _
def seenL (acc : List Int) : List (Value × Value) := acc.map (fun x => (.int .i64 x, .int .i64 1))
theorem seenL_mem {acc : List Int} {x : Int} (h : x ∈ acc) : (Value.int .i64 x, Value.int .i64 1) ∈ seenL acc := List.mem_map.2 ⟨x, h, rfl⟩
theorem seenL_not {acc : List Int} {x : Int} (h : x ∉ acc) : ∀ v, (Value.int .i64 x, v) ∉ seenL acc := by
  intro v hv
  obtain ⟨y, hy, e⟩ := List.mem_map.1 hv
  simp only [Prod.mk.injEq, Value.int.injEq, true_and] at e
  exact h (e.1 ▸ hy)
theorem HB5of {B k : Nat} {w0 w w' : World} (h : Below B w0 w) (hc : Ch w.heap.size (· = k) w w') (hB : B ≤ w.heap.size) (hk : B ≤ k) : Ch B (fun _ => False) w0 w' :=
  (Ch.of_below h).trans (hc.mono (hB) (fun i hi e => by omega))
def IntAny (z : Int) (w : World) (e : Ending) (w' : World) : Prop := e = .returned (.int .i64 z) ∧ Below w.heap.size w w'

set_option maxHeartbeats 1000000 in
set_option maxRecDepth 100000 in
theorem quorum_calls (b t m n : Nat) (T : List ByteArray) (S : List Wd) (A : Option Addr) (c : Nat) (l : List Sg) (kind view seq : Int) (digest : ByteArray) (below : Int) (w : World) (hb : Bk w b t m n T S) (hS : S.length ≤ 1000000000)
    (hs : SgS w A c l) (hl : ∀ x ∈ l, x.body.size ≤ maxLen ∧ -9223372036854775808 ≤ x.who ∧ x.who ≤ 9223372036854775807) :
    Calls Try.prog 59 #[.pointer (some ⟨b, 0, none⟩), .slice A l.length c, .int .i64 kind, .int .i64 view, .int .i64 seq, .string digest, .int .i64 below] w (IntAny ((votersS S kind view seq digest below l []).length : Nat) w) := by
  have hfit := hs.fits
  have HS := Lib.hid hs
  have HBK := Lib.hid hb
  have HL := Lib.hid hl
  have hmm := @run_makeMap Try.prog
  clear hb hs hl
  go_enter Try.func59, Try.ntmps59
  go_wp2_with fail
  go_loopg [23] l.length (fun g vi wr => ∃ (k : Nat), vi = .int .i64 k ∧ k ≤ l.length ∧ Hid (g + k = l.length ∧ Below w.heap.size w wr ∧ w.heap.size < wr.heap.size ∧ MapIs 3 wr w.heap.size (seenL (votersS S kind view seq digest below (l.take k) []))))
  case atStart => exact ⟨0, rfl, Nat.zero_le _, rfl, (Below.refl _ _).alloc (Nat.le_refl _) _, by simp, MapIs.new w _⟩
  case round =>
    obtain ⟨k, rfl, hk, HH⟩ := hrel
    obtain ⟨hg, hb, hsz, hm⟩ := HH.out
    have HG := Lib.hid hg
    have HB := Lib.hid hb
    have HMM := Lib.hid hm
    clear HH hg hb hm
    by_cases hlt : k < l.length
    · have hd : decide ((k : Int) < (l.length : Int)) = true := by simp; omega
      obtain ⟨a, rfl, h0, h1, h2⟩ := (HS.out.below HB.out).elem k hlt
      have hxx := HL.out l[k] (List.getElem_mem hlt)
      have hst := votersS_append S kind view seq digest below (l.take k) [l[k]] []
      rw [← List.take_succ_eq_append_getElem hlt] at hst
      obtain ⟨x, hx⟩ : ∃ x, x = l[k] := ⟨_, rfl⟩
      rw [← hx] at h0 h1 h2 hxx hst
      obtain ⟨acc, hacc⟩ : ∃ acc, acc = votersS S kind view seq digest below (l.take k) [] := ⟨_, rfl⟩
      rw [← hacc] at hst HMM
      have HST := Lib.hid (show votersS S kind view seq digest below (l.take (k + 1)) [] = if (0 ≤ x.who ∧ x.who < below) ∧ x.who ∉ acc ∧ voteB S kind view seq digest x = true then acc ++ [x.who] else acc from hst)
      clear hx hacc hst
      have HO := Lib.hid (fun w hb => open_calls b t m n T S x w hb hS hxx.1)
      obtain ⟨W, hW⟩ : ∃ W, W = wr.alloc (.cells #[.int .i64 x.who, .string x.body, .string x.sig] 61) := ⟨_, rfl⟩
      have HBX := Lib.hid (show Box W wr.heap.size #[.int .i64 x.who, .string x.body, .string x.sig] 61 by rw [hW]; exact Box.new _ _ _)
      have HBW := Lib.hid (show Below w.heap.size w W by rw [hW]; exact HB.out.alloc (by omega) _)
      have HMW := Lib.hid (show MapIs 3 W w.heap.size (seenL acc) by rw [hW]; exact HMM.out.alloc _)
      obtain ⟨lk1, lk2⟩ := HMW.out.look (T := 198) keyInt Try.underlying198 (zero_int W) (int_key hxx.2.1 hxx.2.2) false
      have HLK1 := Lib.hid lk1
      have HLK2 := Lib.hid lk2
      clear lk1 lk2
      have hszW : W.heap.size = wr.heap.size + 1 := by rw [hW]; simp
      have HWW := Lib.hid hW
      clear hW HMM
      obtain ⟨hb1, hw0, hw1⟩ := hxx
      obtain ⟨who, body, sig⟩ := x
      unfold Sg.val at HO
      simp only at *
      by_cases hneg : who < 0
      · have hdn : decide (who < 0) = true := by simpa using hneg
        have HNX := HST.out
        rw [if_neg (by omega)] at HNX
        have HNX := Lib.hid HNX
        go_wp2_with fail
        go_roundg (gk - 1)
        case measure => have := HG.out; omega
        case rel => exact ⟨k + 1, by go_num, by omega, by have := HG.out; omega, (by have h := HBW.out; rw [HWW.out] at h; exact h), by simp; omega, by rw [HNX.out]; exact (by have h := HMW.out; rw [HWW.out] at h; exact h)⟩
      · have hdn : decide (who < 0) = false := by simpa using hneg
        by_cases hbe : below ≤ who
        · have hdb : decide (below ≤ who) = true := by simpa using hbe
          have HNX := HST.out
          rw [if_neg (by omega)] at HNX
          have HNX := Lib.hid HNX
          go_wp2_with fail
          go_roundg (gk - 1)
          case measure => have := HG.out; omega
          case rel => exact ⟨k + 1, by go_num, by omega, by have := HG.out; omega, (by have h := HBW.out; rw [HWW.out] at h; exact h), by simp; omega, by rw [HNX.out]; exact (by have h := HMW.out; rw [HWW.out] at h; exact h)⟩
        · have hdb : decide (below ≤ who) = false := by simp; omega
          by_cases hin : who ∈ acc
          · have hlk := HLK1.out _ (seenL_mem hin)
            rw [HWW.out] at hlk
            have HNX := HST.out
            rw [if_neg (by intro h; exact h.2.1 hin)] at HNX
            have HNX := Lib.hid HNX
            clear hin
            go_wp2_with fail
            go_roundg (gk - 1)
            case measure => have := HG.out; omega
            case rel => exact ⟨k + 1, by go_num, by omega, by have := HG.out; omega, (by have h := HBW.out; rw [HWW.out] at h; exact h), by simp; omega, by rw [HNX.out]; exact (by have h := HMW.out; rw [HWW.out] at h; exact h)⟩
          · have hlk := HLK2.out (seenL_not hin)
            rw [HWW.out] at hlk
            have HNOT := Lib.hid (seenL_not hin)
            have hkey := int_key hw0 hw1
            have HKEY := Lib.hid hkey
            have HV := Lib.hid (show voteB S kind view seq digest ⟨who, body, sig⟩ = (((openE S ⟨who, body, sig⟩).2 == 0) && (((openE S ⟨who, body, sig⟩).1.kind == kind) && (((openE S ⟨who, body, sig⟩).1.view == view) && (((openE S ⟨who, body, sig⟩).1.seq == seq) && decide ((openE S ⟨who, body, sig⟩).1.digest = digest))))) from rfl)
            have HIN := Lib.hid hin
            unfold BodyErr at HO
            obtain ⟨⟨y, err⟩, hr⟩ : ∃ r, openE S ⟨who, body, sig⟩ = r := ⟨_, rfl⟩
            rw [hr] at HO HV
            clear hr hkey hin
            obtain ⟨kd, vw, sq, cl, sp, dg, tx, ls⟩ := y
            unfold Bd.val Bd.cells at HO
            simp only at HO HV
            go_wp2_with fail
            rw [← HWW.out]
            refine (HO.out _ (HBK.out.below HBW.out)).mono ?_
            rintro e w3 ⟨A3, c3, rfl, hb3, ho3⟩
            have HB3 := Lib.hid (HBW.out.trans (hb3.mono HBW.out.size))
            have HM3 := Lib.hid (HMW.out.ch (Ch.of_below (S := fun _ => False) hb3) HMW.out.lt (fun h => h))
            have hbx := HBX.out.call hb3
            have hsz3 := hb3.size
            clear hb3 ho3 hlk
            obtain ⟨v0, v1, v2, _⟩ := hbx.facts3
            clear hbx
            by_cases t0 : err = 0
            · have td0 : (err == 0) = true := by simpa using t0
              by_cases t1 : kd = kind
              · have td1 : (kd == kind) = true := by simpa using t1
                by_cases t2 : vw = view
                · have td2 : (vw == view) = true := by simpa using t2
                  by_cases t3 : sq = seq
                  · have td3 : (sq == seq) = true := by simpa using t3
                    by_cases t4 : dg = digest
                    · have td4 : (dg.toList == digest.toList) = true := by rw [beq_list]; simpa using t4
                      have HNX := HST.out
                      rw [if_pos ⟨⟨by omega, by omega⟩, HIN.out, by rw [HV.out]; simp [t0, t1, t2, t3, t4]⟩] at HNX
                      have HNX := Lib.hid HNX
                      have HB4 := Lib.hid (HB3.out.alloc (by omega) (.cells #[.int .i64 kd, .int .i64 vw, .int .i64 sq, .int .i64 cl, .int .i64 sp, .string dg, .string tx, .slice A3 ls.length c3] 59))
                      have HM4 := Lib.hid (HM3.out.alloc (.cells #[.int .i64 kd, .int .i64 vw, .int .i64 sq, .int .i64 cl, .int .i64 sp, .string dg, .string tx, .slice A3 ls.length c3] 59))
                      have v9 := (World.cell?_alloc_lt w3 (.cells #[.int .i64 kd, .int .i64 vw, .int .i64 sq, .int .i64 cl, .int .i64 sp, .string dg, .string tx, .slice A3 ls.length c3] 59) _ (World.block_lt_of_cell? _ _ v0)).trans v0
                      clear t0 t1 t2 t3 t4
                      go_wp2_with (at_mapUpdate; refine wpList_push _ rfl (.tmp 75) (.tmp 77) (.const (.int .i64 1)) rfl keyInt Try.underlying198 w.heap.size (seenL acc) rfl HM4.out _ _ _ rfl rfl HKEY.out HNOT.out ?_; intro w5 hm5 hc5 hs5; have HM5 := Lib.hid (show MapIs 3 w5 w.heap.size (seenL acc ++ [(.int .i64 who, .int .i64 1)]) from hm5); have HB5 := Lib.hid (Ch.below (HB5of HB4.out hc5 (by simp; omega) (Nat.le_refl _)) (fun _ _ h => h)); clear hm5 hc5)
                      go_wp2_with fail
                      go_roundg (gk - 1)
                      case measure => have := HG.out; omega
                      case rel => exact ⟨k + 1, by go_num, by omega, by have := HG.out; omega, HB5.out, by have := HB5.out.size; simp at hs5; omega, by rw [HNX.out]; simpa [seenL] using HM5.out⟩
                    · have td4 : (dg.toList == digest.toList) = false := by rw [beq_list]; simpa using t4
                      have HNX := HST.out
                      rw [if_neg (by rw [HV.out]; simp [t0, t1, t2, t3, t4])] at HNX
                      have HNX := Lib.hid HNX
                      clear t0 t1 t2 t3 t4
                      go_wp2_with fail
                      go_roundg (gk - 1)
                      case measure => have := HG.out; omega
                      case rel => exact ⟨k + 1, by go_num, by omega, by have := HG.out; omega, (HB3.out.alloc (by omega) _), by simp; omega, by rw [HNX.out]; exact (HM3.out.alloc _)⟩
                  · have td3 : (sq == seq) = false := by simpa using t3
                    have HNX := HST.out
                    rw [if_neg (by rw [HV.out]; simp [t0, t1, t2, t3])] at HNX
                    have HNX := Lib.hid HNX
                    clear t0 t1 t2 t3
                    go_wp2_with fail
                    go_roundg (gk - 1)
                    case measure => have := HG.out; omega
                    case rel => exact ⟨k + 1, by go_num, by omega, by have := HG.out; omega, (HB3.out.alloc (by omega) _), by simp; omega, by rw [HNX.out]; exact (HM3.out.alloc _)⟩
                · have td2 : (vw == view) = false := by simpa using t2
                  have HNX := HST.out
                  rw [if_neg (by rw [HV.out]; simp [t0, t1, t2])] at HNX
                  have HNX := Lib.hid HNX
                  clear t0 t1 t2
                  go_wp2_with fail
                  go_roundg (gk - 1)
                  case measure => have := HG.out; omega
                  case rel => exact ⟨k + 1, by go_num, by omega, by have := HG.out; omega, (HB3.out.alloc (by omega) _), by simp; omega, by rw [HNX.out]; exact (HM3.out.alloc _)⟩
              · have td1 : (kd == kind) = false := by simpa using t1
                have HNX := HST.out
                rw [if_neg (by rw [HV.out]; simp [t0, t1])] at HNX
                have HNX := Lib.hid HNX
                clear t0 t1
                go_wp2_with fail
                go_roundg (gk - 1)
                case measure => have := HG.out; omega
                case rel => exact ⟨k + 1, by go_num, by omega, by have := HG.out; omega, (HB3.out.alloc (by omega) _), by simp; omega, by rw [HNX.out]; exact (HM3.out.alloc _)⟩
            · have td0 : (err == 0) = false := by simpa using t0
              have HNX := HST.out
              rw [if_neg (by rw [HV.out]; simp [t0])] at HNX
              have HNX := Lib.hid HNX
              clear t0
              go_wp2_with fail
              go_roundg (gk - 1)
              case measure => have := HG.out; omega
              case rel => exact ⟨k + 1, by go_num, by omega, by have := HG.out; omega, (HB3.out.alloc (by omega) _), by simp; omega, by rw [HNX.out]; exact (HM3.out.alloc _)⟩
    · have hd : decide ((k : Int) < (l.length : Int)) = false := by simp; omega
      have hlen := fun ty => HMM.out.len Try.underlying198 ty
      have HLN := Lib.hid (show (seenL (votersS S kind view seq digest below (l.take k) [])).length = (votersS S kind view seq digest below l []).length by rw [List.take_of_length_le (by omega)]; simp [seenL])
      rw [HLN.out] at hlen
      go_wp2
      go_ret
      exact ⟨rfl, HB.out⟩
    end Go.Proofs.Ytfgpchffkpomoaa

/- Chapter 3's examples: the walk. -/
namespace Go.Proofs.Ytfgpchffkpomoaa
set_option linter.unusedSimpArgs false
set_option linter.unusedVariables false
open Go.RowKit

def d1 : ByteArray := ⟨#[0, 0, 0, 0, 0, 0, 0, 1]⟩
def xText : ByteArray := ⟨#[120]⟩
def bd1 : Bd := ⟨3, 0, 1, 0, 0, d1, ⟨#[]⟩, []⟩
def by1 : ByteArray := ⟨#[3, 0, 1, 0, 0, 8, 0, 0, 0, 0, 0, 0, 0, 1, 0, 0]⟩
def sg1 : ByteArray := ⟨#[115, 0, 0, 0, 0, 0, 0, 0, 1]⟩
theorem ex3a : digS [] xText = (d1, [xText]) := by kernel_rfl
theorem ex3b : digS [xText] xText = (d1, [xText]) := by kernel_rfl
theorem ex3c : bytesE bd1 = (by1, 0) := by kernel_rfl
theorem ex3d : sealE [] 2 bd1 = ((⟨2, by1, sg1⟩, 0), [(2, by1)]) := by kernel_rfl
theorem ex3e : openE [(2, by1)] ⟨2, by1, sg1⟩ = (bd1, 0) := by kernel_rfl
theorem ex3f : openE [(2, by1)] ⟨3, by1, sg1⟩ = (zeroBd, 30) := by kernel_rfl
theorem ex3g : (votersS [(2, by1)] 3 0 1 d1 4 [⟨2, by1, sg1⟩, ⟨2, by1, sg1⟩] []).length = 1 := by kernel_rfl

theorem Sl.of_box {w : World} {k sz n c : Nat} {cs : Array Value} {T : TypeId} {xs : List Value} (h : Box w k cs T) (hx : cs.toList = xs) (hl : xs.length = n * sz) (hn : n ≤ 9223372036854775807) : Sl w sz (some ⟨k, 0, none⟩) n c xs :=
  ⟨hl, hn, fun j u hj => ⟨_, rfl, news_box h j u (by rw [hx]; exact hj)⟩⟩

/-- A call that changes one block of one's own, or what is new. -/
theorem below_ch {B k : Nat} {w0 w w' : World} (h : Below B w0 w) (hc : Ch w.heap.size (· = k) w w') (hk : B ≤ k) (hB : B ≤ w.heap.size) : Below B w0 w' := (HB5of h hc hB hk).below (fun _ _ h => h)
theorem Box.keep {w w' : World} {k j : Nat} {cs : Array Value} {T : TypeId} (h : Box w k cs T) (hc : Ch w.heap.size (· = j) w w') (hj : k ≠ j) : Box w' k cs T := h.ch hc h.lt hj

set_option maxRecDepth 100000 in
theorem prepare_calls (seq : Int) (d : ByteArray) (w : World) : Calls Try.prog 111 #[.int .i64 seq, .string d] w fun e w' => e = .returned (Bd.val ⟨3, 0, seq, 0, 0, d, ⟨#[]⟩, []⟩ none 0) ∧ Below w.heap.size w w' := by
  go_enter Try.func111, Try.ntmps111
  go_wp2
  refine bodyPost_ret (v := Bd.val ⟨3, 0, seq, 0, 0, d, ⟨#[]⟩, []⟩ none 0) (by simp [results, Try.results111, go_sem]) rfl ?_
  exact ⟨rfl, (Below.refl _ _).alloc (Nat.le_refl _) _⟩

set_option maxHeartbeats 1000000 in
set_option maxRecDepth 100000 in
theorem awake3_calls (w : World) : Calls Try.prog 50 #[] w (BoolPost true w) := by
  have H0 := Lib.hid (fun w => newBook_calls w)
  unfold NewPost at H0
  go_enter Try.func50, Try.ntmps50
  go_wp2_with fail
  refine (H0.out _).mono ?_
  rintro e w1 ⟨b, t, m, n, rfl, hb1, hk1, g1, g2, g3, g4⟩
  have HB1 := Lib.hid hb1
  have HK1 := Lib.hid hk1
  have hz1 := hb1.size
  clear hb1 hk1
  have HD := Lib.hid (fun T w hb (hT : T.length ≤ 1000000000) => digest_calls b t m n T [] xText w hb hT (by decide))
  unfold TextPost at HD
  go_wp2_with fail
  refine (HD.out [] _ HK1.out (by decide)).mono ?_
  rw [ex3a]
  rintro e w2 ⟨rfl, hc2, hk2⟩
  have HB2 := Lib.hid (below_ch HB1.out hc2 g3 hz1)
  have HK2 := Lib.hid hk2
  clear hc2 hk2
  go_wp2_with fail
  refine (HD.out [xText] _ HK2.out (by decide)).mono ?_
  rw [ex3b]
  rintro e w3 ⟨rfl, hc3, hk3⟩
  have HB3 := Lib.hid (below_ch HB2.out hc3 g3 HB2.out.size)
  have HK3 := Lib.hid hk3
  clear hc3 hk3
  go_wp2_with fail
  refine (prepare_calls _ _ _).mono ?_
  rintro e w4 ⟨rfl, hb4⟩
  have HB4 := Lib.hid (HB3.out.trans (hb4.mono HB3.out.size))
  have HK4 := Lib.hid (HK3.out.below hb4)
  clear hb4
  have HS := Lib.hid (fun w hb => seal_calls b t m n [xText] [] 2 bd1 none 0 w hb (by decide) ⟨rfl, by decide, fun j u h => by simp [bd1] at h⟩)
  rw [ex3d] at HS
  unfold SealPost at HS
  unfold bd1 Bd.val Bd.cells at HS
  simp only at HS
  go_wp2_with fail
  refine (HS.out _ HK4.out).mono ?_
  rintro e w5 ⟨rfl, hc5, hk5⟩
  have HB5 := Lib.hid (below_ch HB4.out hc5 g4 HB4.out.size)
  have HK5 := Lib.hid hk5
  clear hc5 hk5
  have HO := Lib.hid (fun w hb => open_calls b t m n [xText] [(2, by1)] ⟨2, by1, sg1⟩ w hb (by decide) (by decide))
  rw [ex3e] at HO
  unfold BodyErr at HO
  have HO2 := Lib.hid (fun w hb => open_calls b t m n [xText] [(2, by1)] ⟨3, by1, sg1⟩ w hb (by decide) (by decide))
  rw [ex3f] at HO2
  unfold BodyErr at HO2
  unfold bd1 zeroBd Bd.val Bd.cells Sg.val at *
  simp only at HO HO2
  go_wp2_with fail
  refine (HO.out _ (HK5.out.alloc _)).mono ?_
  rintro e w6 ⟨A6, c6, rfl, hb6, ho6⟩
  have hx6 := (Box.new w5 #[.int .i64 2, .string by1, .string sg1] 61).call hb6
  have HB6 := Lib.hid ((HB5.out.alloc HB5.out.size _).trans (hb6.mono (by have := HB5.out.size; simp; omega)))
  have HK6 := Lib.hid ((HK5.out.alloc _).below hb6)
  have HX6 := Lib.hid hx6
  have hz6 : w5.heap.size < w6.heap.size := hx6.lt
  clear hb6 ho6
  obtain ⟨p0, p1, p2, pf0, _⟩ := hx6.facts3
  clear hx6
  have HQ := Lib.hid (fun w hb A c hs => quorum_calls b t m n [xText] [(2, by1)] A c [⟨2, by1, sg1⟩, ⟨2, by1, sg1⟩] 3 0 1 d1 4 w hb (by decide) hs (by intro x hx; simp at hx; subst hx; exact ⟨by decide, by decide, by decide⟩))
  rw [ex3g] at HQ
  unfold IntAny at HQ
  have HK7 := Lib.hid ((HK6.out.alloc (.cells #[.int .i64 3, .int .i64 0, .int .i64 1, .int .i64 0, .int .i64 0, .string d1, .string ⟨#[]⟩, .slice A6 0 c6] 59)).alloc (.cells #[.int .i64 2, .string by1, .string sg1, .int .i64 2, .string by1, .string sg1] 61))
  have HS7 := Lib.hid (show SgS ((w6.alloc (.cells #[.int .i64 3, .int .i64 0, .int .i64 1, .int .i64 0, .int .i64 0, .string d1, .string ⟨#[]⟩, .slice A6 0 c6] 59)).alloc (.cells #[.int .i64 2, .string by1, .string sg1, .int .i64 2, .string by1, .string sg1] 61)) (some ⟨w6.heap.size + 1, 0, none⟩) 2 [⟨2, by1, sg1⟩, ⟨2, by1, sg1⟩] by
    have h := Box.new (w6.alloc (.cells #[.int .i64 3, .int .i64 0, .int .i64 1, .int .i64 0, .int .i64 0, .string d1, .string ⟨#[]⟩, .slice A6 0 c6] 59)) #[.int .i64 2, .string by1, .string sg1, .int .i64 2, .string by1, .string sg1] 61
    simp only [World.size_alloc] at h
    exact Sl.of_box h rfl rfl (by decide))
  have HB7 := Lib.hid ((HB6.out.alloc HB6.out.size (.cells #[.int .i64 3, .int .i64 0, .int .i64 1, .int .i64 0, .int .i64 0, .string d1, .string ⟨#[]⟩, .slice A6 0 c6] 59)).alloc (by have := HB6.out.size; simp; omega) (.cells #[.int .i64 2, .string by1, .string sg1, .int .i64 2, .string by1, .string sg1] 61))
  have HX7 := Lib.hid ((HX6.out.alloc (.cells #[.int .i64 3, .int .i64 0, .int .i64 1, .int .i64 0, .int .i64 0, .string d1, .string ⟨#[]⟩, .slice A6 0 c6] 59)).alloc (.cells #[.int .i64 2, .string by1, .string sg1, .int .i64 2, .string by1, .string sg1] 61))
  have HY7 := Lib.hid ((Box.new w6 #[.int .i64 3, .int .i64 0, .int .i64 1, .int .i64 0, .int .i64 0, .string d1, .string ⟨#[]⟩, .slice A6 0 c6] 59).alloc (.cells #[.int .i64 2, .string by1, .string sg1, .int .i64 2, .string by1, .string sg1] 61))
  go_wp2_with fail
  refine (HQ.out _ HK7.out _ 2 HS7.out).mono ?_
  rintro e w8 ⟨rfl, hb8⟩
  have HK8 := Lib.hid (HK7.out.below hb8)
  have HB8 := Lib.hid (HB7.out.trans (hb8.mono HB7.out.size))
  have hx8 := HX7.out.call hb8
  have HX8 := Lib.hid hx8
  have HY8 := Lib.hid (HY7.out.call hb8)
  have hz8 := HY8.out.lt
  clear hb8 p0 p1 p2 pf0
  have HFAR := Lib.hid (HK5.out.far (k := w5.heap.size) (Nat.le_refl _))
  obtain ⟨p0, p1, p2, pf0, _⟩ := hx8.facts3
  have HX9 := Lib.hid (by have h := HX8.out.set 0 (.int .i64 3); simpa using h : Box (w8.setCell ⟨w5.heap.size, 0, none⟩ (.int .i64 3)) w5.heap.size #[.int .i64 3, .string by1, .string sg1] 61)
  have HK9 := Lib.hid (HK8.out.setCell (p := ⟨w5.heap.size, 0, none⟩) HFAR.out (.int .i64 3))
  have HB9 := Lib.hid (HB8.out.setCell (p := ⟨w5.heap.size, 0, none⟩) HB5.out.size (.int .i64 3))
  have HY9 := Lib.hid (HY8.out.other (a := ⟨w5.heap.size, 0, none⟩) (by simp only; omega) (.int .i64 3))
  clear hx8
  go_wp2_with fail
  refine (HO2.out _ HK9.out).mono ?_
  rintro e w10 ⟨A10, c10, rfl, hb10, ho10⟩
  have HB10 := Lib.hid (HB9.out.trans (hb10.mono HB9.out.size))
  have hy10 := HY9.out.call hb10
  clear hb10 ho10
  have y2 := hy10.cell 2
  simp at y2
  have hlt := hy10.lt
  clear hy10
  have hdd : (d1.toList == [0, 0, 0, 0, 0, 0, 0, 1]) = true := by kernel_rfl
  go_wp2
  go_ret
  exact ⟨rfl, HB10.out.alloc HB10.out.size _⟩
end Go.Proofs.Ytfgpchffkpomoaa

/- Arguments, opened: a message, a list of messages, a body. -/
namespace Go.Proofs.Ytfgpchffkpomoaa
set_option linter.unusedSimpArgs false
set_option linter.unusedVariables false
open Go.ChangeShapes Go.WideShapes Go.RowKit

theorem laidOut : laidOutB Try.prog = true := by kernel_rfl
theorem ownGodebug : ownKnob Try.prog.godebug = none := by kernel_rfl

theorem list_of {α : Type} (Q : Nat → α → Prop) : ∀ n, (∀ i, i < n → ∃ x, Q i x) → ∃ l : List α, l.length = n ∧ ∀ i (hi : i < l.length), Q i l[i]
  | 0, _ => ⟨[], rfl, fun i hi => by simp at hi⟩
  | n + 1, h => by
    obtain ⟨l, hl, hq⟩ := list_of Q n (fun i hi => h i (by omega))
    obtain ⟨x, hx⟩ := h n (by omega)
    refine ⟨l ++ [x], by simp [hl], fun i hi => ?_⟩
    by_cases hlt : i < l.length
    · rw [List.getElem_append_left hlt]; exact hq i hlt
    · have : i = n := by simp at hi; omega
      subst this
      rw [List.getElem_append_right (by omega)]
      simpa [hl] using hx

/-- No text or list in it takes more than a process can hold. -/
def Wt {H : Type} (P : Program) (t : TypeId) (d : DataW H) : Prop := ∀ n ∈ d.weights P t, n ≤ reachBytes

section
variable {H : Type} {enc : TypeId × Value → H} {P : Program} {w : World} {base : Nat} {spare : Nat → Bool} {held : Bool}
theorem Wt.each {ts : List TypeId} {ds : List (DataW H)} (h : ∀ n ∈ DataW.weightsEach P ts ds, n ≤ reachBytes) {j : Nat} {t : TypeId} {d : DataW H} (ht : ts[j]? = some t) (hd : ds[j]? = some d) : Wt P t d :=
  fun n hn => h n (DataW.weights_mem_each ht hd n hn)
theorem Wt.all {t : TypeId} : ∀ {ds : List (DataW H)}, (∀ n ∈ DataW.weightsAll P t ds, n ≤ reachBytes) → ∀ d ∈ ds, Wt P t d
  | [], _, d, hd => by simp at hd
  | e :: ds, h, d, hd => by
    simp only [DataW.weightsAll, List.mem_append] at h
    rcases List.mem_cons.1 hd with rfl | hd
    · exact fun n hn => h n (.inl hn)
    · exact Wt.all (fun n hn => h n (.inr hn)) d hd

/-- What each field of a struct of one-cell fields reads as. -/
theorem fields_of {t : TypeId} {fs : Array Field} {fuel : Nat} {cs : List Value} {x : DataW H × List MemPlace} (ht : P.underlying t = some (.struct fs)) (hone : Go.Deep.oneCellFields P fs = true)
    (h : DataW.trod enc P w base spare held fuel t cs = some x) (hw : Wt P t x.1) : ∃ n, ∀ (j : Nat) (f : Field), fs[j]? = some f → ∀ v, cs[j]? = some v → ∃ y, DataW.trod enc P w base spare held n f.type [v] = some y ∧ Wt P f.type y.1 := by
  obtain ⟨ys, n, _, hx, _, hl, hf⟩ := DataW.trod_struct ht h
  refine ⟨n, fun j f hj v hv => ?_⟩
  obtain ⟨ho, hk⟩ := Go.Deep.hone_of hone j f hj
  have hjl : j < fs.size := (Array.getElem?_eq_some_iff.1 hj).1
  have h1 := hf j f hj
  obtain ⟨hc, rfl⟩ := List.getElem?_eq_some_iff.1 hv
  rw [ho, hk, List.drop_eq_getElem_cons hc] at h1
  refine ⟨ys[j]'(by omega), h1.trans (List.getElem?_eq_getElem _), ?_⟩
  subst hx
  unfold Wt at hw
  simp only [DataW.weights, ht] at hw
  exact Wt.each (j := j) hw (by simpa using ⟨f, hj, rfl⟩) (by rw [List.getElem?_map, List.getElem?_eq_getElem (by omega)]; rfl)
theorem slice_weights {t e : TypeId} {xs ys : List (DataW H)} (ht : P.underlying t = some (.slice e)) (hw : Wt P t (.slice xs ys)) : (xs.length + ys.length) * P.bytesOf e ≤ reachBytes ∧ ∀ d ∈ xs, Wt P e d := by
  unfold Wt at hw
  simp only [DataW.weights, ht] at hw
  exact ⟨hw _ (by simp), Wt.all fun n hn => hw n (by simp [hn])⟩
end

section
variable {H : Type} {enc : TypeId × Value → H} {w : World} {base : Nat} {spare : Nat → Bool} {held : Bool}
theorem one_int {t : TypeId} {fuel : Nat} {v : Value} {y : DataW H × List MemPlace} (ht : Try.prog.underlying t = some (.int .i64)) (h : DataW.trod enc Try.prog w base spare held fuel t [v] = some y) : ∃ n : Int, v = .int .i64 n ∧ -9223372036854775808 ≤ n ∧ n ≤ 9223372036854775807 := by
  obtain ⟨n, hv, _, hw⟩ := DataW.trod_int ht h
  simp only [List.cons.injEq, and_true] at hv
  refine ⟨n, hv, ?_⟩
  have hw : (decide (IntKind.i64.min ≤ n) && decide (n ≤ IntKind.i64.max)) = true := hw
  rw [show IntKind.i64.min = -9223372036854775808 by decide, show IntKind.i64.max = 9223372036854775807 by decide] at hw
  simpa using hw
theorem one_text {t : TypeId} {fuel : Nat} {v : Value} {y : DataW H × List MemPlace} (ht : Try.prog.underlying t = some .string) (h : DataW.trod enc Try.prog w base spare held fuel t [v] = some y) (hy : Wt Try.prog t y.1) : ∃ s : ByteArray, v = .string s ∧ s.size ≤ 140737488351232 := by
  obtain ⟨n, hv, rfl, hw⟩ := DataW.trod_string ht h
  simp only [List.cons.injEq, and_true] at hv
  exact ⟨n, hv, by have h := hy n.data.toList.length (by simp [DataW.weights]); rw [show reachBytes = 140737488351232 from rfl] at h; simpa using h⟩

structure Sg.Ok (m : Sg) : Prop where
  lo : -9223372036854775808 ≤ m.who
  hi : m.who ≤ 9223372036854775807
  body : m.body.size ≤ 140737488351232
  sig : m.sig.size ≤ 140737488351232

theorem open_sg {fuel : Nat} {cs : List Value} {x : DataW H × List MemPlace} (h : DataW.trod enc Try.prog w base spare held fuel 61 cs = some x) (hw : Wt Try.prog 61 x.1) (hl : cs.length = 3) : ∃ m : Sg, cs = m.cells ∧ m.Ok := by
  obtain ⟨n, hf⟩ := fields_of Try.underlying61 (by kernel_rfl) h hw
  match cs, hl with
  | [a, b, c], _ =>
    obtain ⟨y0, h0, w0⟩ := hf 0 _ rfl a rfl
    obtain ⟨y1, h1, w1⟩ := hf 1 _ rfl b rfl
    obtain ⟨y2, h2, w2⟩ := hf 2 _ rfl c rfl
    obtain ⟨n, rfl, a1, a2⟩ := one_int Try.underlying3 h0
    obtain ⟨s, rfl, b1⟩ := one_text Try.underlying9 h1 w1
    obtain ⟨t, rfl, c1⟩ := one_text Try.underlying9 h2 w2
    exact ⟨⟨n, s, t⟩, rfl, ⟨a1, a2, b1, c1⟩⟩

theorem at_flat {α : Type} (f : α → List Value) (sz : Nat) (hsz : 0 < sz) (hf : ∀ x, (f x).length = sz) {l : List α} {w : World} {a : Addr}
    (h : ∀ i (hi : i < l.length), ∀ j, j < sz → w.cell? (a.add (i * sz + j)) = (f l[i])[j]?) : ∀ j u, (l.flatMap f)[j]? = some u → ∃ b, some a = some b ∧ w.cell? (b.add j) = some u := by
  intro j u hj
  have hlt : j < (l.flatMap f).length := (List.getElem?_eq_some_iff.1 hj).1
  rw [flat_len f sz hf] at hlt
  have hk : j / sz < l.length := Nat.div_lt_of_lt_mul (by rw [Nat.mul_comm]; exact hlt)
  have hr := Nat.mod_lt j hsz
  have e : j / sz * sz + j % sz = j := by rw [Nat.mul_comm]; exact Nat.div_add_mod j sz
  have h1 := h (j / sz) hk (j % sz) hr
  rw [e] at h1
  refine ⟨a, rfl, h1.trans ?_⟩
  rw [← flat_get f sz hf l (j / sz) (j % sz) hk hr, e, hj]

/-- A slice, its elements of sz cells each, opened. -/
theorem open_row {α : Type} {t e : TypeId} {fuel : Nat} {v : Value} {x : DataW H × List MemPlace} (f : α → List Value) (sz bytes : Nat) (Q : α → Prop) (hsz : 0 < sz) (hb : 0 < bytes) (hf : ∀ x, (f x).length = sz)
    (ht : Try.prog.underlying t = some (.slice e)) (hC : Try.prog.cellsOf e = sz) (hB : Try.prog.bytesOf e = bytes)
    (ho : ∀ (n : Nat) (cs : List Value) (y : DataW H × List MemPlace), DataW.trod enc Try.prog w base spare held n e cs = some y → Wt Try.prog e y.1 → cs.length = sz → ∃ m : α, cs = f m ∧ Q m)
    (h : DataW.trod enc Try.prog w base spare held fuel t [v] = some x) (hw : Wt Try.prog t x.1) :
    ∃ (A : Option Addr) (c : Nat) (l : List α), v = .slice A l.length c ∧ Sl w sz A l.length c (l.flatMap f) ∧ (∀ m ∈ l, Q m) ∧ l.length * bytes ≤ 140737488351232 := by
  rcases Go.Deep.open_slice ht h with ⟨hv, _⟩ | ⟨a, len, cap, m, n, D, Pl, hv, _, hl, hm, hmm, rfl, hi⟩
  · simp only [List.cons.injEq, and_true] at hv
    exact ⟨none, 0, [], hv, ⟨by simp, by simp, fun j u hj => by simp at hj⟩, fun m hm => by simp at hm, by simp⟩
  · simp only [List.cons.injEq, and_true] at hv
    obtain ⟨hw1, hw2⟩ := slice_weights ht hw
    rw [hC] at hi
    rw [hB] at hw1
    have hlm : len ≤ m := by rw [hmm]; split <;> omega
    obtain ⟨l, hll, hq⟩ := list_of (fun i (g : α) => (∀ j, j < sz → w.cell? (a.add (i * sz + j)) = (f g)[j]?) ∧ Q g) len (fun i hil => by
      obtain ⟨cs, hc, ht⟩ := hi i (by omega)
      obtain ⟨_, hcl, hat⟩ := World.cells?_some hc
      obtain ⟨g, rfl, hok⟩ := ho _ _ _ ht (hw2 (D i) (List.mem_map.2 ⟨i, List.mem_range.2 hil, rfl⟩)) hcl
      exact ⟨g, fun j hj => by rw [← Go.Deep.add_add]; exact hat j hj, hok⟩)
    refine ⟨some a, cap, l, by rw [hll]; exact hv, ⟨flat_len f sz hf l, ?_, at_flat f sz hsz hf (fun i hi => (hq i hi).1)⟩, fun m hm => ?_, ?_⟩
    · simp only [maxLen] at hm; omega
    · obtain ⟨i, hi, rfl⟩ := List.getElem_of_mem hm
      exact (hq i hi).2
    · simp only [List.length_map, List.length_range] at hw1
      refine Nat.le_trans ?_ hw1
      rw [hll]
      exact Nat.mul_le_mul_right _ (by omega)

theorem open_sgs {fuel : Nat} {v : Value} {x : DataW H × List MemPlace} (h : DataW.trod enc Try.prog w base spare held fuel 57 [v] = some x) (hw : Wt Try.prog 57 x.1) :
    ∃ A c l, v = .slice A l.length c ∧ SgS w A c l ∧ (∀ m ∈ l, m.Ok) ∧ l.length * 40 ≤ 140737488351232 :=
  open_row Sg.cells 3 40 Sg.Ok (by decide) (by decide) Sg.cells_len Try.underlying57 (by kernel_rfl) (by kernel_rfl) (fun _ _ _ h1 h2 h3 => open_sg h1 h2 h3) h hw

structure Bd.Ok (b : Bd) : Prop where
  kind : -9223372036854775808 ≤ b.kind ∧ b.kind ≤ 9223372036854775807
  view : -9223372036854775808 ≤ b.view ∧ b.view ≤ 9223372036854775807
  seq : -9223372036854775808 ≤ b.seq ∧ b.seq ≤ 9223372036854775807
  client : -9223372036854775808 ≤ b.client ∧ b.client ≤ 9223372036854775807
  stamp : -9223372036854775808 ≤ b.stamp ∧ b.stamp ≤ 9223372036854775807
  digest : b.digest.size ≤ 140737488351232
  text : b.text.size ≤ 140737488351232
  list : ∀ m ∈ b.list, m.Ok
  length : b.list.length * 40 ≤ 140737488351232

set_option maxRecDepth 100000 in
theorem open_body {r : Reach} {b0 : Nat} {v : Value} {d : DataW H} {p : List MemPlace} (hv : Value.okWide Try.prog w r b0 59 v) (h : DataW.Trod enc Try.prog w base spare held 59 v d p) (hw : Wt Try.prog 59 d) :
    ∃ b A c, v = Bd.val b A c ∧ SgS w A c b.list ∧ b.Ok := by
  obtain ⟨cs, rfl, hsz⟩ := okWide_struct Try.underlying59 hv
  rw [show Try.prog.cellsOf 59 = 8 by kernel_rfl] at hsz
  obtain ⟨fuel, hf⟩ := h
  obtain ⟨l⟩ := cs
  match l, hsz with
  | [c0, c1, c2, c3, c4, c5, c6, c7], _ =>
    obtain ⟨n, hg⟩ := fields_of Try.underlying59 (by kernel_rfl) hf hw
    obtain ⟨y0, h0, w0⟩ := hg 0 _ rfl c0 rfl
    obtain ⟨y1, h1, w1⟩ := hg 1 _ rfl c1 rfl
    obtain ⟨y2, h2, w2⟩ := hg 2 _ rfl c2 rfl
    obtain ⟨y3, h3, w3⟩ := hg 3 _ rfl c3 rfl
    obtain ⟨y4, h4, w4⟩ := hg 4 _ rfl c4 rfl
    obtain ⟨y5, h5, w5⟩ := hg 5 _ rfl c5 rfl
    obtain ⟨y6, h6, w6⟩ := hg 6 _ rfl c6 rfl
    obtain ⟨y7, h7, w7⟩ := hg 7 _ rfl c7 rfl
    obtain ⟨n0, rfl, a0⟩ := one_int Try.underlying3 h0
    obtain ⟨n1, rfl, a1⟩ := one_int Try.underlying3 h1
    obtain ⟨n2, rfl, a2⟩ := one_int Try.underlying3 h2
    obtain ⟨n3, rfl, a3⟩ := one_int Try.underlying3 h3
    obtain ⟨n4, rfl, a4⟩ := one_int Try.underlying3 h4
    obtain ⟨s5, rfl, a5⟩ := one_text Try.underlying9 h5 w5
    obtain ⟨s6, rfl, a6⟩ := one_text Try.underlying9 h6 w6
    obtain ⟨A, c, l, rfl, hs, hl, hb⟩ := open_sgs h7 w7
    exact ⟨⟨n0, n1, n2, n3, n4, s5, s6, l⟩, A, c, rfl, hs, ⟨a0, a1, a2, a3, a4, a5, a6, hl, hb⟩⟩

set_option maxRecDepth 100000 in
theorem open_text {r : Reach} {b0 : Nat} {v : Value} {d : DataW H} {p : List MemPlace} (hv : Value.okWide Try.prog w r b0 9 v) (h : DataW.Trod enc Try.prog w base spare held 9 v d p) (hw : Wt Try.prog 9 d) : ∃ s : ByteArray, v = .string s ∧ s.size ≤ 140737488351232 := by
  obtain ⟨s, rfl, rfl, rfl, _⟩ := Go.ChangeMaps.open_string Try.underlying9 hv h
  exact ⟨s, rfl, by have h := hw s.data.toList.length (by simp [DataW.weights]); rw [show reachBytes = 140737488351232 from rfl] at h; simpa using h⟩
set_option maxRecDepth 100000 in
theorem open_int1 {r : Reach} {b0 : Nat} {v : Value} {d : DataW H} {p : List MemPlace} (hv : Value.okWide Try.prog w r b0 3 v) (h : DataW.Trod enc Try.prog w base spare held 3 v d p) (_hw : Wt Try.prog 3 d) : ∃ n : Int, v = .int .i64 n ∧ -9223372036854775808 ≤ n ∧ n ≤ 9223372036854775807 := by
  obtain ⟨n, rfl, _, _, _⟩ := open_int Try.underlying3 hv h
  obtain ⟨fuel, hf⟩ := h
  obtain ⟨m, he, hm⟩ := one_int Try.underlying3 hf
  obtain rfl : n = m := by simpa using he
  exact ⟨n, rfl, hm⟩
set_option maxRecDepth 100000 in
theorem open_sg1 {r : Reach} {b0 : Nat} {v : Value} {d : DataW H} {p : List MemPlace} (hv : Value.okWide Try.prog w r b0 61 v) (h : DataW.Trod enc Try.prog w base spare held 61 v d p) (hw : Wt Try.prog 61 d) : ∃ m : Sg, v = m.val ∧ m.Ok := by
  obtain ⟨cs, rfl, hsz⟩ := okWide_struct Try.underlying61 hv
  rw [show Try.prog.cellsOf 61 = 3 by kernel_rfl] at hsz
  obtain ⟨fuel, hf⟩ := h
  obtain ⟨m, hm, ho⟩ := open_sg hf hw (by simpa [Value.cells] using hsz)
  obtain rfl : cs = m.cells.toArray := by simp only [Value.cells] at hm; rw [← hm]
  exact ⟨m, rfl, ho⟩
set_option maxRecDepth 100000 in
theorem open_sgs1 {r : Reach} {b0 : Nat} {v : Value} {d : DataW H} {p : List MemPlace} (hv : Value.okWide Try.prog w r b0 57 v) (h : DataW.Trod enc Try.prog w base spare held 57 v d p) (hw : Wt Try.prog 57 d) :
    ∃ A c l, v = .slice A l.length c ∧ SgS w A c l ∧ (∀ m ∈ l, m.Ok) ∧ l.length * 40 ≤ 140737488351232 := by
  obtain ⟨a, len, cap, rfl⟩ := okWide_slice Try.underlying57 hv
  obtain ⟨fuel, hf⟩ := h
  exact open_sgs hf hw
end
end Go.Proofs.Ytfgpchffkpomoaa
