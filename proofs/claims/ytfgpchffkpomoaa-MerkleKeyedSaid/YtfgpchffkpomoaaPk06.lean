/- Texts of this proof, several in one file; each says ahead of it what it proves. -/
import Derived.Test.YtfgpchffkpomoaaPk05
import Derived.Deep.RegionHeld3
import Derived.Deep.CutBlock
/- Which bodies may be, by the program: Right. -/
namespace Go.Proofs.Ytfgpchffkpomoaa
set_option linter.unusedSimpArgs false
set_option linter.unusedVariables false
open Go.RowKit

/-- What a body's fields must be, by its kind's rule. -/
def partA (b : Bd) : Bool := decide (0 ≤ b.view ∧ b.view ≤ 1048576) && (decide (0 ≤ b.seq ∧ b.seq ≤ 1073741824) && (decide (0 ≤ b.client ∧ b.client ≤ 15) && decide (0 ≤ b.stamp ∧ b.stamp ≤ 1099511627776)))
def partBr (b : Bd) (r : Rule) (m : Nat) : Bool := decide (b.digest.size ≤ 32) && (decide (b.text.size ≤ r.text) && (decide (b.list.length ≤ r.list) && (decide (bits .andNot .i64 m r.may = 0) && (decide (bits .and .i64 m r.must = r.must) && fitAllB b.list))))
def partB (b : Bd) : Bool := partBr b (rules b.kind) b.mask
def partC (b : Bd) : Bool := if b.kind = 5 ∨ b.kind = 6 ∨ b.kind = 9 ∨ b.kind = 13 then decide (Int.tmod b.seq 4 = 0) else if b.kind = 8 then decide (b.client ≤ 1) else true
def rightE (b : Bd) : Int := if b.kind < 1 ∨ 13 < b.kind then 13 else if (partA b && partB b && partC b) = true then 0 else 14

def IntPost (n : Int) (w : World) (e : Ending) (w' : World) : Prop := e = .returned (.int .i64 n) ∧ Below w.heap.size w w'

theorem right_low (b : Bd) (A : Option Addr) (c : Nat) (w : World) (h : b.kind < 1 ∨ 13 < b.kind) : Calls Try.prog 161 #[b.val A c] w (IntPost 13 w) := by
  obtain ⟨kind, view, seq, client, stamp, digest, tx, list⟩ := b
  unfold Bd.val Bd.cells
  simp only at *
  by_cases h1 : kind < 1
  · have hd : decide (kind < 1) = true := by simp; omega
    go_enter Try.func161, Try.ntmps161
    go_wp2
    go_ret
    exact ⟨rfl, (Below.refl _ _).alloc (Nat.le_refl _) _⟩
  · have hd : decide (kind < 1) = false := by simp; omega
    have hd2 : decide (13 < kind) = true := by simp; omega
    go_enter Try.func161, Try.ntmps161
    go_wp2
    go_ret
    exact ⟨rfl, (Below.refl _ _).alloc (Nat.le_refl _) _⟩

theorem boxS {w : World} {k : Nat} {T : TypeId} {a b c d e f g h : Value} (hb : Box w k #[a, b, c, d, e, f, g, h] T) : w.cell? ⟨k, 0, none⟩ = some a ∧ w.cell? ⟨k, 1, none⟩ = some b ∧ w.cell? ⟨k, 2, none⟩ = some c ∧ w.cell? ⟨k, 3, none⟩ = some d ∧
    w.cell? ⟨k, 4, none⟩ = some e ∧ w.cell? ⟨k, 5, none⟩ = some f ∧ w.cell? ⟨k, 6, none⟩ = some g ∧ w.cell? ⟨k, 7, none⟩ = some h :=
  ⟨hb.cell 0, hb.cell 1, hb.cell 2, hb.cell 3, hb.cell 4, hb.cell 5, hb.cell 6, hb.cell 7⟩

/-- Nothing below B has changed, and a box is as it was. -/
structure St (B : Nat) (w0 : World) (k : Nat) (cs : Array Value) (T : TypeId) (w : World) : Prop where
  b : Below B w0 w
  x : Box w k cs T
theorem St.drew {B k : Nat} {w0 w : World} {cs : Array Value} {T : TypeId} (h : St B w0 k cs T w) : St B w0 k cs T w.drew := ⟨h.b.drew, h.x⟩
theorem St.drewN {B k : Nat} {w0 w : World} {cs : Array Value} {T : TypeId} (h : St B w0 k cs T w) (n : Nat) : St B w0 k cs T (w.drewN n) := ⟨⟨h.b.1, h.b.2, h.b.3, h.b.4, h.b.5⟩, h.x⟩
theorem St.alloc {B k : Nat} {w0 w : World} {cs : Array Value} {T : TypeId} (h : St B w0 k cs T w) (hB : B ≤ k) (o : Obj) : St B w0 k cs T (w.alloc o) := ⟨h.b.alloc (by have := h.x.lt; omega) o, h.x.alloc o⟩
theorem St.call {B k : Nat} {w0 w w1 : World} {cs : Array Value} {T : TypeId} (h : St B w0 k cs T w) (hB : B ≤ k) (hc : Below w.heap.size w w1) : St B w0 k cs T w1 :=
  ⟨h.b.trans (hc.mono (by have := h.x.lt; omega)), h.x.ch (Ch.of_below (S := fun _ => False) hc) h.x.lt (fun h => h)⟩
theorem St.other {B k : Nat} {w0 w : World} {cs : Array Value} {T : TypeId} (h : St B w0 k cs T w) {a : Addr} (ha : B ≤ a.block) (hk : a.block ≠ k) (v : Value) : St B w0 k cs T (w.setCell a v) := ⟨h.b.setCell ha v, h.x.other hk v⟩
theorem box_fill4 {w : World} {k : Nat} {T : TypeId} {a b c d x y z t : Value} (h : Box w k #[a, b, c, d] T) : Box ((((w.setCell ⟨k, 0, none⟩ x).setCell ⟨k, 1, none⟩ y).setCell ⟨k, 2, none⟩ z).setCell ⟨k, 3, none⟩ t) k #[x, y, z, t] T := by
  have h := (((h.set 0 x).set 1 y).set 2 z).set 3 t
  simpa using h
theorem bx_call {W w1 : World} {cs : Array Value} {T : TypeId} (hc : Below (W.alloc (.cells cs T)).heap.size (W.alloc (.cells cs T)) w1) : Box w1 W.heap.size cs T :=
  (Box.new W cs T).ch (Ch.of_below (S := fun _ => False) hc) (by simp) (fun h => h)
theorem bx_call_drew {W w1 : World} {cs : Array Value} {T : TypeId} (hc : Below (W.alloc (.cells cs T)).drew.heap.size (W.alloc (.cells cs T)).drew w1) : Box w1 W.heap.size cs T :=
  (Box.new W cs T).drew.ch (Ch.of_below (S := fun _ => False) hc) (by simp) (fun h => h)
theorem Box.call {w w1 : World} {k : Nat} {cs : Array Value} {T : TypeId} (h : Box w k cs T) (hc : Below w.heap.size w w1) : Box w1 k cs T :=
  h.ch (Ch.of_below (S := fun _ => False) hc) h.lt (fun h => h)

set_option maxHeartbeats 1000000 in
set_option maxRecDepth 100000 in
theorem right_high (b : Bd) (A : Option Addr) (c : Nat) (w : World) (h1 : 1 ≤ b.kind) (h2 : b.kind ≤ 13) (hs : SgS w A c b.list) : Calls Try.prog 161 #[b.val A c] w (IntPost (rightE b) w) := by
  have HR := Lib.hid (rules_calls b.kind h1 h2)
  have HH := Lib.hid (has_calls b A c)
  have hfit := hs.fits
  have HS := Lib.hid hs
  have hd : decide (b.kind < 1) = false := by simp; omega
  have hd2 : decide (13 < b.kind) = false := by simp; omega
  obtain ⟨r, hr⟩ : ∃ r, r = rules b.kind := ⟨_, rfl⟩
  rw [← hr] at HR
  unfold Rule.val at HR
  have HRR := Lib.hid hr
  obtain ⟨m, hm⟩ : ∃ m, m = b.mask := ⟨_, rfl⟩
  rw [← hm] at HH
  have HM := Lib.hid hm
  clear hs hr hm
  have HBX := Lib.hid (Box.new w (b.cells A c) 59)
  have HA := Lib.hid ((Below.refl w.heap.size w).alloc (Nat.le_refl _) (.cells (b.cells A c) 59))
  obtain ⟨W, hW⟩ : ∃ W, W = w.alloc (.cells (b.cells A c) 59) := ⟨_, rfl⟩
  have hsz : w.heap.size < W.heap.size := by rw [hW]; simp
  rw [← hW] at HBX HA
  have HWW := Lib.hid hW
  clear hW
  obtain ⟨kind, view, seq, client, stamp, digest, tx, list⟩ := b
  unfold Bd.val Bd.cells at *
  simp only at *
  go_enter Try.func161, Try.ntmps161
  go_wp2_with fail
  rw [← HWW.out]
  have HS0 := Lib.hid (St.mk HA.out HBX.out)
  go_cut [3, 4] (fun s3 s4 wx => ∃ g, s3 = .pointer (some ⟨g, 0, none⟩) ∧ s4 = .int .i64 m ∧ Hid (St w.heap.size w w.heap.size #[.int .i64 kind, .int .i64 view, .int .i64 seq, .int .i64 client, .int .i64 stamp, .string digest, .string tx, .slice A list.length c] 59 wx ∧ Box wx g #[.int .i64 r.may, .int .i64 r.must, .int .i64 r.list, .int .i64 r.text] 258))
  case first =>
    go_region_held3 (fun w' => w'.cell? ⟨w.heap.size, 0, none⟩ = some (.int .i64 kind) ∧ w'.cell? ⟨w.heap.size, 1, none⟩ = some (.int .i64 view) ∧ w'.cell? ⟨w.heap.size, 2, none⟩ = some (.int .i64 seq) ∧ w'.cell? ⟨w.heap.size, 3, none⟩ = some (.int .i64 client) ∧ w'.cell? ⟨w.heap.size, 4, none⟩ = some (.int .i64 stamp) ∧ w'.cell? ⟨w.heap.size, 5, none⟩ = some (.string digest) ∧ w'.cell? ⟨w.heap.size, 6, none⟩ = some (.string tx) ∧ w'.cell? ⟨w.heap.size, 7, none⟩ = some (.slice A list.length c)) (first | (with_reducible exact boxS HS0.out.x) | (with_reducible exact boxS (T := 59) hs1.x) | (with_reducible exact boxS (T := 59) hs2.x) | (refine boxS (T := 59) ?_; (repeat (first | (with_reducible exact HS0.out.x) | (with_reducible exact St.x hs2) | (with_reducible exact St.x hs1) | (with_reducible refine Box.alloc ?_ _) | (with_reducible refine Box.drew ?_) | (with_reducible refine Box.other ?_ (by simp; omega) _))); done)) (first | (go_at_call 186; refine (HR.out _).mono ?_; rintro e w1 ⟨rfl, hc1⟩; have hs1 : St w.heap.size w w.heap.size #[.int .i64 kind, .int .i64 view, .int .i64 seq, .int .i64 client, .int .i64 stamp, .string digest, .string tx, .slice A list.length c] 59 w1 := (by first | (with_reducible exact HS0.out.drew.call (Nat.le_refl _) hc1) | (with_reducible exact (HS0.out.drew.alloc (Nat.le_refl _) _).call (Nat.le_refl _) hc1) | (with_reducible exact (HS0.out.alloc (Nat.le_refl _) _).drew.call (Nat.le_refl _) hc1)); have hl1 := hs1.x.lt; (try ((first | with_reducible (have hbx := bx_call hc1) | with_reducible (have hbx := bx_call_drew hc1)); obtain ⟨k0, k1, k2, k3, f0, f1, f2, f3⟩ := hbx.facts4)); clear hc1) | (go_at_call 187; refine (HH.out _ hfit).mono ?_; rintro e w2 ⟨rfl, hc2⟩; have hs2 : St w.heap.size w w.heap.size #[.int .i64 kind, .int .i64 view, .int .i64 seq, .int .i64 client, .int .i64 stamp, .string digest, .string tx, .slice A list.length c] 59 w2 := (by first | (with_reducible exact hs1.call (Nat.le_refl _) hc2) | (with_reducible exact (hs1.alloc (Nat.le_refl _) _).call (Nat.le_refl _) hc2)); have hl2 := hs2.x.lt; (try (with_reducible (have hbx2 := hbx.call hc2); obtain ⟨k0, k1, k2, k3, f0, f1, f2, f3⟩ := hbx2.facts4)); (try (with_reducible (have hbx2 := bx_call hc2); obtain ⟨k0, k1, k2, k3, f0, f1, f2, f3⟩ := hbx2.facts4)); clear hc2))
    all_goals
      go_wp2_with fail
      go_meet
      refine ⟨_, rfl, rfl, ?_, ?_⟩
      · first
          | with_reducible exact hs2.alloc (Nat.le_refl _) _
          | (refine St.other (St.other (St.other (St.other hs2 ?_ ?_ _) ?_ ?_ _) ?_ ?_ _) ?_ ?_ _ <;> (simp; omega))
      · first
          | with_reducible exact Box.new w2 _ _
          | with_reducible exact box_fill4 hbx2
  case rest =>
    obtain ⟨g, rfl, rfl, HC⟩ := hcut
    obtain ⟨hst, hbr⟩ := HC.out
    have HST := Lib.hid hst
    have HBR := Lib.hid hbr
    have hss := hst.b.size
    have hgl := hbr.lt
    clear hst hbr HC HS0 HBX HA HWW
    obtain ⟨c0, c1, c2, c3, c4, c5, c6, c7⟩ := boxS HST.out.x
    obtain ⟨r0, r1, r2, r3, _⟩ := HBR.out.facts4
    go_upto_region 4 with fail
    go_cut [5] (fun s5 wx => wx = wc ∧ s5 = .bool (partA ⟨kind, view, seq, client, stamp, digest, tx, list⟩))
    case first =>
      go_wp2_with (go_at_call 185; refine (within_calls _ _ _).mono ?_; rintro e w' ⟨rfl, rfl⟩)
      all_goals (go_meet; refine ⟨rfl, ?_⟩)
      all_goals (refine congrArg Value.bool ?_; unfold partA; rw [Bool.eq_iff_iff]; simp only [Bool.and_eq_true, decide_eq_true_eq, Bool.false_eq_true, false_iff]; omega)
    case rest =>
      obtain ⟨rfl, rfl⟩ := hcut
      obtain ⟨pa, hpa⟩ : ∃ pa, pa = partA ⟨kind, view, seq, client, stamp, digest, tx, list⟩ := ⟨_, rfl⟩
      rw [← hpa]
      have HPA := Lib.hid hpa
      clear hpa
      go_upto_region 5 with fail
      go_cut [5] (fun s5 wx => Hid (St w.heap.size w w.heap.size #[.int .i64 kind, .int .i64 view, .int .i64 seq, .int .i64 client, .int .i64 stamp, .string digest, .string tx, .slice A list.length c] 59 wx) ∧ s5 = .bool (pa && partBr ⟨kind, view, seq, client, stamp, digest, tx, list⟩ r m))
      case first =>
        cases pa
        · go_wp2
          go_meet
          exact ⟨HST.out, rfl⟩
        · go_wp2_with (go_at_call 188; refine (fitAll_calls A c list _ (HS.out.below HST.out.b)).mono ?_; rintro e w2 ⟨rfl, hc2⟩; have HST2 := Lib.hid (HST.out.call (Nat.le_refl _) hc2); clear hc2)
          all_goals go_meet
          all_goals
            refine ⟨by first | exact HST2.out | exact HST.out, congrArg Value.bool ?_⟩
            unfold partBr
            generalize fitAllB list = fa
            cases fa <;> (rw [Bool.eq_iff_iff]; simp only [Bool.true_and, Bool.and_true, Bool.and_false, Bool.and_eq_true, decide_eq_true_eq, Bool.false_eq_true, false_iff, and_true, true_iff, and_false, not_false_eq_true, iff_self]; try omega)
      case rest =>
        obtain ⟨HC5, rfl⟩ := hcut
        have HST5 := Lib.hid HC5.out
        obtain ⟨pb, hpb⟩ : ∃ pb, pb = (pa && partBr ⟨kind, view, seq, client, stamp, digest, tx, list⟩ r m) := ⟨_, rfl⟩
        rw [← hpb]
        have HPB := Lib.hid hpb
        clear hpb c0 c1 c2 c3 c4 c5 c6 c7 r0 r1 r2 r3 HC5
        obtain ⟨c0, c1, c2, c3, c4, c5, c6, c7⟩ := boxS HST5.out.x
        have HE := Lib.hid (show rightE ⟨kind, view, seq, client, stamp, digest, tx, list⟩ = if (pb && partC ⟨kind, view, seq, client, stamp, digest, tx, list⟩) = true then 0 else 14 by unfold rightE; rw [if_neg (by simp only; omega), HPB.out, HPA.out, HRR.out, HM.out]; rfl)
        obtain ⟨pc, hpc⟩ : ∃ pc, pc = (pb && partC ⟨kind, view, seq, client, stamp, digest, tx, list⟩) := ⟨_, rfl⟩
        rw [← hpc] at HE
        have HPC := Lib.hid hpc
        clear hpc
        go_upto_block 0 with fail
        go_cut [5] (fun s5 wx => wx = wc ∧ s5 = .bool pc)
        case first =>
          clear HE
          cases pb
          · go_wp2
            all_goals (go_meet; exact ⟨rfl, by rw [HPC.out]; rfl⟩)
          · go_wp2
            all_goals
              go_meet
              refine ⟨rfl, congrArg Value.bool ?_⟩
              rw [HPC.out, Bool.true_and]
              unfold partC
              simp only [beq_iff_eq, beq_eq_false_iff_ne] at *
              first
                | (rw [if_pos (by omega)]; rfl)
                | (rw [if_neg (by omega), if_pos (by omega)])
                | (rw [if_neg (by omega), if_neg (by omega)])
        case rest =>
          obtain ⟨rfl, rfl⟩ := hcut
          clear HPC
          cases pc
          · go_wp2
            go_ret
            rw [HE.out]
            exact ⟨rfl, HST5.out.b⟩
          · go_wp2
            go_ret
            rw [HE.out]
            exact ⟨rfl, HST5.out.b⟩

theorem right_calls (b : Bd) (A : Option Addr) (c : Nat) (w : World) (hs : SgS w A c b.list) : Calls Try.prog 161 #[b.val A c] w (IntPost (rightE b) w) := by
  by_cases h : b.kind < 1 ∨ 13 < b.kind
  · have e : rightE b = 13 := by unfold rightE; rw [if_pos h]
    rw [e]
    exact right_low b A c w h
  · exact right_high b A c w (by omega) (by omega) hs
end Go.Proofs.Ytfgpchffkpomoaa

/- What stands in memory while a face reads: its two results, and the reader. -/
namespace Go.Proofs.Ytfgpchffkpomoaa
set_option linter.unusedSimpArgs false
set_option linter.unusedVariables false
open Go.RowKit

theorem Rd.new0 (w : World) (s : ByteArray) : Rd (w.alloc (.cells #[.string s, .int .i64 0] 241)) w.heap.size s 0 := ⟨by simp, by simp, by simp⟩

/-- Since w0: the first result's box (cells cs of type T), the error's box, the reader behind them at place p. -/
structure Face (w0 : World) (T : TypeId) (cs : Array Value) (s : ByteArray) (p : Nat) (w : World) : Prop where
  ch : Below w0.heap.size w0 w
  b : Box w w0.heap.size cs T
  e : Box w (w0.heap.size + 1) #[.int .i64 0] 25
  r : Rd w (w0.heap.size + 2) s p
  own : w0.heap.size + 2 < w.heap.size

/-- .. without the reader. -/
structure FaceE (w0 : World) (T : TypeId) (cs : Array Value) (w : World) : Prop where
  ch : Below w0.heap.size w0 w
  b : Box w w0.heap.size cs T
  e : Box w (w0.heap.size + 1) #[.int .i64 0] 25
namespace Face
variable {w0 w w' : World} {T : TypeId} {cs : Array Value} {s : ByteArray} {p p' : Nat}
theorem new (w0 : World) (T : TypeId) (cs : Array Value) (s : ByteArray) : Face w0 T cs s 0 (((w0.alloc (.cells cs T)).alloc (.cells #[.int .i64 0] 25)).alloc (.cells #[.string s, .int .i64 0] 241)) := by
  have h := Rd.new0 ((w0.alloc (.cells cs T)).alloc (.cells #[.int .i64 0] 25)) s
  have h1 := (Box.new (w0.alloc (.cells cs T)) #[.int .i64 0] 25).alloc (.cells #[.string s, .int .i64 0] 241)
  simp only [World.size_alloc] at h h1
  exact ⟨(((Below.refl _ _).alloc (Nat.le_refl _) _).alloc (by simp) _).alloc (by simp; omega) _, ((Box.new w0 cs T).alloc _).alloc _, h1, h, by simp⟩
theorem rd (h : Face w0 T cs s p w) (hc : Ch w.heap.size (· = w0.heap.size + 2) w w') (hr : Rd w' (w0.heap.size + 2) s p') : Face w0 T cs s p' w' := by
  have := h.own
  exact ⟨h.ch.trans ((hc.mono (B' := w0.heap.size) (S' := fun _ => False) (by omega) (fun k hk e => by omega)).below (fun _ _ h => h)), h.b.ch hc (by omega) (by omega), h.e.ch hc (by omega) (by omega), hr, Nat.lt_of_lt_of_le h.own hc.size⟩
theorem err (h : Face w0 T cs s p w) (hc : Ch w.heap.size (· = w0.heap.size + 2) w w') : FaceE w0 T cs w' := by
  have := h.own
  exact ⟨h.ch.trans ((hc.mono (B' := w0.heap.size) (S' := fun _ => False) (by omega) (fun k hk e => by omega)).below (fun _ _ h => h)), h.b.ch hc (by omega) (by omega), h.e.ch hc (by omega) (by omega)⟩
theorem set (h : Face w0 T cs s p w) (i : Nat) (v : Value) : Face w0 T (cs.setIfInBounds i v) s p (w.setCell ⟨w0.heap.size, i, none⟩ v) :=
  ⟨h.ch.setCell (p := ⟨w0.heap.size, i, none⟩) (Nat.le_refl _) v, h.b.set i v, h.e.other (by simp) v, h.r.other (by simp) v, by simpa using h.own⟩
theorem drewN (h : Face w0 T cs s p w) (n : Nat) : Face w0 T cs s p (w.drewN n) := ⟨⟨h.ch.1, h.ch.2, h.ch.3, h.ch.4, h.ch.5⟩, h.b, h.e, h.r.drewN n, h.own⟩
theorem drew (h : Face w0 T cs s p w) : Face w0 T cs s p w.drew := h.drewN 1
theorem alloc (h : Face w0 T cs s p w) (o : Obj) : Face w0 T cs s p (w.alloc o) := by
  have := h.own
  exact ⟨h.ch.alloc (by omega) o, h.b.alloc o, h.e.alloc o, h.r.alloc o, by simp; omega⟩
/-- A call that changes new memory alone, or blocks from base on. -/
theorem call {B : Nat} {S : Nat → Prop} (h : Face w0 T cs s p w) (hc : Ch B S w w') (hB : w0.heap.size + 2 < B) (hS : ∀ k, k ≤ w0.heap.size + 2 → ¬ S k) : Face w0 T cs s p w' :=
  ⟨h.ch.trans ((hc.mono (B' := w0.heap.size) (S' := fun _ => False) (by omega) (fun k hk e => hS k (by omega) e)).below (fun _ _ h => h)), h.b.ch hc (by omega) (hS _ (by omega)), h.e.ch hc (by omega) (hS _ (by omega)),
    ⟨(hc.cell (p := ⟨w0.heap.size + 2, 0, none⟩) hB (hS _ (Nat.le_refl _))).trans h.r.1, (hc.cell (p := ⟨w0.heap.size + 2, 1, none⟩) hB (hS _ (Nat.le_refl _))).trans h.r.2, (hc.frozen (p := ⟨w0.heap.size + 2, 1, none⟩) hB (hS _ (Nat.le_refl _))).trans h.r.3⟩,
    Nat.lt_of_lt_of_le h.own hc.size⟩
theorem errno (h : Face w0 T cs s p w) : w.cell? ⟨w0.heap.size + 1, 0, none⟩ = some (.int .i64 0) ∧ w.frozen? ⟨w0.heap.size + 1, 0, none⟩ = false := h.e.facts1
end Face

/-- n messages more, behind those that were read. -/
def many (s : ByteArray) : Nat → Nat → List Sg → Except Nat (List Sg × Nat)
  | 0, q, l => .ok (l, q)
  | n + 1, q, l => match signed s q with
    | .error e => .error e
    | .ok (m, p) => many s n p (l ++ [m])

def zeroBd : Bd := ⟨0, 0, 0, 0, 0, ⟨#[]⟩, ⟨#[]⟩, []⟩
def rdBody (s : ByteArray) : Except Nat Bd :=
  match num s 0 with
  | .error e => .error e
  | .ok (k, p) => match num s p with
    | .error e => .error e
    | .ok (v, p) => match num s p with
      | .error e => .error e
      | .ok (q, p) => match num s p with
        | .error e => .error e
        | .ok (c, p) => match num s p with
          | .error e => .error e
          | .ok (t, p) => match text s p with
            | .error e => .error e
            | .ok (d, p) => match text s p with
              | .error e => .error e
              | .ok (x, p) => match count s 64 p with
                | .error e => .error e
                | .ok (n, p) => match many s n p [] with
                  | .error e => .error e
                  | .ok (l, p) => if p < s.size then .error 12 else .ok ⟨k, v, q, c, t, d, x, l⟩
def ofBody (s : ByteArray) : Bd × Int :=
  if 1048576 < s.size then (zeroBd, 4) else match rdBody s with
    | .error c => (zeroBd, c)
    | .ok b => if rightE b = 0 then (b, 0) else (zeroBd, rightE b)

def OfPost (s : ByteArray) (w : World) (e : Ending) (w' : World) : Prop :=
  ∃ A c, e = .returned (.tuple #[(ofBody s).1.val A c, .int .i64 (ofBody s).2]) ∧ Below w.heap.size w w' ∧ w'.ownsRow w.heap.size 61 3 (.slice A (ofBody s).1.list.length c) (ofBody s).1.list.length ((ofBody s).1.list.flatMap Sg.cells)

theorem signed_bd {s : ByteArray} {q p : Nat} {m : Sg} (h : signed s q = .ok (m, p)) : q < p ∧ p ≤ s.size := by
  unfold signed at h
  split at h
  · cases h
  · rename_i n p1 hn
    have := num_bd hn
    split at h
    · cases h
    · rename_i t p2 ht
      have := text_bd ht
      split at h
      · cases h
      · rename_i g p3 hg
        have := text_bd hg
        simp only [Except.ok.injEq, Prod.mk.injEq] at h
        omega
end Go.Proofs.Ytfgpchffkpomoaa
