/- A body is sealed, and a message opened, by a book that numbers: the walks. -/
import Derived.Test.YtfgpchffkpomoaaBook
import Derived.Test.YtfgpchffkpomoaaOf
import Derived.Test.YtfgpchffkpomoaaOfSg
import Derived.Test.YtfgpchffkpomoaaBytes
namespace Go.Proofs.Ytfgpchffkpomoaa
set_option linter.unusedSimpArgs false
set_option linter.unusedVariables false
open Go.RowKit


/-- The message that comes of sealing, why there is none, and what was signed then. -/
def sealE (S : List Wd) (who : Int) (b : Bd) : (Sg × Int) × List Wd :=
  if (bytesE b).2 = 0 then ((if (signE S who (bytesE b).1).1.2 = 0 then (⟨who, (bytesE b).1, (signE S who (bytesE b).1).1.1⟩, 0) else (zeroSg, (signE S who (bytesE b).1).1.2)), (signE S who (bytesE b).1).2)
  else ((zeroSg, (bytesE b).2), S)
def SealPost (r : Sg × Int) (n : Nat) (Q : World → Prop) (w : World) (e : Ending) (w' : World) : Prop := e = .returned (.tuple #[r.1.val, .int .i64 r.2]) ∧ Ch w.heap.size (· = n) w w' ∧ Q w'
theorem Bk.setCell {w : World} {b t m n : Nat} {T : List ByteArray} {S : List Wd} (h : Bk w b t m n T S) {p : Addr} (hp : p.block ≠ b ∧ p.block ≠ t ∧ p.block ≠ m ∧ p.block ≠ n) (v : Value) : Bk (w.setCell p v) b t m n T S :=
  h.ch (X := fun k => k = p.block) (Ch.setCell (Ch.refl w.heap.size (fun k => k = p.block) w) (.inr rfl) v) (Nat.le_refl _) ⟨fun e => hp.1 e.symm, fun e => hp.2.1 e.symm, fun e => hp.2.2.1 e.symm, fun e => hp.2.2.2 e.symm⟩
/-- Its blocks are none of the new ones. -/
theorem Bk.far {w : World} {b t m n : Nat} {T : List ByteArray} {S : List Wd} (h : Bk w b t m n T S) {k : Nat} (hk : w.heap.size ≤ k) : k ≠ b ∧ k ≠ t ∧ k ≠ m ∧ k ≠ n := by
  have l1 := h.lt.1
  have l2 := h.lt.2
  have l3 := h.tm.lt
  have l4 := h.wm.lt
  omega
theorem bytesE_size (b : Bd) : (bytesE b).1.size ≤ 1048576 := by
  unfold bytesE
  split
  · split
    · simp [ByteArray.size]
    · rw [bs_size]; omega
  · simp [ByteArray.size]

set_option maxHeartbeats 1000000 in
set_option maxRecDepth 100000 in
theorem seal_calls (b t m n : Nat) (T : List ByteArray) (S : List Wd) (who : Int) (x : Bd) (A : Option Addr) (c : Nat) (w : World) (hb : Bk w b t m n T S) (hS : S.length ≤ 1000000000) (hs : SgS w A c x.list) :
    Calls Try.prog 51 #[.pointer (some ⟨b, 0, none⟩), .int .i64 who, x.val A c] w (SealPost (sealE S who x).1 n (fun w' => Bk w' b t m n T (sealE S who x).2) w) := by
  have HM := Lib.hid (fun w hb => made_calls b t m n T S w hb)
  have HY := Lib.hid (fun w hs => body_calls x A c w hs)
  unfold StrErr at HY
  have hsz := bytesE_size x
  have HE := Lib.hid (show sealE S who x = if (bytesE x).2 = 0 then ((if (signE S who (bytesE x).1).1.2 = 0 then (⟨who, (bytesE x).1, (signE S who (bytesE x).1).1.1⟩, 0) else (zeroSg, (signE S who (bytesE x).1).1.2)), (signE S who (bytesE x).1).2) else ((zeroSg, (bytesE x).2), S) from rfl)
  obtain ⟨⟨y, err⟩, hr⟩ : ∃ r, bytesE x = r := ⟨_, rfl⟩
  rw [hr] at HY HE hsz
  simp only at HY HE hsz
  have HG := Lib.hid (fun w hb => sign_calls b t m n T S who y w hb hS (by simp only [maxLen]; omega))
  obtain ⟨⟨⟨g, ge⟩, S'⟩, hg⟩ : ∃ r, signE S who y = r := ⟨_, rfl⟩
  rw [hg] at HG HE
  simp only at HG HE
  have HBK := Lib.hid hb
  have HS := Lib.hid hs
  have hwl := hb.wm.lt
  have HFAR := Lib.hid (hb.far (k := w.heap.size + 1) (by omega))
  clear hb hs hr hg
  obtain ⟨kind, view, seq, client, stamp, digest, tx, list⟩ := x
  unfold Bd.val Bd.cells at *
  simp only at *
  obtain ⟨W, hW⟩ : ∃ W, W = (w.alloc (.cells #[.int .i64 kind, .int .i64 view, .int .i64 seq, .int .i64 client, .int .i64 stamp, .string digest, .string tx, .slice A list.length c] 59)).alloc (.cells #[.int .i64 0, .string ⟨#[]⟩, .string ⟨#[]⟩] 61) := ⟨_, rfl⟩
  have HA := Lib.hid (show Below w.heap.size w W by rw [hW]; exact ((Below.refl _ _).alloc (Nat.le_refl _) _).alloc (by simp) _)
  have HX := Lib.hid (show Box W (w.heap.size + 1) #[.int .i64 0, .string ⟨#[]⟩, .string ⟨#[]⟩] 61 by rw [hW]; have h := Box.new (w.alloc (.cells #[.int .i64 kind, .int .i64 view, .int .i64 seq, .int .i64 client, .int .i64 stamp, .string digest, .string tx, .slice A list.length c] 59)) #[.int .i64 0, .string ⟨#[]⟩, .string ⟨#[]⟩] 61; simp only [World.size_alloc] at h; exact h)
  have h8 : W.cell? ⟨w.heap.size, 0, none⟩ = some (.int .i64 kind) ∧ W.cell? ⟨w.heap.size, 1, none⟩ = some (.int .i64 view) ∧ W.cell? ⟨w.heap.size, 2, none⟩ = some (.int .i64 seq) ∧ W.cell? ⟨w.heap.size, 3, none⟩ = some (.int .i64 client) ∧ W.cell? ⟨w.heap.size, 4, none⟩ = some (.int .i64 stamp) ∧ W.cell? ⟨w.heap.size, 5, none⟩ = some (.string digest) ∧ W.cell? ⟨w.heap.size, 6, none⟩ = some (.string tx) ∧ W.cell? ⟨w.heap.size, 7, none⟩ = some (.slice A list.length c) := by
    have h := ((Box.new w #[.int .i64 kind, .int .i64 view, .int .i64 seq, .int .i64 client, .int .i64 stamp, .string digest, .string tx, .slice A list.length c] 59).alloc (.cells #[.int .i64 0, .string ⟨#[]⟩, .string ⟨#[]⟩] 61))
    rw [← hW] at h
    exact ⟨h.cell 0, h.cell 1, h.cell 2, h.cell 3, h.cell 4, h.cell 5, h.cell 6, h.cell 7⟩
  obtain ⟨q0, q1, q2, q3, q4, q5, q6, q7⟩ := h8
  have HBW := Lib.hid (HBK.out.below HA.out)
  have HSW := Lib.hid (HS.out.below HA.out)
  have HWW := Lib.hid hW
  have hsW : w.heap.size + 1 < W.heap.size := HX.out.lt
  clear hW
  go_enter Try.func51, Try.ntmps51
  go_wp2_with fail
  rw [← HWW.out]
  refine (HM.out _ HBW.out).mono ?_
  rintro e w1 ⟨rfl, rfl⟩
  go_wp2_with fail
  refine (HY.out _ HSW.out).mono ?_
  rintro e w2 ⟨rfl, hb2⟩
  have HB2 := Lib.hid (HBW.out.below hb2)
  have HX2 := Lib.hid (HX.out.call hb2)
  have HC2 := Lib.hid ((Ch.of_below (S := (· = n)) HA.out).step (Ch.of_below (S := (· = n)) hb2) HA.out.size (fun _ _ h => h))
  have hsz2 := hb2.size
  clear hb2 q0 q1 q2 q3 q4 q5 q6 q7
  by_cases he : err = 0
  · subst he
    have hge := HE.out
    rw [if_pos rfl] at hge
    have HGE := Lib.hid hge
    clear hge
    go_wp2_with fail
    refine (HG.out _ HB2.out).mono ?_
    rintro e w3 ⟨rfl, hc3, hb3⟩
    have HB3 := Lib.hid hb3
    have HX3 := Lib.hid (HX2.out.ch hc3 HX2.out.lt (by omega))
    have HC3 := Lib.hid (HC2.out.step hc3 HC2.out.size (fun _ _ h => h))
    have hsz3 := hc3.size
    clear hb3 hc3
    obtain ⟨r0, r1, r2, f0, f1, f2⟩ := HX3.out.facts3
    by_cases hg0 : ge = 0
    · subst hg0
      have hge := HGE.out
      rw [if_pos rfl] at hge
      have HGF := Lib.hid hge
      clear hge
      go_wp2
      refine bodyPost_ret (v := .tuple #[.agg #[.int .i64 who, .string y, .string g], .int .i64 0]) (by simp [results, Try.results51, go_sem, r0, r1, r2]) rfl ?_
      rw [HGF.out]
      refine ⟨rfl, ((HC3.out.setCell (p := ⟨w.heap.size + 1, 0, none⟩) (by simp) _).setCell (p := ⟨w.heap.size + 1, 1, none⟩) (by simp) _).setCell (p := ⟨w.heap.size + 1, 2, none⟩) (by simp) _, ?_⟩
      exact ((HB3.out.setCell (p := ⟨w.heap.size + 1, 0, none⟩) HFAR.out _).setCell (p := ⟨w.heap.size + 1, 1, none⟩) HFAR.out _).setCell (p := ⟨w.heap.size + 1, 2, none⟩) HFAR.out _
    · have hd : (ge == 0) = false := by simpa using hg0
      have hge := HGE.out
      rw [if_neg hg0] at hge
      have HGF := Lib.hid hge
      clear hge hg0
      go_wp2
      refine bodyPost_ret (v := .tuple #[.agg #[.int .i64 0, .string ⟨#[]⟩, .string ⟨#[]⟩], .int .i64 ge]) (by simp [results, Try.results51, go_sem, r0, r1, r2]) rfl ?_
      rw [HGF.out]
      refine ⟨rfl, ((HC3.out.setCell (p := ⟨w.heap.size + 1, 0, none⟩) (by simp) _).setCell (p := ⟨w.heap.size + 1, 1, none⟩) (by simp) _).setCell (p := ⟨w.heap.size + 1, 2, none⟩) (by simp) _, ?_⟩
      exact ((HB3.out.setCell (p := ⟨w.heap.size + 1, 0, none⟩) HFAR.out _).setCell (p := ⟨w.heap.size + 1, 1, none⟩) HFAR.out _).setCell (p := ⟨w.heap.size + 1, 2, none⟩) HFAR.out _
  · have hd : (err == 0) = false := by simpa using he
    have hge := HE.out
    rw [if_neg he] at hge
    have HGE := Lib.hid hge
    clear hge he
    obtain ⟨r0, r1, r2, f0, f1, f2⟩ := HX2.out.facts3
    go_wp2
    refine bodyPost_ret (v := .tuple #[.agg #[.int .i64 0, .string ⟨#[]⟩, .string ⟨#[]⟩], .int .i64 err]) (by simp [results, Try.results51, go_sem, r0, r1, r2]) rfl ?_
    rw [HGE.out]
    refine ⟨rfl, ((HC2.out.setCell (p := ⟨w.heap.size + 1, 0, none⟩) (by simp) _).setCell (p := ⟨w.heap.size + 1, 1, none⟩) (by simp) _).setCell (p := ⟨w.heap.size + 1, 2, none⟩) (by simp) _, ?_⟩
    exact ((HB2.out.setCell (p := ⟨w.heap.size + 1, 0, none⟩) HFAR.out _).setCell (p := ⟨w.heap.size + 1, 1, none⟩) HFAR.out _).setCell (p := ⟨w.heap.size + 1, 2, none⟩) HFAR.out _

/-- The body that a message bears, or why it is refused. -/
def openE (S : List Wd) (m : Sg) : Bd × Int := if checkE S m.who m.body m.sig = true then ofBody m.body else (zeroBd, 30)
/-- Two results: a body, whose list is new, and an error's number. -/
def BodyErr (r : Bd × Int) (w : World) (e : Ending) (w' : World) : Prop :=
  ∃ A c, e = .returned (.tuple #[r.1.val A c, .int .i64 r.2]) ∧ Below w.heap.size w w' ∧ w'.ownsRow w.heap.size 61 3 (.slice A r.1.list.length c) r.1.list.length (r.1.list.flatMap Sg.cells)

set_option maxHeartbeats 1000000 in
set_option maxRecDepth 100000 in
theorem open_calls (b t m n : Nat) (T : List ByteArray) (S : List Wd) (x : Sg) (w : World) (hb : Bk w b t m n T S) (hS : S.length ≤ 1000000000) (hs : x.body.size ≤ maxLen) :
    Calls Try.prog 53 #[.pointer (some ⟨b, 0, none⟩), x.val] w (BodyErr (openE S x) w) := by
  have HM := Lib.hid (fun w hb => made_calls b t m n T S w hb)
  have HC := Lib.hid (fun w hb => check_calls b t m n T S x.who x.body x.sig w hb hS hs)
  have HO := Lib.hid (fun w => of_calls x.body w)
  unfold OfPost at HO
  have HE := Lib.hid (show openE S x = if checkE S x.who x.body x.sig = true then ofBody x.body else (zeroBd, 30) from rfl)
  obtain ⟨ck, hck⟩ : ∃ r, checkE S x.who x.body x.sig = r := ⟨_, rfl⟩
  rw [hck] at HC HE
  obtain ⟨⟨y, err⟩, hr⟩ : ∃ r, ofBody x.body = r := ⟨_, rfl⟩
  rw [hr] at HO HE
  simp only at HO HE
  have HBK := Lib.hid hb
  clear hb hr hck
  obtain ⟨who, body, sig⟩ := x
  obtain ⟨kind, view, seq, client, stamp, digest, tx, list⟩ := y
  unfold Sg.val at *
  unfold Bd.val Bd.cells at *
  simp only at *
  obtain ⟨W, hW⟩ : ∃ W, W = (w.alloc (.cells #[.int .i64 who, .string body, .string sig] 61)).alloc (.cells #[.int .i64 0, .int .i64 0, .int .i64 0, .int .i64 0, .int .i64 0, .string ⟨#[]⟩, .string ⟨#[]⟩, .slice none 0 0] 59) := ⟨_, rfl⟩
  have HA := Lib.hid (show Below w.heap.size w W by rw [hW]; exact ((Below.refl _ _).alloc (Nat.le_refl _) _).alloc (by simp) _)
  have HX := Lib.hid (show Box W (w.heap.size + 1) #[.int .i64 0, .int .i64 0, .int .i64 0, .int .i64 0, .int .i64 0, .string ⟨#[]⟩, .string ⟨#[]⟩, .slice none 0 0] 59 by rw [hW]; have h := Box.new (w.alloc (.cells #[.int .i64 who, .string body, .string sig] 61)) #[.int .i64 0, .int .i64 0, .int .i64 0, .int .i64 0, .int .i64 0, .string ⟨#[]⟩, .string ⟨#[]⟩, .slice none 0 0] 59; simp only [World.size_alloc] at h; exact h)
  have HX0 := Lib.hid (show Box W w.heap.size #[.int .i64 who, .string body, .string sig] 61 by rw [hW]; exact (Box.new w _ _).alloc _)
  obtain ⟨q0, q1, q2, _⟩ := HX0.out.facts3
  have HBW := Lib.hid (HBK.out.below HA.out)
  have HWW := Lib.hid hW
  have hsW : w.heap.size + 1 < W.heap.size := HX.out.lt
  clear hW
  go_enter Try.func53, Try.ntmps53
  go_wp2_with fail
  rw [← HWW.out]
  refine (HM.out _ HBW.out).mono ?_
  rintro e w1 ⟨rfl, rfl⟩
  go_wp2_with fail
  refine (HC.out _ HBW.out).mono ?_
  rintro e w2 ⟨rfl, hb2⟩
  have HX2 := Lib.hid (HX.out.call hb2)
  have HX02 := Lib.hid (HX0.out.call hb2)
  have HB2 := Lib.hid (HA.out.trans (hb2.mono HA.out.size))
  have hsz2 := hb2.size
  clear hb2 q0 q1 q2
  obtain ⟨q0, q1, q2, _⟩ := HX02.out.facts3
  cases ck with
  | true =>
    have hge := HE.out
    rw [if_pos rfl] at hge
    have HGE := Lib.hid hge
    clear hge
    go_wp2_with fail
    refine (HO.out _).mono ?_
    rintro e w3 ⟨A, c, rfl, hb3, ho3⟩
    have HX3 := Lib.hid (HX2.out.call hb3)
    have HB3 := Lib.hid (HB2.out.trans (hb3.mono HB2.out.size))
    have HO3 := Lib.hid ho3
    have hsz3 := hb3.size
    clear hb3 ho3 q0 q1 q2
    obtain ⟨r0, r1, r2, r3, r4, r5, r6, r7, f0, f1, f2, f3, f4, f5, f6, f7⟩ := HX3.out.facts8
    go_wp2
    refine bodyPost_ret (v := .tuple #[.agg #[.int .i64 kind, .int .i64 view, .int .i64 seq, .int .i64 client, .int .i64 stamp, .string digest, .string tx, .slice A list.length c], .int .i64 err]) (by simp [results, Try.results53, go_sem, r0, r1, r2, r3, r4, r5, r6, r7]) rfl ?_
    unfold BodyErr
    rw [HGE.out]
    refine ⟨A, c, rfl, (((((((HB3.out.setCell (by simp) _).setCell (by simp) _).setCell (by simp) _).setCell (by simp) _).setCell (by simp) _).setCell (by simp) _).setCell (by simp) _).setCell (by simp) _, ?_⟩
    refine own_base (base := w2.heap.size) ?_ (by omega)
    exact ownsRow_setCell_below (ownsRow_setCell_below (ownsRow_setCell_below (ownsRow_setCell_below (ownsRow_setCell_below (ownsRow_setCell_below (ownsRow_setCell_below (ownsRow_setCell_below HO3.out (by simp only; omega) _) (by simp only; omega) _) (by simp only; omega) _) (by simp only; omega) _) (by simp only; omega) _) (by simp only; omega) _) (by simp only; omega) _) (by simp only; omega) _
  | false =>
    have hge := HE.out
    rw [if_neg (by decide)] at hge
    have HGE := Lib.hid hge
    clear hge
    obtain ⟨r0, r1, r2, r3, r4, r5, r6, r7, f0, f1, f2, f3, f4, f5, f6, f7⟩ := HX2.out.facts8
    go_wp2
    refine bodyPost_ret (v := .tuple #[.agg #[.int .i64 0, .int .i64 0, .int .i64 0, .int .i64 0, .int .i64 0, .string ⟨#[]⟩, .string ⟨#[]⟩, .slice none 0 0], .int .i64 30]) (by simp [results, Try.results53, go_sem, r0, r1, r2, r3, r4, r5, r6, r7]) rfl ?_
    unfold BodyErr
    rw [HGE.out]
    exact ⟨none, 0, rfl, (((((((HB2.out.setCell (by simp) _).setCell (by simp) _).setCell (by simp) _).setCell (by simp) _).setCell (by simp) _).setCell (by simp) _).setCell (by simp) _).setCell (by simp) _, World.ownsRow_nil _ _ _ _⟩
end Go.Proofs.Ytfgpchffkpomoaa
