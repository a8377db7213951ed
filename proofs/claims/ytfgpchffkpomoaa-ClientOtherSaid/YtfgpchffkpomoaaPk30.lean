/- Texts of this proof, several in one file; each says ahead of it what it proves. -/
import Derived.Test.YtfgpchffkpomoaaPk01
import Derived.Handy
import Derived.Test.YtfgpchffkpomoaaPk29b
import Derived.Test.YtfgpchffkpomoaaPk02
import Derived.Test.YtfgpchffkpomoaaPk04
import Derived.Deep.RegionHeld3
import Derived.Deep.CutBlock
import Derived.Test.YtfgpchffkpomoaaPk29
import Derived.Test.YtfgpchffkpomoaaPk16
/- A number below another one: the walks through round and around, of each package that has one. -/
namespace Go.Proofs.Ytfgpchffkpomoaa
set_option linter.unusedSimpArgs false
set_option linter.unusedVariables false
open Go.RowKit

def rnd (n : Int) (m : Nat) : Nat := (n.tmod m).natAbs
theorem rnd_lt (n : Int) {m : Nat} (hm : 0 < m) : rnd n m < m := by
  unfold rnd
  have h1 := Int.tmod_lt_of_pos n (show (0 : Int) < m by omega)
  have h2 : -(m : Int) < n.tmod m := Int.lt_tmod_of_pos n (by omega)
  omega
theorem ret_int {k : IntKind} {a b : Int} (h : a = b) : Ending.returned (.int k a) = .returned (.int k b) := by rw [h]
def RndPost (k : Nat) (w : World) (e : Ending) (w' : World) : Prop := e = .returned (.int .i64 k) ∧ w = w'

set_option maxRecDepth 100000 in
theorem round3_calls (n : Int) (m : Nat) (w : World) (hm : 0 < m) (hm2 : m ≤ 1000000) : Calls Try.prog 55 #[.int .i64 n, .int .i64 m] w (RndPost (rnd n m) w) := by
  have h1 := Int.tmod_lt_of_pos n (show (0 : Int) < m by omega)
  have h2 : -(m : Int) < n.tmod m := Int.lt_tmod_of_pos n (by omega)
  have HE := Lib.hid (show (rnd n m : Int) = ((n.tmod m).natAbs : Int) from rfl)
  have hm0 : ((m : Int) == 0) = false := by simp; omega
  obtain ⟨k, hk⟩ : ∃ k, k = n.tmod m := ⟨_, rfl⟩
  rw [← hk] at h1 h2 HE
  have HK := Lib.hid hk.symm
  have hk2 : n.tmod (m : Int) = k := hk.symm
  clear hk
  by_cases h0 : k < 0
  · have hd : decide (k < 0) = true := by simpa using h0
    go_enter Try.func55, Try.ntmps55
    go_wp2
    go_ret
    exact ⟨ret_int (by rw [HE.out]; omega), rfl⟩
  · have hd : decide (k < 0) = false := by simpa using h0
    go_enter Try.func55, Try.ntmps55
    go_wp2
    go_ret
    exact ⟨ret_int (by rw [HE.out]; omega), rfl⟩

set_option maxRecDepth 100000 in
theorem around4_calls (n : Int) (m : Nat) (w : World) (hm : 0 < m) (hm2 : m ≤ 1000000) : Calls Try.prog 109 #[.int .i64 n, .int .i64 m] w (RndPost (rnd n m) w) := by
  have h1 := Int.tmod_lt_of_pos n (show (0 : Int) < m by omega)
  have h2 : -(m : Int) < n.tmod m := Int.lt_tmod_of_pos n (by omega)
  have HE := Lib.hid (show (rnd n m : Int) = ((n.tmod m).natAbs : Int) from rfl)
  have hm0 : ((m : Int) == 0) = false := by simp; omega
  obtain ⟨k, hk⟩ : ∃ k, k = n.tmod m := ⟨_, rfl⟩
  rw [← hk] at h1 h2 HE
  have HK := Lib.hid hk.symm
  have hk2 : n.tmod (m : Int) = k := hk.symm
  clear hk
  by_cases h0 : k < 0
  · have hd : decide (k < 0) = true := by simpa using h0
    go_enter Try.func109, Try.ntmps109
    go_wp2
    go_ret
    exact ⟨ret_int (by rw [HE.out]; omega), rfl⟩
  · have hd : decide (k < 0) = false := by simpa using h0
    go_enter Try.func109, Try.ntmps109
    go_wp2
    go_ret
    exact ⟨ret_int (by rw [HE.out]; omega), rfl⟩

set_option maxRecDepth 100000 in
theorem around12_calls (n : Int) (m : Nat) (w : World) (hm : 0 < m) (hm2 : m ≤ 1000000) : Calls Try.prog 71 #[.int .i64 n, .int .i64 m] w (RndPost (rnd n m) w) := by
  have h1 := Int.tmod_lt_of_pos n (show (0 : Int) < m by omega)
  have h2 : -(m : Int) < n.tmod m := Int.lt_tmod_of_pos n (by omega)
  have HE := Lib.hid (show (rnd n m : Int) = ((n.tmod m).natAbs : Int) from rfl)
  have hm0 : ((m : Int) == 0) = false := by simp; omega
  obtain ⟨k, hk⟩ : ∃ k, k = n.tmod m := ⟨_, rfl⟩
  rw [← hk] at h1 h2 HE
  have HK := Lib.hid hk.symm
  have hk2 : n.tmod (m : Int) = k := hk.symm
  clear hk
  by_cases h0 : k < 0
  · have hd : decide (k < 0) = true := by simpa using h0
    go_enter Try.func71, Try.ntmps71
    go_wp2
    go_ret
    exact ⟨ret_int (by rw [HE.out]; omega), rfl⟩
  · have hd : decide (k < 0) = false := by simpa using h0
    go_enter Try.func71, Try.ntmps71
    go_wp2
    go_ret
    exact ⟨ret_int (by rw [HE.out]; omega), rfl⟩

set_option maxRecDepth 100000 in
theorem aroundT_calls (n : Int) (m : Nat) (w : World) (hm : 0 < m) (hm2 : m ≤ 1000000) : Calls Try.prog 95 #[.int .i64 n, .int .i64 m] w (RndPost (rnd n m) w) := by
  have h1 := Int.tmod_lt_of_pos n (show (0 : Int) < m by omega)
  have h2 : -(m : Int) < n.tmod m := Int.lt_tmod_of_pos n (by omega)
  have HE := Lib.hid (show (rnd n m : Int) = ((n.tmod m).natAbs : Int) from rfl)
  have hm0 : ((m : Int) == 0) = false := by simp; omega
  obtain ⟨k, hk⟩ : ∃ k, k = n.tmod m := ⟨_, rfl⟩
  rw [← hk] at h1 h2 HE
  have HK := Lib.hid hk.symm
  have hk2 : n.tmod (m : Int) = k := hk.symm
  clear hk
  by_cases h0 : k < 0
  · have hd : decide (k < 0) = true := by simpa using h0
    go_enter Try.func95, Try.ntmps95
    go_wp2
    go_ret
    exact ⟨ret_int (by rw [HE.out]; omega), rfl⟩
  · have hd : decide (k < 0) = false := by simpa using h0
    go_enter Try.func95, Try.ntmps95
    go_wp2
    go_ret
    exact ⟨ret_int (by rw [HE.out]; omega), rfl⟩

end Go.Proofs.Ytfgpchffkpomoaa

/- A replica's reply as bytes, and a client's request: the walks. -/
namespace Go.Proofs.Ytfgpchffkpomoaa
set_option linter.unusedSimpArgs false
set_option linter.unusedVariables false
open Go.RowKit

theorem sgs_nil (w : World) : SgS w none 0 [] := ⟨rfl, by simp, fun j u hj => by simp at hj⟩
/-- The bytes of what was sealed; the words signed then. -/
def SayPost (w0 : World) (b t m n : Nat) (T : List ByteArray) (s : ByteArray) (S' : List Wd) (e : Ending) (w' : World) : Prop :=
  e = .returned (.string s) ∧ Ch w0.heap.size (· = n) w0 w' ∧ Bk w' b t m n T S'
set_option maxHeartbeats 2000000 in
set_option maxRecDepth 100000 in
theorem reply_calls (b t m n : Nat) (T : List ByteArray) (S : List Wd) (who client stamp : Int) (text : ByteArray) (sg : Sg) (S' : List Wd) (w : World) (hb : Bk w b t m n T S) (hS : S.length ≤ 1000000000) (he : sealE S who (cliB 10 client stamp text) = ((sg, 0), S')) (hf : fitsB sg = true) :
    Calls Try.prog 70 #[.pointer (some ⟨b, 0, none⟩), .int .i64 who, .int .i64 client, .int .i64 stamp, .string text] w (SayPost w b t m n T (bs (putSg sg)) S') := by
  have HG := Lib.hid (fun w hb => seal_calls b t m n T S who (cliB 10 client stamp text) none 0 w hb hS (sgs_nil w))
  unfold SealPost at HG
  rw [he] at HG
  simp only at HG
  have hfb := (fitsB_iff sg).1 hf
  have HO := Lib.hid (fun w => rOne_calls sg w hfb.1 (by omega) (by omega) (by omega))
  unfold StrPost at HO
  obtain ⟨who2, body, sig⟩ := sg
  unfold Sg.val at *
  unfold cliB Bd.val Bd.cells at *
  simp only at *
  have HB := Lib.hid hb
  have hnl := hb.wm.lt
  obtain ⟨out, hout⟩ : ∃ o, o = bs (putSg ⟨who2, body, sig⟩) := ⟨_, rfl⟩
  rw [← hout] at HO ⊢
  clear hb he hf hfb hout
  go_enter Try.func70, Try.ntmps70
  go_wp2_with fail
  refine (HG.out _ HB.out).mono ?_
  rintro e w1 ⟨rfl, hc1, hk1⟩
  have HC1 := Lib.hid hc1
  have HK1 := Lib.hid hk1
  have hz1 := hc1.size
  clear hc1 hk1
  go_wp2_with fail
  refine (HO.out _).mono ?_
  rintro e w2 ⟨rfl, hb2⟩
  have HB2 := Lib.hid hb2
  have hz2 : w1.heap.size + 1 ≤ w2.heap.size := by have := hb2.size; simpa using this
  clear hb2
  go_wp2
  go_ret
  exact ⟨rfl, (HC1.out.alloc hz1 _).step (Ch.of_below (S := fun _ => False) HB2.out) (by simp; omega) (fun _ _ e => e.elim), (HK1.out.alloc _).below HB2.out⟩
end Go.Proofs.Ytfgpchffkpomoaa

/- A client lays and signs a body: the walk. -/
namespace Go.Proofs.Ytfgpchffkpomoaa
set_option linter.unusedSimpArgs false
set_option linter.unusedVariables false
open Go.RowKit

theorem CS.sign {w w' : World} {x g K b t m n B : Nat} {T T' : List ByteArray} {S S' : List Wd} {y : Cl} {AA : Option Addr} {ac : Nat} {X : Nat → Prop} (h : CS w x g K b t m n T S y AA ac) (hc : Ch B X w w') (hB : w.heap.size ≤ B) (hX : ¬ X x ∧ ¬ X g ∧ ∀ k, K ≤ k → k < w.heap.size → ¬ X k) (hk : Bk w' b t m n T' S') : CS w' x g K b t m n T' S' y AA ac :=
  ⟨hk, h.box.ch hc (by have := h.xl; omega) hX.1, h.told.ch hc (by have := h.told.lt; omega) hX.2.1, own_ch h.ans hc (fun k hk => ⟨by have := (h.row hk).2; omega, hX.2.2 k (h.row hk).1 (h.row hk).2⟩), by have := h.lt; have := hc.size; omega, h.ne⟩
section
variable {w : World} {x g K b t m n k R : Nat} {T : List ByteArray} {S : List Wd} {y : Cl} {AA : Option Addr} {ac : Nat} {u0 u1 u2 u3 u4 u5 u6 u7 : Value} {TY : TypeId}
theorem keepS (h : CS w x g K b t m n T S y AA ac) (hb : Box w k #[u0, u1, u2, u3, u4, u5, u6, u7] TY) : w.cell? ⟨x, 4, none⟩ = some (.int .i64 y.id) ∧ w.cell? ⟨x, 5, none⟩ = some (.pointer (some ⟨b, 0, none⟩)) ∧ w.cell? ⟨k, 0, none⟩ = some u0 ∧ w.cell? ⟨k, 1, none⟩ = some u1 ∧ w.cell? ⟨k, 2, none⟩ = some u2 ∧ w.cell? ⟨k, 3, none⟩ = some u3 ∧ w.cell? ⟨k, 4, none⟩ = some u4 ∧ w.cell? ⟨k, 5, none⟩ = some u5 ∧ w.cell? ⟨k, 6, none⟩ = some u6 ∧ w.cell? ⟨k, 7, none⟩ = some u7 :=
  ⟨h.c4, h.c5, hb.cell 0, hb.cell 1, hb.cell 2, hb.cell 3, hb.cell 4, hb.cell 5, hb.cell 6, hb.cell 7⟩
theorem keepSA (h : CS w x g K b t m n T S y AA ac) (hb : Box w k #[u0, u1, u2, u3, u4, u5, u6, u7] TY) (o : Obj) : (w.alloc o).cell? ⟨x, 4, none⟩ = some (.int .i64 y.id) ∧ (w.alloc o).cell? ⟨x, 5, none⟩ = some (.pointer (some ⟨b, 0, none⟩)) ∧ (w.alloc o).cell? ⟨k, 0, none⟩ = some u0 ∧ (w.alloc o).cell? ⟨k, 1, none⟩ = some u1 ∧ (w.alloc o).cell? ⟨k, 2, none⟩ = some u2 ∧ (w.alloc o).cell? ⟨k, 3, none⟩ = some u3 ∧ (w.alloc o).cell? ⟨k, 4, none⟩ = some u4 ∧ (w.alloc o).cell? ⟨k, 5, none⟩ = some u5 ∧ (w.alloc o).cell? ⟨k, 6, none⟩ = some u6 ∧ (w.alloc o).cell? ⟨k, 7, none⟩ = some u7 :=
  keepS (h.below ((Below.refl w.heap.size w).alloc (Nat.le_refl _) o)) (hb.alloc o)
theorem keepS3 (h : CS w x g K b t m n T S y AA ac) (hb : Box w k #[u0, u1, u2, u3, u4, u5, u6, u7] TY) (h1 : x ≠ R) (h2 : k ≠ R) (v0 v1 v2 : Value) : (((w.setCell ⟨R, 0, none⟩ v0).setCell ⟨R, 1, none⟩ v1).setCell ⟨R, 2, none⟩ v2).cell? ⟨x, 4, none⟩ = some (.int .i64 y.id) ∧ (((w.setCell ⟨R, 0, none⟩ v0).setCell ⟨R, 1, none⟩ v1).setCell ⟨R, 2, none⟩ v2).cell? ⟨x, 5, none⟩ = some (.pointer (some ⟨b, 0, none⟩)) ∧ (((w.setCell ⟨R, 0, none⟩ v0).setCell ⟨R, 1, none⟩ v1).setCell ⟨R, 2, none⟩ v2).cell? ⟨k, 0, none⟩ = some u0 ∧ (((w.setCell ⟨R, 0, none⟩ v0).setCell ⟨R, 1, none⟩ v1).setCell ⟨R, 2, none⟩ v2).cell? ⟨k, 1, none⟩ = some u1 ∧ (((w.setCell ⟨R, 0, none⟩ v0).setCell ⟨R, 1, none⟩ v1).setCell ⟨R, 2, none⟩ v2).cell? ⟨k, 2, none⟩ = some u2 ∧ (((w.setCell ⟨R, 0, none⟩ v0).setCell ⟨R, 1, none⟩ v1).setCell ⟨R, 2, none⟩ v2).cell? ⟨k, 3, none⟩ = some u3 ∧ (((w.setCell ⟨R, 0, none⟩ v0).setCell ⟨R, 1, none⟩ v1).setCell ⟨R, 2, none⟩ v2).cell? ⟨k, 4, none⟩ = some u4 ∧ (((w.setCell ⟨R, 0, none⟩ v0).setCell ⟨R, 1, none⟩ v1).setCell ⟨R, 2, none⟩ v2).cell? ⟨k, 5, none⟩ = some u5 ∧ (((w.setCell ⟨R, 0, none⟩ v0).setCell ⟨R, 1, none⟩ v1).setCell ⟨R, 2, none⟩ v2).cell? ⟨k, 6, none⟩ = some u6 ∧ (((w.setCell ⟨R, 0, none⟩ v0).setCell ⟨R, 1, none⟩ v1).setCell ⟨R, 2, none⟩ v2).cell? ⟨k, 7, none⟩ = some u7 := by
  have e : ∀ (p : Addr) (v : Value), p.block ≠ R → w.cell? p = some v → (((w.setCell ⟨R, 0, none⟩ v0).setCell ⟨R, 1, none⟩ v1).setCell ⟨R, 2, none⟩ v2).cell? p = some v := fun p v hp h => by
    rw [← h]
    refine World.cell?_of_block ?_
    rw [Below.heap_setCell _ _ _ _ (fun e => hp e), Below.heap_setCell _ _ _ _ (fun e => hp e), Below.heap_setCell _ _ _ _ (fun e => hp e)]
  have f := keepS h hb
  exact ⟨e _ _ h1 f.1, e _ _ h1 f.2.1, e _ _ h2 f.2.2.1, e _ _ h2 f.2.2.2.1, e _ _ h2 f.2.2.2.2.1, e _ _ h2 f.2.2.2.2.2.1, e _ _ h2 f.2.2.2.2.2.2.1, e _ _ h2 f.2.2.2.2.2.2.2.1, e _ _ h2 f.2.2.2.2.2.2.2.2.1, e _ _ h2 f.2.2.2.2.2.2.2.2.2⟩
end
def SealPost2 (w0 : World) (x g K b t m n : Nat) (T : List ByteArray) (S' : List Wd) (y : Cl) (AA : Option Addr) (ac : Nat) (s : ByteArray) (e : Ending) (w' : World) : Prop :=
  e = .returned (.tuple #[.string s, .int .i64 0]) ∧ CS w' x g K b t m n T S' y AA ac ∧ Ch w0.heap.size (· = n) w0 w'
set_option maxHeartbeats 4000000 in
set_option maxRecDepth 100000 in
theorem cseal_calls (x g K b t m n : Nat) (T : List ByteArray) (S : List Wd) (y : Cl) (AA : Option Addr) (ac : Nat) (bd : Bd) (sg : Sg) (S' : List Wd) (w : World) (h : CS w x g K b t m n T S y AA ac) (hS : S.length ≤ 1000000000) (hid : 0 ≤ y.id ∧ y.id ≤ 100) (hl : bd.list = []) (he : sealE S (100 + y.id) bd = ((sg, 0), S')) (hf : fitsB sg = true) :
    Calls Try.prog 132 #[.pointer (some ⟨x, 0, none⟩), bd.val none 0] w (SealPost2 w x g K b t m n T S' y AA ac (bs (putSg sg))) := by
  have HG := Lib.hid (fun w hb => seal_calls b t m n T S (100 + y.id) bd none 0 w hb hS (by rw [hl]; exact sgs_nil w))
  unfold SealPost at HG
  rw [he] at HG
  simp only at HG
  have HP := Lib.hid (fun w => putSigned_calls sg w)
  unfold StrErr putSigned at HP
  rw [if_pos hf] at HP
  simp only at HP
  obtain ⟨who2, body, sig⟩ := sg
  obtain ⟨kd, vw, sq, cl, st, dg, tx, ls⟩ := bd
  simp only at hl
  subst hl
  unfold Sg.val at *
  unfold Bd.val Bd.cells at *
  simp only [List.length_nil] at *
  obtain ⟨out, hout⟩ : ∃ o, o = bs (putSg ⟨who2, body, sig⟩) := ⟨_, rfl⟩
  rw [← hout] at HP ⊢
  have hwr : IntKind.i64.wrap (100 + y.id) = 100 + y.id := wrap_near _ (by omega) (by omega)
  obtain ⟨B8, hB8⟩ : ∃ B8 : Obj, B8 = .cells #[.int .i64 kd, .int .i64 vw, .int .i64 sq, .int .i64 cl, .int .i64 st, .string dg, .string tx, .slice none 0 0] 59 := ⟨_, rfl⟩
  obtain ⟨W0, hW0⟩ : ∃ W0, W0 = w.alloc B8 := ⟨_, rfl⟩
  have hal := (Below.refl w.heap.size w).alloc (Nat.le_refl _) B8
  have HC0 := Lib.hid (show CS W0 x g K b t m n T S y AA ac by rw [hW0]; exact h.below hal)
  have HX0 := Lib.hid (show Box W0 w.heap.size #[.int .i64 kd, .int .i64 vw, .int .i64 sq, .int .i64 cl, .int .i64 st, .string dg, .string tx, .slice none 0 0] 59 by rw [hW0, hB8]; exact Box.new w _ _)
  have HCH0 := Lib.hid (show Ch w.heap.size (· = n) w W0 by rw [hW0]; exact Ch.of_below hal)
  have HWW := Lib.hid (show W0 = w.alloc (.cells #[.int .i64 kd, .int .i64 vw, .int .i64 sq, .int .i64 cl, .int .i64 st, .string dg, .string tx, .slice none 0 0] 59) by rw [hW0, hB8])
  have hxl := h.xl
  have hnl := h.bk.wm.lt
  have hlt := h.lt
  have hne := h.ne
  obtain ⟨Z3, hZ3⟩ : ∃ Z3 : Obj, Z3 = .cells #[.int .i64 0, .string ⟨#[]⟩, .string ⟨#[]⟩] 61 := ⟨_, rfl⟩
  have hal2 := (Below.refl W0.heap.size W0).alloc (Nat.le_refl _) Z3
  have hcA0 : CS (W0.alloc Z3).drew x g K b t m n T S y AA ac := (HC0.out.below hal2).drewN 1
  have hxA0 : Box (W0.alloc Z3).drew w.heap.size #[.int .i64 kd, .int .i64 vw, .int .i64 sq, .int .i64 cl, .int .i64 st, .string dg, .string tx, .slice none 0 0] 59 := (HX0.out.alloc Z3).drewN 1
  have hyA0 : Box (W0.alloc Z3).drew W0.heap.size #[.int .i64 0, .string ⟨#[]⟩, .string ⟨#[]⟩] 61 := by rw [hZ3]; exact (Box.new W0 _ _).drewN 1
  have hBA0 : Ch w.heap.size (· = n) w (W0.alloc Z3).drew := (HCH0.out.alloc HCH0.out.size Z3).drew
  rw [hZ3] at hcA0 hxA0 hyA0 hBA0
  have HCA := Lib.hid hcA0
  have HXA := Lib.hid hxA0
  have HYA := Lib.hid hyA0
  have HBA := Lib.hid hBA0
  have HC0D := Lib.hid (show CS W0.drew x g K b t m n T S y AA ac from HC0.out.drewN 1)
  have HX0D := Lib.hid (show Box W0.drew w.heap.size #[.int .i64 kd, .int .i64 vw, .int .i64 sq, .int .i64 cl, .int .i64 st, .string dg, .string tx, .slice none 0 0] 59 from HX0.out.drewN 1)
  have hzW : w.heap.size < W0.heap.size := HX0.out.lt
  have hxn : x ≠ W0.heap.size := by omega
  have hwn : w.heap.size ≠ W0.heap.size := by omega
  clear hcA0 hxA0 hyA0 hBA0 hal2 hZ3 Z3 hal h hW0 hB8 B8 he hf hout
  have r4 := HC0D.out.c4
  have r5 := HC0D.out.c5
  obtain ⟨y0, y1, y2, y3, y4, y5, y6, y7, -⟩ := HX0D.out.facts8
  have a4 := HCA.out.c4
  have a5 := HCA.out.c5
  obtain ⟨z0, z1, z2, z3, z4, z5, z6, z7, -⟩ := HXA.out.facts8
  go_enter Try.func132, Try.ntmps132
  go_wp2_with fail
  rw [← HWW.out]
  go_cut [6, 7] (fun s6 s7 wx => ∃ i, s6 = .pointer (some ⟨i, 0, none⟩) ∧ s7 = .int .i64 0 ∧ Hid (CS wx x g K b t m n T S' y AA ac ∧ Ch w.heap.size (· = n) w wx ∧ Box wx i #[.int .i64 who2, .string body, .string sig] 61))
  case first =>
    go_region_held3 (fun w' => w'.cell? ⟨x, 4, none⟩ = some (.int .i64 y.id) ∧ w'.cell? ⟨x, 5, none⟩ = some (.pointer (some ⟨b, 0, none⟩)) ∧ w'.cell? ⟨w.heap.size, 0, none⟩ = some (.int .i64 kd) ∧ w'.cell? ⟨w.heap.size, 1, none⟩ = some (.int .i64 vw) ∧ w'.cell? ⟨w.heap.size, 2, none⟩ = some (.int .i64 sq) ∧ w'.cell? ⟨w.heap.size, 3, none⟩ = some (.int .i64 cl) ∧ w'.cell? ⟨w.heap.size, 4, none⟩ = some (.int .i64 st) ∧ w'.cell? ⟨w.heap.size, 5, none⟩ = some (.string dg) ∧ w'.cell? ⟨w.heap.size, 6, none⟩ = some (.string tx) ∧ w'.cell? ⟨w.heap.size, 7, none⟩ = some (.slice none 0 0)) (with_reducible first | exact ⟨r4, r5, y0, y1, y2, y3, y4, y5, y6, y7⟩ | exact ⟨a4, a5, z0, z1, z2, z3, z4, z5, z6, z7⟩ | exact hkp | exact hka _ | exact hks _ _ _) (first | (go_at_call 51; first | (with_reducible refine Calls.mono (HG.out _ HC0D.out.bk) ?_; rintro e w5 ⟨rfl, hc5, hk5⟩; have HC5 := Lib.hid (HC0D.out.sign hc5 (Nat.le_refl _) ⟨by omega, by omega, fun k h1 h2 => by omega⟩ hk5); have HX5 := Lib.hid (Box.ch HX0D.out hc5 HX0D.out.lt (by omega)); have HCH5 := Lib.hid (HCH0.out.drew.step hc5 HCH0.out.drew.size (fun _ _ e => e)); clear hc5 hk5; have hkp := keepS HC5.out HX5.out; have hka := keepSA HC5.out HX5.out) | (with_reducible refine Calls.mono (HG.out _ HCA.out.bk) ?_; rintro e w5 ⟨rfl, hc5, hk5⟩; have HC5 := Lib.hid (HCA.out.sign hc5 (Nat.le_refl _) ⟨by omega, by omega, fun k h1 h2 => by omega⟩ hk5); have HX5 := Lib.hid (Box.ch HXA.out hc5 HXA.out.lt (by omega)); have HCH5 := Lib.hid (HBA.out.step hc5 HBA.out.size (fun _ _ e => e)); have HY5 := Lib.hid (Box.ch HYA.out hc5 HYA.out.lt (by omega)); clear hc5 hk5; have hkp := keepS HC5.out HX5.out; have hks := keepS3 HC5.out HX5.out hxn hwn; obtain ⟨j0, j1, j2, i0, i1, i2⟩ := HY5.out.facts3)))
    all_goals go_wp2_with fail
    all_goals go_meet
    all_goals have hz5 := HCH5.out.size
    · exact ⟨w5.heap.size, rfl, rfl, HC5.out.below ((Below.refl w5.heap.size w5).alloc (Nat.le_refl _) _), HCH5.out.alloc hz5 _, Box.new w5 _ _⟩
    · have hc3 : Ch w5.heap.size (· = W0.heap.size) w5 (((w5.setCell ⟨W0.heap.size, 0, none⟩ (.int .i64 who2)).setCell ⟨W0.heap.size, 1, none⟩ (.string body)).setCell ⟨W0.heap.size, 2, none⟩ (.string sig)) :=
        (((Ch.refl w5.heap.size (· = W0.heap.size) w5).setCell (p := ⟨W0.heap.size, 0, none⟩) (.inr rfl) _).setCell (p := ⟨W0.heap.size, 1, none⟩) (.inr rfl) _).setCell (p := ⟨W0.heap.size, 2, none⟩) (.inr rfl) _
      exact ⟨W0.heap.size, rfl, rfl, HC5.out.ch hc3 (Nat.le_refl _) (by omega) (fun k hk e => by have : k < W0.heap.size := (HC0D.out.row hk).2; omega) hc3.size, HCH5.out.step hc3 hz5 (fun k h1 e => by omega), ((HY5.out.set 0 _).set 1 _).set 2 _⟩
  case rest =>
    obtain ⟨i, rfl, rfl, HZ⟩ := hcut
    obtain ⟨hcz, hhz, hxz⟩ := HZ.out
    have HCZ := Lib.hid hcz
    have HHZ := Lib.hid hhz
    have hzz := hhz.size
    obtain ⟨j0, j1, j2, -⟩ := Box.facts3 hxz
    clear hcz hhz hxz HZ r4 r5 y0 y1 y2 y3 y4 y5 y6 y7 a4 a5 z0 z1 z2 z3 z4 z5 z6 z7
    go_wp2_with fail
    refine (HP.out _).mono ?_
    rintro e w6 ⟨rfl, hb6⟩
    have HB6 := Lib.hid hb6
    clear hb6
    go_wp2
    go_ret2
    exact ⟨rfl, HCZ.out.below HB6.out, HHZ.out.step (Ch.of_below (S := fun _ => False) HB6.out) hzz (fun _ _ e => e.elim)⟩
end Go.Proofs.Ytfgpchffkpomoaa

/- A client asks for an op, and for a key: the walks through Request and Ask. -/
namespace Go.Proofs.Ytfgpchffkpomoaa
set_option linter.unusedSimpArgs false
set_option linter.unusedVariables false
open Go.RowKit

section
variable {w w' : World} {x g K b t m n : Nat} {T : List ByteArray} {S : List Wd} {y : Cl} {AA : Option Addr} {ac : Nat}
theorem CS.setC (h : CS w x g K b t m n T S y AA ac) (i : Nat) (v : Value) (y' : Cl) (ht : y'.told = y.told) (ha : y'.ans = y.ans) (hy : (y.cells b g AA ac).setIfInBounds i v = y'.cells b g AA ac) : CS (w.setCell ⟨x, i, none⟩ v) x g K b t m n T S y' AA ac := by
  have hn := h.ne
  have hl := h.lt
  have hc : Ch w.heap.size (· = x) w (w.setCell ⟨x, i, none⟩ v) := (Ch.refl w.heap.size (· = x) w).setCell (.inr rfl) v
  refine ⟨h.bk.ch hc (Nat.le_refl _) (by omega), by rw [← hy]; exact h.box.set i v, by rw [ht]; exact h.told.ch hc h.told.lt (fun e => hn.1 e.symm), ?_, by have := hc.size; omega, hn⟩
  rw [ha]
  exact own_ch h.ans hc (fun k hk => ⟨(h.row hk).2, by have := (h.row hk).1; omega⟩)
theorem CS.forget (h : CS w x g K b t m n T S y AA ac) {l : List Td} (ht : ToldS w' g l) (hc : Ch w.heap.size (· = g) w w') : CS w' x g K b t m n T S { y with told := l } AA ac := by
  have hl := h.lt
  have hn := h.ne
  have hx := h.xl
  have hz := hc.size
  exact ⟨h.bk.ch hc (Nat.le_refl _) (by omega), h.box.ch hc hx (by omega), ht, own_ch h.ans hc (fun k hk => ⟨(h.row hk).2, by have := (h.row hk).1; omega⟩), by omega, hn⟩
end
/-- What a client is behind its request. -/
def askedCl (y : Cl) (s : ByteArray) : Cl := { y with stamp := y.stamp + 1, asked := s, waits := true, ticks := 0, told := [] }
def ReqPost (w0 : World) (x g K b t m n : Nat) (T : List ByteArray) (S' : List Wd) (y' : Cl) (AA : Option Addr) (ac : Nat) (l : List Sn) (e : Ending) (w' : World) : Prop :=
  ∃ A c, e = .returned (.tuple #[.slice A l.length c, .int .i64 0]) ∧ CS w' x g K b t m n T S' y' AA ac ∧ Ch w0.heap.size (fun k => k = x ∨ k = g ∨ k = n) w0 w' ∧ w'.ownsRow w0.heap.size 211 2 (.slice A l.length c) l.length (l.flatMap Sn.cells)
set_option maxHeartbeats 4000000 in
set_option maxRecDepth 100000 in
theorem request_calls (x g K b t m n : Nat) (T : List ByteArray) (S : List Wd) (y : Cl) (AA : Option Addr) (ac : Nat) (op : ByteArray) (sg : Sg) (S' : List Wd) (f : Nat) (w : World) (h : CS w x g K b t m n T S y AA ac) (hS : S.length ≤ 1000000000) (hid : 0 ≤ y.id ∧ y.id ≤ 15) (hst : 0 ≤ y.stamp ∧ y.stamp < 1099511627776) (hop : op.size ≤ 256) (hw : y.waits = false) (hf : y.F = (f : Int)) (hf4 : f ≤ 4) (he : sealE S (100 + y.id) (cliB 1 y.id (y.stamp + 1) op) = ((sg, 0), S')) (hft : fitsB sg = true) :
    Calls Try.prog 68 #[.pointer (some ⟨x, 0, none⟩), .string op] w (ReqPost w x g K b t m n T S' (askedCl y (bs (putSg sg))) AA ac (toAll (3 * f + 1) (bs (putSg sg)))) := by
  have HM := Lib.hid (cmade_calls x g K b t m n T S y AA ac w h)
  have HG := Lib.hid (fun w h => cseal_calls x g K b t m n T S y AA ac (cliB 1 y.id (y.stamp + 1) op) sg S' w h hS (by omega) rfl he hft)
  unfold SealPost2 cliB Bd.val Bd.cells at HG
  simp only [List.length_nil] at HG
  obtain ⟨out, hout⟩ : ∃ o, o = bs (putSg sg) := ⟨_, rfl⟩
  rw [← hout] at HG ⊢
  have HH := Lib.hid h
  have k8 := h.c8
  rw [hw] at k8
  have k6 := h.c6
  have hd1 : decide ((256 : Int) < (op.size : Int)) = false := by simp; omega
  have hd2 : (y.stamp == 1099511627776) = false := by rw [beq_eq_false_iff_ne]; omega
  have hwr : IntKind.i64.wrap (y.stamp + 1) = y.stamp + 1 := wrap_near _ (by omega) (by omega)
  have hlt := h.lt
  have hne := h.ne
  have hxl := h.xl
  have hgl := h.told.lt
  have hnl := h.bk.wm.lt
  have HROW := Lib.hid (fun k hk => h.row (k := k) hk)
  clear h he hft hout hw
  go_enter Try.func68, Try.ntmps68
  go_wp2_with fail
  refine HM.out.mono ?_
  rintro e wx ⟨rfl, hwx⟩
  obtain rfl := hwx.symm
  go_wp2_with fail
  have HD := Lib.hid (show CS w.drew x g K b t m n T S y AA ac from HH.out.drewN 1)
  have r4 := HD.out.c4
  have r6 := HD.out.c6
  clear k8 k6
  go_region_held3 (fun w' => w'.cell? ⟨x, 4, none⟩ = some (.int .i64 y.id) ∧ w'.cell? ⟨x, 6, none⟩ = some (.int .i64 y.stamp)) (with_reducible first | exact ⟨r4, r6⟩ | exact ⟨q4, q6⟩) (first | (go_at_call 132; with_reducible refine Calls.mono (HG.out _ HD.out) ?_; rintro e w5 ⟨rfl, hc5, hh5⟩; have HC5 := Lib.hid hc5; have HCH5 := Lib.hid (((Ch.refl w.heap.size (fun k => k = x ∨ k = g ∨ k = n) w).drew).step hh5 (Nat.le_refl _) (fun _ _ e => .inr (.inr e))); have q4 := hc5.c4; have q6 := hc5.c6; clear hc5 hh5))
  all_goals
    have hz5 := HCH5.out.size
    have S1 := Lib.hid (HC5.out.setC 6 (.int .i64 (y.stamp + 1)) { y with stamp := y.stamp + 1 } rfl rfl rfl)
    have S2 := Lib.hid (S1.out.setC 7 (.string out) { y with stamp := y.stamp + 1, asked := out } rfl rfl rfl)
    have S3 := Lib.hid (S2.out.setC 8 (.bool true) { y with stamp := y.stamp + 1, asked := out, waits := true } rfl rfl rfl)
    have S4 := Lib.hid (S3.out.setC 9 (.int .i64 0) { y with stamp := y.stamp + 1, asked := out, waits := true, ticks := 0 } rfl rfl rfl)
    obtain ⟨w9, hrun, ht9, hc9, hs9⟩ := S4.out.told.clear (T := 207) Try.underlying207
    have S5 := Lib.hid (show CS w9 x g K b t m n T S' (askedCl y out) AA ac from S4.out.forget ht9 hc9)
    have d10 := S4.out.c10
    have p6 := HC5.out.c6
    have p7 := HC5.out.c7
    have p8 := HC5.out.c8
    have p9 := HC5.out.c9
    have f6 := HC5.out.free 6
    have f7 := HC5.out.free 7
    have f8 := HC5.out.free 8
    have f9 := HC5.out.free 9
    have HCH9 := Lib.hid (((((HCH5.out.setCell (p := ⟨x, 6, none⟩) (.inr (.inl rfl)) _).setCell (p := ⟨x, 7, none⟩) (.inr (.inl rfl)) _).setCell (p := ⟨x, 8, none⟩) (.inr (.inl rfl)) _).setCell (p := ⟨x, 9, none⟩) (.inr (.inl rfl)) _).step hc9 (by simpa [World.setCell] using hz5) (fun k _ e => .inr (.inl e)))
    have hz9 := HCH9.out.size
    have HALL := Lib.hid (all_calls x g K b t m n T S' (askedCl y out) AA ac out f w9 S5.out hf hf4)
    clear ht9 hc9 hs9
    go_wp2_with fail
    refine HALL.out.mono ?_
    rintro e wa ⟨A, c, rfl, hba, hoa⟩
    have HBA := Lib.hid hba
    have HOA := Lib.hid hoa
    clear hba hoa
    go_wp2
    go_ret2
    exact ⟨A, c, rfl, S5.out.below HBA.out, HCH9.out.step (Ch.of_below (S := fun _ => False) HBA.out) hz9 (fun _ _ e => e.elim), own_base HOA.out hz9⟩
end Go.Proofs.Ytfgpchffkpomoaa

/- A client is made, or not: the walks through Fits and New. -/
namespace Go.Proofs.Ytfgpchffkpomoaa
set_option linter.unusedSimpArgs false
set_option linter.unusedVariables false
open Go.RowKit

def fitsC (F C G P : Int) : Bool := decide (1 ≤ F) && (decide (F ≤ 4) && (decide (1 ≤ C) && (decide (C ≤ 16) && (decide (1 ≤ G) && (decide (G ≤ 4) && (decide (1 ≤ P) && decide (P ≤ 64)))))))
set_option maxHeartbeats 4000000 in
set_option maxRecDepth 100000 in
theorem cfits_calls (F C G P : Int) (w : World) :
    Calls Try.prog 130 #[.agg #[.int .i64 F, .int .i64 C, .int .i64 G, .int .i64 P]] w (BoolPost (fitsC F C G P) w) := by
  have HX := Lib.hid (Box.new w #[.int .i64 F, .int .i64 C, .int .i64 G, .int .i64 P] 104)
  obtain ⟨k0, k1, k2, k3, -⟩ := Box.facts4 HX.out
  have HA := Lib.hid ((Below.refl w.heap.size w).alloc (Nat.le_refl _) (.cells #[.int .i64 F, .int .i64 C, .int .i64 G, .int .i64 P] 104))
  have HF := Lib.hid (show fitsC F C G P = (decide (1 ≤ F) && (decide (F ≤ 4) && (decide (1 ≤ C) && (decide (C ≤ 16) && (decide (1 ≤ G) && (decide (G ≤ 4) && (decide (1 ≤ P) && decide (P ≤ 64)))))))) from rfl)
  obtain ⟨d1, h1⟩ : ∃ d, d = decide (1 ≤ F) := ⟨_, rfl⟩
  obtain ⟨d2, h2⟩ : ∃ d, d = decide (F ≤ 4) := ⟨_, rfl⟩
  obtain ⟨d3, h3⟩ : ∃ d, d = decide (1 ≤ C) := ⟨_, rfl⟩
  obtain ⟨d4, h4⟩ : ∃ d, d = decide (C ≤ 16) := ⟨_, rfl⟩
  obtain ⟨d5, h5⟩ : ∃ d, d = decide (1 ≤ G) := ⟨_, rfl⟩
  obtain ⟨d6, h6⟩ : ∃ d, d = decide (G ≤ 4) := ⟨_, rfl⟩
  obtain ⟨d7, h7⟩ : ∃ d, d = decide (1 ≤ P) := ⟨_, rfl⟩
  obtain ⟨d8, h8⟩ : ∃ d, d = decide (P ≤ 64) := ⟨_, rfl⟩
  rw [← h1, ← h2, ← h3, ← h4, ← h5, ← h6, ← h7, ← h8] at HF
  have g1 := h1.symm
  have g2 := h2.symm
  have g3 := h3.symm
  have g4 := h4.symm
  have g5 := h5.symm
  have g6 := h6.symm
  have g7 := h7.symm
  have g8 := h8.symm
  clear h1 h2 h3 h4 h5 h6 h7 h8
  cases d1
  case' true => cases d2
  case' true.true => cases d3
  case' true.true.true => cases d4
  case' true.true.true.true => cases d5
  case' true.true.true.true.true => cases d6
  case' true.true.true.true.true.true => cases d7
  case' true.true.true.true.true.true.true => cases d8
  all_goals
    go_enter Try.func130, Try.ntmps130
    go_wp2
    go_ret
    rw [HF.out]
    exact ⟨rfl, HA.out⟩

def NewCl (F C G P id : Int) : Cl := ⟨F, C, G, P, id, 0, ⟨#[]⟩, false, 0, [], []⟩
/-- A client, or an error; the book has seen one text more. -/
def CNewPost (w0 : World) (b t m n : Nat) (T : List ByteArray) (S : List Wd) (ok : Bool) (F C G P id : Int) (e : Ending) (w' : World) : Prop :=
  ∃ T', Ext T T' ∧ T'.length ≤ T.length + 1 ∧ Ch w0.heap.size (· = m) w0 w' ∧
    ((ok = true ∧ ∃ x g, e = .returned (.tuple #[.pointer (some ⟨x, 0, none⟩), .int .i64 0]) ∧ w0.heap.size ≤ x ∧ w0.heap.size ≤ g ∧ CS w' x g w'.heap.size b t m n T' S (NewCl F C G P id) none 0) ∨
     (ok = false ∧ e = .returned (.tuple #[.pointer none, .int .i64 1]) ∧ Bk w' b t m n T' S))
set_option maxHeartbeats 4000000 in
set_option maxRecDepth 100000 in
theorem cnew_calls (F C G P id : Int) (b t m n : Nat) (T : List ByteArray) (S : List Wd) (w : World) (hb : Bk w b t m n T S) (hT : T.length ≤ 100000000) :
    Calls Try.prog 66 #[.agg #[.int .i64 F, .int .i64 C, .int .i64 G, .int .i64 P], .int .i64 id, .pointer (some ⟨b, 0, none⟩)] w (CNewPost w b t m n T S (fitsC F C G P && (decide (0 ≤ id) && decide (id < C))) F C G P id) := by
  have hmm := @run_makeMap Try.prog
  have hA := (Below.refl w.heap.size w).alloc (Nat.le_refl _) (.cells #[.int .i64 F, .int .i64 C, .int .i64 G, .int .i64 P] 104)
  have HX := Lib.hid (Box.new w #[.int .i64 F, .int .i64 C, .int .i64 G, .int .i64 P] 104)
  have HA := Lib.hid hA
  have HB := Lib.hid (hb.below hA)
  have HF := Lib.hid (fun w => cfits_calls F C G P w)
  obtain ⟨k0, k1, k2, k3, -⟩ := Box.facts4 HX.out
  obtain ⟨fc, hfc⟩ : ∃ d, d = fitsC F C G P := ⟨_, rfl⟩
  rw [← hfc] at HF ⊢
  have hml := hb.tm.lt
  clear hA hb hfc
  go_enter Try.func66, Try.ntmps66
  go_wp2_with fail
  refine (HF.out _).mono ?_
  rintro e w1 ⟨rfl, hb1⟩
  have HX1 := Lib.hid (Box.call HX.out hb1)
  have HB1 := Lib.hid (HB.out.below hb1)
  have HA1 := Lib.hid (HA.out.trans (hb1.mono HA.out.size))
  clear k0 k1 k2 k3 hb1
  obtain ⟨k0, k1, k2, k3, -⟩ := Box.facts4 HX1.out
  cases fc with
  | false =>
    go_wp2
    go_ret2
    exact ⟨T, Ext.refl _, by omega, Ch.of_below HA1.out, .inr ⟨rfl, rfl, HB1.out⟩⟩
  | true =>
    by_cases h0 : id < 0
    · have hd0 : decide (id < 0) = true := by simpa using h0
      have hd1 : decide (0 ≤ id) = false := by simpa using h0
      go_wp2
      go_ret2
      exact ⟨T, Ext.refl _, by omega, Ch.of_below HA1.out, .inr ⟨by rw [hd1]; rfl, rfl, HB1.out⟩⟩
    · have hd0 : decide (id < 0) = false := by simpa using h0
      have hd1 : decide (0 ≤ id) = true := by simpa using h0
      by_cases h1 : C ≤ id
      · have hd2 : decide (C ≤ id) = true := by simpa using h1
        have hd3 : decide (id < C) = false := by simpa using h1
        go_wp2
        go_ret2
        exact ⟨T, Ext.refl _, by omega, Ch.of_below HA1.out, .inr ⟨by rw [hd3]; simp, rfl, HB1.out⟩⟩
      · have hd2 : decide (C ≤ id) = false := by simpa using h1
        have hd3 : decide (id < C) = true := by simpa using h1
        rw [hd1, hd3]
        have hmw : ¬ w.heap.size = m := by omega
        have HD := Lib.hid (digest_calls b t m n T S ⟨#[]⟩ w1 HB1.out (by omega) (by simp [ByteArray.size, maxLen]))
        have hsz := hh_size T ⟨#[]⟩
        have hdl := digT_len T ⟨#[]⟩
        have hke := (dig_known T ⟨#[]⟩).1
        unfold hh at hsz
        obtain ⟨⟨gg, T1⟩, hg⟩ : ∃ q, q = digS T ⟨#[]⟩ := ⟨_, rfl⟩
        rw [← hg] at HD hsz hdl hke
        simp only at HD hsz hdl hke
        have hne : gg.toList.isEmpty = false := by have := has_text gg; rw [decide_eq_true (by omega)] at this; simpa using this
        have HKE := Lib.hid hke
        clear hg hke hd1 hd3 h0 h1
        go_wp2_with fail
        refine HD.out.mono ?_
        rintro e w2 ⟨rfl, hc2, hk2⟩
        have HC2 := Lib.hid ((Ch.of_below (S := (· = m)) HA1.out).step hc2 HA1.out.size (fun _ _ e => e))
        have HK2 := Lib.hid hk2
        have HX2 := Lib.hid (Box.ch HX1.out hc2 HX1.out.lt hmw)
        have hz2 := HC2.out.size
        clear hc2 hk2 k0 k1 k2 k3
        obtain ⟨k0, k1, k2, k3, -⟩ := Box.facts4 HX2.out
        go_wp2
        go_ret2
        have hlt : b < w2.heap.size ∧ t < w2.heap.size ∧ m < w2.heap.size ∧ n < w2.heap.size := ⟨HK2.out.lt.1, HK2.out.lt.2, HK2.out.tm.lt, HK2.out.wm.lt⟩
        refine ⟨T1, HKE.out, hdl, (HC2.out.alloc hz2 _).alloc (by simp; omega) _, .inl ⟨by simp at hd0 hd2; simp; omega, w2.heap.size + 1, w2.heap.size, rfl, by omega, hz2, ?_⟩⟩
        have hbx := Box.new (w2.alloc (.map #[] 0)) ((NewCl F C G P id).cells b w2.heap.size none 0) 209
        simp only [World.size_alloc] at hbx
        refine ⟨(HK2.out.alloc _).alloc _, hbx, (ToldS.new w2).alloc _, ⟨rfl, .inl ⟨rfl, rfl⟩⟩, ?_, ?_⟩
        · simp only [World.size_alloc]; omega
        · omega
end Go.Proofs.Ytfgpchffkpomoaa
