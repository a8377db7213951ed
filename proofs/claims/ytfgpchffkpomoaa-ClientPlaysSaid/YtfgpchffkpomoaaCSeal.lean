/- A client lays and signs a body: the walk. -/
import Derived.Test.YtfgpchffkpomoaaReply
namespace Go.Proofs.Ytfgpchffkpomoaa
set_option linter.unusedSimpArgs false
set_option linter.unusedVariables false
open Go.RowKit

theorem CS.sign {w w' : World} {x g K b t m n B : Nat} {T T' : List ByteArray} {S S' : List Wd} {y : Cl} {AA : Option Addr} {ac : Nat} {X : Nat → Prop} (h : CS w x g K b t m n T S y AA ac) (hc : Ch B X w w') (hB : w.heap.size ≤ B) (hX : ¬ X x ∧ ¬ X g ∧ ∀ k, K ≤ k → k < w.heap.size → ¬ X k) (hk : Bk w' b t m n T' S') : CS w' x g K b t m n T' S' y AA ac :=
  ⟨hk, h.box.ch hc (by have := h.xl; omega) hX.1, h.told.ch hc (by have := h.told.lt; omega) hX.2.1, own_ch h.ans hc (fun k hk => ⟨by have := (h.row hk).2; omega, hX.2.2 k (h.row hk).1 (h.row hk).2⟩), by have := h.lt; have := hc.size; omega, h.ne⟩
section
variable {w : World} {x g K b t m n k R : Nat} {T : List ByteArray} {S : List Wd} {y : Cl} {AA : Option Addr} {ac : Nat} {u0 u1 u2 u3 u4 u5 u6 u7 : Value} {TY : TypeId}
theorem keepS (h : CS w x g K b t m n T S y AA ac) (hb : Box w k #[u0, u1, u2, u3, u4, u5, u6, u7] TY) : w.cell? ⟨x, 4, none⟩ = some (.int .i64 y.id) ∧ w.cell? ⟨x, 5, none⟩ = some (.pointer (some ⟨b, 0, none⟩)) ∧ w.cell? ⟨k, 0, none⟩ = some u0 ∧ w.cell? ⟨k, 1, none⟩ = some u1 ∧ w.cell? ⟨k, 2, none⟩ = some u2 ∧ w.cell? ⟨k, 3, none⟩ = some u3 ∧ w.cell? ⟨k, 4, none⟩ = some u4 ∧ w.cell? ⟨k, 5, none⟩ = some u5 ∧ w.cell? ⟨k, 6, none⟩ = some u6 ∧ w.cell? ⟨k, 7, none⟩ = some u7 :=
  ⟨h.c4, h.c5, hb.cell 0, hb.cell 1, hb.cell 2, hb.cell 3, hb.cell 4, hb.cell 5, hb.cell 6, hb.cell 7⟩
theorem keepSA (h : CS w x g K b t m n T S y AA ac) (hb : Box w k #[u0, u1, u2, u3, u4, u5, u6, u7] TY) (o : Obj) : (w.alloc o).cell? ⟨x, 4, none⟩ = some (.int .i64 y.id) ∧ (w.alloc o).cell? ⟨x, 5, none⟩ = some (.pointer (some ⟨b, 0, none⟩)) ∧ (w.alloc o).cell? ⟨k, 0, none⟩ = some u0 ∧ (w.alloc o).cell? ⟨k, 1, none⟩ = some u1 ∧ (w.alloc o).cell? ⟨k, 2, none⟩ = some u2 ∧ (w.alloc o).cell? ⟨k, 3, none⟩ = some u3 ∧ (w.alloc o).cell? ⟨k, 4, none⟩ = some u4 ∧ (w.alloc o).cell? ⟨k, 5, none⟩ = some u5 ∧ (w.alloc o).cell? ⟨k, 6, none⟩ = some u6 ∧ (w.alloc o).cell? ⟨k, 7, none⟩ = some u7 :=
  keepS (h.below ((Below.refl w.heap.size w).alloc (Nat.le_refl _) o)) (hb.alloc o)
theorem keepS3 (h : CS w x g K b t m n T S y AA ac) (hb : Box w k #[u0, u1, u2, u3, u4, u5, u6, u7] TY) (h1 : x ≠ R) (h2 : k ≠ R) (v0 v1 v2 : Value) : (((w.setCell ⟨R, 0, none⟩ v0).setCell ⟨R, 1, none⟩ v1).setCell ⟨R, 2, none⟩ v2).cell? ⟨x, 4, none⟩ = some (.int .i64 y.id) ∧ (((w.setCell ⟨R, 0, none⟩ v0).setCell ⟨R, 1, none⟩ v1).setCell ⟨R, 2, none⟩ v2).cell? ⟨x, 5, none⟩ = some (.pointer (some ⟨b, 0, none⟩)) ∧ (((w.setCell ⟨R, 0, none⟩ v0).setCell ⟨R, 1, none⟩ v1).setCell ⟨R, 2, none⟩ v2).cell? ⟨k, 0, none⟩ = some u0 ∧ (((w.setCell ⟨R, 0, none⟩ v0).setCell ⟨R, 1, none⟩ v1).setCell ⟨R, 2, none⟩ v2).cell? ⟨k, 1, none⟩ = some u1 ∧ (((w.setCell ⟨R, 0, none⟩ v0).setCell ⟨R, 1, none⟩ v1).setCell ⟨R, 2, none⟩ v2).cell? ⟨k, 2, none⟩ = some u2 ∧ (((w.setCell ⟨R, 0, none⟩ v0).setCell ⟨R, 1, none⟩ v1).setCell ⟨R, 2, none⟩ v2).cell? ⟨k, 3, none⟩ = some u3 ∧ (((w.setCell ⟨R, 0, none⟩ v0).setCell ⟨R, 1, none⟩ v1).setCell ⟨R, 2, none⟩ v2).cell? ⟨k, 4, none⟩ = some u4 ∧ (((w.setCell ⟨R, 0, none⟩ v0).setCell ⟨R, 1, none⟩ v1).setCell ⟨R, 2, none⟩ v2).cell? ⟨k, 5, none⟩ = some u5 ∧ (((w.setCell ⟨R, 0, none⟩ v0).setCell ⟨R, 1, none⟩ v1).setCell ⟨R, 2, none⟩ v2).cell? ⟨k, 6, none⟩ = some u6 ∧ (((w.setCell ⟨R, 0, none⟩ v0).setCell ⟨R, 1, none⟩ v1).setCell ⟨R, 2, none⟩ v2).cell? ⟨k, 7, none⟩ = some u7 := by
  have e : ∀ (p : Addr) (v : Value), p.block ≠ R → w.cell? p = some v → (((w.setCell ⟨R, 0, none⟩ v0).setCell ⟨R, 1, none⟩ v1).setCell ⟨R, 2, none⟩ v2).cell? p = some v := fun p v hp h => by
    rw [← h]
    refine World.cell?_of_block ?_
    rw [Below.heap_setCell _ _ _ _ (fun e => hp e), Below.heap_setCell _ _ _ _ (fun e => hp e), Below.heap_setCell _ _ _ _ (fun e => hp e)]
  have f := keepS h hb
  exact ⟨e _ _ h1 f.1, e _ _ h1 f.2.1, e _ _ h2 f.2.2.1, e _ _ h2 f.2.2.2.1, e _ _ h2 f.2.2.2.2.1, e _ _ h2 f.2.2.2.2.2.1, e _ _ h2 f.2.2.2.2.2.2.1, e _ _ h2 f.2.2.2.2.2.2.2.1, e _ _ h2 f.2.2.2.2.2.2.2.2.1, e _ _ h2 f.2.2.2.2.2.2.2.2.2⟩
end
def SealPost2 (w0 : World) (x g K b t m n : Nat) (T : List ByteArray) (S' : List Wd) (y : Cl) (AA : Option Addr) (ac : Nat) (s : ByteArray) (e : Ending) (w' : World) : Prop :=
  e = .returned (.tuple #[.string s, .int .i64 0]) ∧ CS w' x g K b t m n T S' y AA ac ∧ Ch w0.heap.size (· = n) w0 w'
set_option maxHeartbeats 4000000 in
set_option maxRecDepth 100000 in
theorem cseal_calls (x g K b t m n : Nat) (T : List ByteArray) (S : List Wd) (y : Cl) (AA : Option Addr) (ac : Nat) (bd : Bd) (sg : Sg) (S' : List Wd) (w : World) (h : CS w x g K b t m n T S y AA ac) (hS : S.length ≤ 1000000000) (hid : 0 ≤ y.id ∧ y.id ≤ 100) (hl : bd.list = []) (he : sealE S (100 + y.id) bd = ((sg, 0), S')) (hf : fitsB sg = true) :
    Calls Try.prog 132 #[.pointer (some ⟨x, 0, none⟩), bd.val none 0] w (SealPost2 w x g K b t m n T S' y AA ac (bs (putSg sg))) := by
  have HG := Lib.hid (fun w hb => seal_calls b t m n T S (100 + y.id) bd none 0 w hb hS (by rw [hl]; exact sgs_nil w))
  unfold SealPost at HG
  rw [he] at HG
  simp only at HG
  have HP := Lib.hid (fun w => putSigned_calls sg w)
  unfold StrErr putSigned at HP
  rw [if_pos hf] at HP
  simp only at HP
  obtain ⟨who2, body, sig⟩ := sg
  obtain ⟨kd, vw, sq, cl, st, dg, tx, ls⟩ := bd
  simp only at hl
  subst hl
  unfold Sg.val at *
  unfold Bd.val Bd.cells at *
  simp only [List.length_nil] at *
  obtain ⟨out, hout⟩ : ∃ o, o = bs (putSg ⟨who2, body, sig⟩) := ⟨_, rfl⟩
  rw [← hout] at HP ⊢
  have hwr : IntKind.i64.wrap (100 + y.id) = 100 + y.id := wrap_near _ (by omega) (by omega)
  obtain ⟨B8, hB8⟩ : ∃ B8 : Obj, B8 = .cells #[.int .i64 kd, .int .i64 vw, .int .i64 sq, .int .i64 cl, .int .i64 st, .string dg, .string tx, .slice none 0 0] 59 := ⟨_, rfl⟩
  obtain ⟨W0, hW0⟩ : ∃ W0, W0 = w.alloc B8 := ⟨_, rfl⟩
  have hal := (Below.refl w.heap.size w).alloc (Nat.le_refl _) B8
  have HC0 := Lib.hid (show CS W0 x g K b t m n T S y AA ac by rw [hW0]; exact h.below hal)
  have HX0 := Lib.hid (show Box W0 w.heap.size #[.int .i64 kd, .int .i64 vw, .int .i64 sq, .int .i64 cl, .int .i64 st, .string dg, .string tx, .slice none 0 0] 59 by rw [hW0, hB8]; exact Box.new w _ _)
  have HCH0 := Lib.hid (show Ch w.heap.size (· = n) w W0 by rw [hW0]; exact Ch.of_below hal)
  have HWW := Lib.hid (show W0 = w.alloc (.cells #[.int .i64 kd, .int .i64 vw, .int .i64 sq, .int .i64 cl, .int .i64 st, .string dg, .string tx, .slice none 0 0] 59) by rw [hW0, hB8])
  have hxl := h.xl
  have hnl := h.bk.wm.lt
  have hlt := h.lt
  have hne := h.ne
  obtain ⟨Z3, hZ3⟩ : ∃ Z3 : Obj, Z3 = .cells #[.int .i64 0, .string ⟨#[]⟩, .string ⟨#[]⟩] 61 := ⟨_, rfl⟩
  have hal2 := (Below.refl W0.heap.size W0).alloc (Nat.le_refl _) Z3
  have hcA0 : CS (W0.alloc Z3).drew x g K b t m n T S y AA ac := (HC0.out.below hal2).drewN 1
  have hxA0 : Box (W0.alloc Z3).drew w.heap.size #[.int .i64 kd, .int .i64 vw, .int .i64 sq, .int .i64 cl, .int .i64 st, .string dg, .string tx, .slice none 0 0] 59 := (HX0.out.alloc Z3).drewN 1
  have hyA0 : Box (W0.alloc Z3).drew W0.heap.size #[.int .i64 0, .string ⟨#[]⟩, .string ⟨#[]⟩] 61 := by rw [hZ3]; exact (Box.new W0 _ _).drewN 1
  have hBA0 : Ch w.heap.size (· = n) w (W0.alloc Z3).drew := (HCH0.out.alloc HCH0.out.size Z3).drew
  rw [hZ3] at hcA0 hxA0 hyA0 hBA0
  have HCA := Lib.hid hcA0
  have HXA := Lib.hid hxA0
  have HYA := Lib.hid hyA0
  have HBA := Lib.hid hBA0
  have HC0D := Lib.hid (show CS W0.drew x g K b t m n T S y AA ac from HC0.out.drewN 1)
  have HX0D := Lib.hid (show Box W0.drew w.heap.size #[.int .i64 kd, .int .i64 vw, .int .i64 sq, .int .i64 cl, .int .i64 st, .string dg, .string tx, .slice none 0 0] 59 from HX0.out.drewN 1)
  have hzW : w.heap.size < W0.heap.size := HX0.out.lt
  have hxn : x ≠ W0.heap.size := by omega
  have hwn : w.heap.size ≠ W0.heap.size := by omega
  clear hcA0 hxA0 hyA0 hBA0 hal2 hZ3 Z3 hal h hW0 hB8 B8 he hf hout
  have r4 := HC0D.out.c4
  have r5 := HC0D.out.c5
  obtain ⟨y0, y1, y2, y3, y4, y5, y6, y7, -⟩ := HX0D.out.facts8
  have a4 := HCA.out.c4
  have a5 := HCA.out.c5
  obtain ⟨z0, z1, z2, z3, z4, z5, z6, z7, -⟩ := HXA.out.facts8
  go_enter Try.func132, Try.ntmps132
  go_wp2_with fail
  rw [← HWW.out]
  go_cut [6, 7] (fun s6 s7 wx => ∃ i, s6 = .pointer (some ⟨i, 0, none⟩) ∧ s7 = .int .i64 0 ∧ Hid (CS wx x g K b t m n T S' y AA ac ∧ Ch w.heap.size (· = n) w wx ∧ Box wx i #[.int .i64 who2, .string body, .string sig] 61))
  case first =>
    go_region_held3 (fun w' => w'.cell? ⟨x, 4, none⟩ = some (.int .i64 y.id) ∧ w'.cell? ⟨x, 5, none⟩ = some (.pointer (some ⟨b, 0, none⟩)) ∧ w'.cell? ⟨w.heap.size, 0, none⟩ = some (.int .i64 kd) ∧ w'.cell? ⟨w.heap.size, 1, none⟩ = some (.int .i64 vw) ∧ w'.cell? ⟨w.heap.size, 2, none⟩ = some (.int .i64 sq) ∧ w'.cell? ⟨w.heap.size, 3, none⟩ = some (.int .i64 cl) ∧ w'.cell? ⟨w.heap.size, 4, none⟩ = some (.int .i64 st) ∧ w'.cell? ⟨w.heap.size, 5, none⟩ = some (.string dg) ∧ w'.cell? ⟨w.heap.size, 6, none⟩ = some (.string tx) ∧ w'.cell? ⟨w.heap.size, 7, none⟩ = some (.slice none 0 0)) (with_reducible first | exact ⟨r4, r5, y0, y1, y2, y3, y4, y5, y6, y7⟩ | exact ⟨a4, a5, z0, z1, z2, z3, z4, z5, z6, z7⟩ | exact hkp | exact hka _ | exact hks _ _ _) (first | (go_at_call 51; first | (with_reducible refine Calls.mono (HG.out _ HC0D.out.bk) ?_; rintro e w5 ⟨rfl, hc5, hk5⟩; have HC5 := Lib.hid (HC0D.out.sign hc5 (Nat.le_refl _) ⟨by omega, by omega, fun k h1 h2 => by omega⟩ hk5); have HX5 := Lib.hid (Box.ch HX0D.out hc5 HX0D.out.lt (by omega)); have HCH5 := Lib.hid (HCH0.out.drew.step hc5 HCH0.out.drew.size (fun _ _ e => e)); clear hc5 hk5; have hkp := keepS HC5.out HX5.out; have hka := keepSA HC5.out HX5.out) | (with_reducible refine Calls.mono (HG.out _ HCA.out.bk) ?_; rintro e w5 ⟨rfl, hc5, hk5⟩; have HC5 := Lib.hid (HCA.out.sign hc5 (Nat.le_refl _) ⟨by omega, by omega, fun k h1 h2 => by omega⟩ hk5); have HX5 := Lib.hid (Box.ch HXA.out hc5 HXA.out.lt (by omega)); have HCH5 := Lib.hid (HBA.out.step hc5 HBA.out.size (fun _ _ e => e)); have HY5 := Lib.hid (Box.ch HYA.out hc5 HYA.out.lt (by omega)); clear hc5 hk5; have hkp := keepS HC5.out HX5.out; have hks := keepS3 HC5.out HX5.out hxn hwn; obtain ⟨j0, j1, j2, i0, i1, i2⟩ := HY5.out.facts3)))
    all_goals go_wp2_with fail
    all_goals go_meet
    all_goals have hz5 := HCH5.out.size
    · exact ⟨w5.heap.size, rfl, rfl, HC5.out.below ((Below.refl w5.heap.size w5).alloc (Nat.le_refl _) _), HCH5.out.alloc hz5 _, Box.new w5 _ _⟩
    · have hc3 : Ch w5.heap.size (· = W0.heap.size) w5 (((w5.setCell ⟨W0.heap.size, 0, none⟩ (.int .i64 who2)).setCell ⟨W0.heap.size, 1, none⟩ (.string body)).setCell ⟨W0.heap.size, 2, none⟩ (.string sig)) :=
        (((Ch.refl w5.heap.size (· = W0.heap.size) w5).setCell (p := ⟨W0.heap.size, 0, none⟩) (.inr rfl) _).setCell (p := ⟨W0.heap.size, 1, none⟩) (.inr rfl) _).setCell (p := ⟨W0.heap.size, 2, none⟩) (.inr rfl) _
      exact ⟨W0.heap.size, rfl, rfl, HC5.out.ch hc3 (Nat.le_refl _) (by omega) (fun k hk e => by have : k < W0.heap.size := (HC0D.out.row hk).2; omega) hc3.size, HCH5.out.step hc3 hz5 (fun k h1 e => by omega), ((HY5.out.set 0 _).set 1 _).set 2 _⟩
  case rest =>
    obtain ⟨i, rfl, rfl, HZ⟩ := hcut
    obtain ⟨hcz, hhz, hxz⟩ := HZ.out
    have HCZ := Lib.hid hcz
    have HHZ := Lib.hid hhz
    have hzz := hhz.size
    obtain ⟨j0, j1, j2, -⟩ := Box.facts3 hxz
    clear hcz hhz hxz HZ r4 r5 y0 y1 y2 y3 y4 y5 y6 y7 a4 a5 z0 z1 z2 z3 z4 z5 z6 z7
    go_wp2_with fail
    refine (HP.out _).mono ?_
    rintro e w6 ⟨rfl, hb6⟩
    have HB6 := Lib.hid hb6
    clear hb6
    go_wp2
    go_ret2
    exact ⟨rfl, HCZ.out.below HB6.out, HHZ.out.step (Ch.of_below (S := fun _ => False) HB6.out) hzz (fun _ _ e => e.elim)⟩
end Go.Proofs.Ytfgpchffkpomoaa
