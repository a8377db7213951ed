/- A key is taken out of a tree: the walk through Drop. And what all records are: Records. -/
import Derived.Test.YtfgpchffkpomoaaTreeP
import Derived.Deep.RegionLaw
namespace Go.Proofs.Ytfgpchffkpomoaa
set_option linter.unusedSimpArgs false
set_option linter.unusedVariables false
open Go.RowKit

def DropPost (w0 : World) (q b t m n : Nat) (T : List ByteArray) (S : List Wd) (l : List Rc) (A : Option Addr) (c : Nat) (D : Option Addr) (d : Nat) (r : Bool) (e : Ending) (w' : World) : Prop :=
  e = .returned (.bool r) ∧ TrS w' q b t m n T S l A c D d ∧ Ch w0.heap.size (Tch q m A D) w0 w'
/-- A record and its digest less. -/
theorem TrS.del {w w3 w4 : World} {q b t m n : Nat} {T : List ByteArray} {S : List Wd} {l : List Rc} {A : Option Addr} {c : Nat} {D : Option Addr} {d p : Nat} (h : TrS w q b t m n T S l A c D d) (hp : p < l.length)
    (o3 : w3.ownsRow (q + 1) 131 2 (.slice A (l.length - 1) c) (l.length - 1) ((l.flatMap Rc.cells).take (p * 2) ++ (l.flatMap Rc.cells).drop ((p + 1) * 2))) (c3 : Ch w.heap.size (Row A) w w3)
    (o4 : w4.ownsRow (q + 1) 9 1 (.slice D (l.length - 1) d) (l.length - 1) (((leavesH (hh T) l).flatMap textCells).take (p * 1) ++ ((leavesH (hh T) l).flatMap textCells).drop ((p + 1) * 1))) (c4 : Ch w3.heap.size (Row D) w3 w4) :
    TrS ((w4.setCell ⟨q, 1, none⟩ (.slice A (l.length - 1) c)).setCell ⟨q, 2, none⟩ (.slice D (l.length - 1) d)) q b t m n T S (l.take p ++ l.drop (p + 1)) A c D d ∧
    Ch w.heap.size (Tch q m A D) w ((w4.setCell ⟨q, 1, none⟩ (.slice A (l.length - 1) c)).setCell ⟨q, 2, none⟩ (.slice D (l.length - 1) d)) := by
  have hl := h.lt
  have hql := h.ql
  have hlen : (l.take p ++ l.drop (p + 1)).length = l.length - 1 := by simp; omega
  have hz3 := c3.size
  have hz4 := c4.size
  have hAr : ∀ k, Row A k → q + 1 ≤ k ∧ k < w.heap.size := fun k hk => own_row h.recs hk
  have hDr : ∀ k, Row D k → q + 1 ≤ k ∧ k < w.heap.size := fun k hk => own_row h.digs hk
  have hapart : ∀ k, Row A k → Row D k → False := fun k ha hd => rows_apart h.recs h.digs ha hd
  have cA : Ch w.heap.size (Tch q m A D) w w3 := (Ch.refl w.heap.size (Tch q m A D) w).step c3 (Nat.le_refl _) (fun i hi e => .inr (.inr (.inl e)))
  have cB : Ch w.heap.size (Tch q m A D) w w4 := cA.step c4 hz3 (fun i hi e => .inr (.inr (.inr e)))
  refine ⟨⟨?_, ?_, ?_, ?_, ?_, hl⟩, (cB.setCell (p := ⟨q, 1, none⟩) (.inr (.inr (.inl rfl))) _).setCell (p := ⟨q, 2, none⟩) (.inr (.inr (.inl rfl))) _⟩
  · have k3 := h.bk.ch c3 (Nat.le_refl _) ⟨fun e => by have := hAr _ e; omega, fun e => by have := hAr _ e; omega, fun e => by have := hAr _ e; omega, fun e => by have := hAr _ e; omega⟩
    have k4 := k3.ch c4 (Nat.le_refl _) ⟨fun e => by have := hDr _ e; omega, fun e => by have := hDr _ e; omega, fun e => by have := hDr _ e; omega, fun e => by have := hDr _ e; omega⟩
    exact (k4.setCell (p := ⟨q, 1, none⟩) (by simp only; omega) _).setCell (p := ⟨q, 2, none⟩) (by simp only; omega) _
  · have b3 := Box.ch h.box c3 hql (fun e => by have := hAr _ e; omega)
    have b4 := b3.ch c4 (by omega) (fun e => by have := hDr _ e; omega)
    rw [hlen]
    exact (b4.set 1 (.slice A (l.length - 1) c)).set 2 (.slice D (l.length - 1) d)
  · rw [flatK_take Rc.cells 2 Rc.cells_len, flatK_drop Rc.cells 2 Rc.cells_len, ← List.flatMap_append] at o3
    have g4 := own_ch o3 c4 (fun k hk => ⟨(own_row o3 hk).2, fun e => hapart k hk e⟩)
    rw [hlen]
    exact ownsRow_setCell_below (ownsRow_setCell_below g4 (a := ⟨q, 1, none⟩) (Nat.lt_succ_self q) _) (a := ⟨q, 2, none⟩) (Nat.lt_succ_self q) _
  · rw [flatK_take textCells 1 textCells_len, flatK_drop textCells 1 textCells_len, ← List.flatMap_append, ← leaves_del] at o4
    rw [hlen]
    exact ownsRow_setCell_below (ownsRow_setCell_below o4 (a := ⟨q, 1, none⟩) (Nat.lt_succ_self q) _) (a := ⟨q, 2, none⟩) (Nat.lt_succ_self q) _
  · intro y hy
    rcases List.mem_append.1 hy with hy | hy
    · exact h.leaves y (List.mem_of_mem_take hy)
    · exact h.leaves y (List.mem_of_mem_drop hy)

set_option maxHeartbeats 4000000 in
set_option maxRecDepth 100000 in
theorem tDrop_calls (q b t m n : Nat) (T : List ByteArray) (S : List Wd) (l : List Rc) (A : Option Addr) (c : Nat) (D : Option Addr) (d : Nat) (key : ByteArray) (w : World) (h : TrS w q b t m n T S l A c D d) (hl : l.length ≤ 1000) (hr : Rising l) :
    Calls Try.prog 84 #[.pointer (some ⟨q, 0, none⟩), .string key] w (DropPost w q b t m n T S (dropD l key) A c D d (isP l key)) := by
  have HM := Lib.hid (tmade_calls q b A l.length c D l.length d w h.box)
  have HP := Lib.hid (tplace_calls q b A c D l.length d l key w h.box h.rcs hr (by omega))
  unfold PlacePost at HP
  have H1 := Lib.hid h
  have hlt := h.lt
  have HDR := Lib.hid (dropT_eq hr key)
  have HIS := Lib.hid (show isP l key = true → placeP l key < l.length from fun h => (is_split h).choose_spec.2.2)
  have hqA := h.ql
  obtain ⟨p, hp⟩ : ∃ p, p = placeP l key := ⟨_, rfl⟩
  unfold dropT at HDR
  rw [← hp] at HP HDR HIS
  obtain ⟨iv, hiv⟩ : ∃ iv, iv = isP l key := ⟨_, rfl⟩
  rw [← hiv] at HP HIS HDR ⊢
  clear h hp hiv hr
  go_enter Try.func84, Try.ntmps84
  go_wp2_with fail
  refine HM.out.mono ?_
  rintro e wx ⟨rfl, hwx⟩
  obtain rfl := hwx.symm
  go_wp2_with fail
  refine HP.out.mono ?_
  rintro e w2 ⟨rfl, hb2⟩
  have HT2 := Lib.hid (H1.out.below hb2)
  have HB2 := Lib.hid hb2
  clear hb2 HP H1
  cases iv with
  | false =>
    go_wp2
    go_ret
    have hd := HDR.out
    rw [if_neg (by decide)] at hd
    rw [← hd]
    exact ⟨rfl, HT2.out, Ch.of_below HB2.out⟩
  | true =>
    have hpi := HIS.out (by trivial)
    obtain ⟨k0, k1, k2, f0, f1, f2⟩ := Box.facts3 HT2.out.box
    have hw1 : IntKind.i64.wrap ((p : Int) + 1) = (p : Int) + 1 := by rw [IntKind.wrap_i64]; omega
    go_wp2_with fail
    have ht0 : TrS w2.drew q b t m n T S l A c D d := HT2.out.below ((Below.refl w2.heap.size w2).drew)
    have HT0 := Lib.hid ht0
    have hz2 := HB2.out.size
    have hq0 := Box.drew HT2.out.box
    obtain ⟨r0, r1, r2, -⟩ := Box.facts3 hq0
    have HI1 := Lib.hid (delRec_calls (q + 1) A c l.length p (l.flatMap Rc.cells) w2.drew ht0.recs hpi (by omega) (rc_ones l))
    have HA := Lib.hid (fun k (hk : Row A k) => own_row ht0.recs hk)
    have HD := Lib.hid (fun k (hk : Row D k) => own_row ht0.digs hk)
    have HAD := Lib.hid (fun k (ha : Row A k) (hd : Row D k) => rows_apart ht0.recs ht0.digs ha hd)
    clear ht0
    refine wp_region_noPanic ?_
    go_region_law (first | (go_simp; go_at_call 143; refine HI1.out.mono ?_; rintro e w3 ⟨rfl, ho3, hc3⟩; have HO3 := Lib.hid ho3; have HC3 := Lib.hid hc3; have hq3 := Box.ch hq0 hc3 (Box.lt hq0) (fun e => by have := HA.out _ e; omega); have hd3 := own_ch HT0.out.digs hc3 (fun k hk => ⟨(HD.out k hk).2, fun e => HAD.out k e hk⟩); obtain ⟨g0, g1, g2, g3, g4, g5⟩ := Box.facts3 hq3; have HI2 := Lib.hid (delStr_calls (q + 1) D d l.length p ((leavesH (hh T) l).flatMap textCells) w3 hd3 hpi (by omega) (tx_ones _)); clear ho3 hc3 hd3) | (go_simp; go_at_call 144; refine HI2.out.mono ?_; rintro e w4 ⟨rfl, ho4, hc4⟩; have HO4 := Lib.hid ho4; have HC4 := Lib.hid hc4; have hq4 := Box.ch hq3 hc4 (Box.lt hq3) (fun e => by have := HD.out _ e; omega); obtain ⟨h0, h1, h2, h3, h4, h5⟩ := Box.facts3 hq4; clear ho4 hc4))
    all_goals refine NoPanic.normal ?_
    all_goals
      have HFIN := Lib.hid (HT0.out.del (p := p) hpi HO3.out HC3.out HO4.out HC4.out)
      clear g0 g1 g2 g3 g4 g5 h0 h1 h2 h3 h4 h5 hq3 hq4 hq0 k0 k1 k2 f0 f1 f2 r0 r1 r2
      go_wp2
      go_ret
      have hd := HDR.out
      rw [if_pos (by trivial)] at hd
      rw [← hd]
      have hch : Ch w.heap.size (Tch q m A D) w w2.drew := ((Ch.of_below HB2.out).drew)
      exact ⟨rfl, HFIN.out.1, hch.step HFIN.out.2 hz2 (fun _ _ e => e)⟩
end Go.Proofs.Ytfgpchffkpomoaa
