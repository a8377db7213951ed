/- A tree of records in memory, and what is asked of it: the walks through Root, Get, Records. -/
import Derived.Test.YtfgpchffkpomoaaGrow
import Derived.Test.YtfgpchffkpomoaaPk25
import Derived.Test.YtfgpchffkpomoaaOver
import Derived.Test.YtfgpchffkpomoaaAppO
import Derived.Laws.OwnMore
namespace Go.Proofs.Ytfgpchffkpomoaa
set_option linter.unusedSimpArgs false
set_option linter.unusedVariables false
open Go.RowKit

/-- A tree in memory: its book, its records, their leaves' digests. -/
structure TrS (w : World) (q b t m n : Nat) (T : List ByteArray) (S : List Wd) (l : List Rc) (A : Option Addr) (c : Nat) (D : Option Addr) (d : Nat) : Prop where
  bk : Bk w b t m n T S
  box : TreeBox w q b A l.length c D l.length d
  recs : w.ownsRow (q + 1) 131 2 (.slice A l.length c) l.length (l.flatMap Rc.cells)
  digs : w.ownsRow (q + 1) 9 1 (.slice D l.length d) l.length ((leavesH (hh T) l).flatMap textCells)
  leaves : LeavesIn T l
  lt : b < q ∧ t < q ∧ m < q ∧ n < q
theorem TrS.ql {w : World} {q b t m n : Nat} {T : List ByteArray} {S : List Wd} {l : List Rc} {A : Option Addr} {c : Nat} {D : Option Addr} {d : Nat} (h : TrS w q b t m n T S l A c D d) : q < w.heap.size := Box.lt h.box
theorem TrS.rcs {w : World} {q b t m n : Nat} {T : List ByteArray} {S : List Wd} {l : List Rc} {A : Option Addr} {c : Nat} {D : Option Addr} {d : Nat} (h : TrS w q b t m n T S l A c D d) : RcS w A c l := Sl.of_own h.recs
theorem TrS.txs {w : World} {q b t m n : Nat} {T : List ByteArray} {S : List Wd} {l : List Rc} {A : Option Addr} {c : Nat} {D : Option Addr} {d : Nat} (h : TrS w q b t m n T S l A c D d) : TxS w D d (leavesH (hh T) l) := by
  have := Sl.of_own h.digs
  unfold TxS
  rw [leavesH_len]
  exact this
theorem TrS.offA {w : World} {q b t m n : Nat} {T : List ByteArray} {S : List Wd} {l : List Rc} {A : Option Addr} {c : Nat} {D : Option Addr} {d : Nat} (h : TrS w q b t m n T S l A c D d) (k : Nat) : Off A k m := fun _ j hj => by
  have := (own_row h.recs hj).1
  have := h.lt
  omega
theorem TrS.offD {w : World} {q b t m n : Nat} {T : List ByteArray} {S : List Wd} {l : List Rc} {A : Option Addr} {c : Nat} {D : Option Addr} {d : Nat} (h : TrS w q b t m n T S l A c D d) (k : Nat) : Off D k m := fun _ j hj => by
  have := (own_row h.digs hj).1
  have := h.lt
  omega
/-- Only the book's texts have grown. -/
theorem TrS.grow {w w' : World} {q b t m n : Nat} {T T' : List ByteArray} {S S' : List Wd} {l : List Rc} {A : Option Addr} {c : Nat} {D : Option Addr} {d : Nat} (h : TrS w q b t m n T S l A c D d) (hc : Ch w.heap.size (· = m) w w') (he : Ext T T') (hk : Bk w' b t m n T' S') : TrS w' q b t m n T' S' l A c D d := by
  have hl := h.lt
  obtain ⟨h1, h2⟩ := h.leaves.ext he
  refine ⟨hk, Box.ch h.box hc h.ql (by omega), own_ch h.recs hc (fun k hk => ⟨(own_row h.recs hk).2, by have := (own_row h.recs hk).1; omega⟩), ?_, h1, hl⟩
  rw [h2]
  exact own_ch h.digs hc (fun k hk => ⟨(own_row h.digs hk).2, by have := (own_row h.digs hk).1; omega⟩)
theorem TrS.below {w w' : World} {q b t m n : Nat} {T : List ByteArray} {S : List Wd} {l : List Rc} {A : Option Addr} {c : Nat} {D : Option Addr} {d : Nat} (h : TrS w q b t m n T S l A c D d) (hb : Below w.heap.size w w') : TrS w' q b t m n T S l A c D d :=
  h.grow (Ch.of_below hb) (Ext.refl _) (h.bk.below hb)

set_option maxHeartbeats 2000000 in
set_option maxRecDepth 100000 in
theorem tRoot_calls (q b t m n : Nat) (T : List ByteArray) (S : List Wd) (l : List Rc) (A : Option Addr) (c : Nat) (D : Option Addr) (d : Nat) (w : World) (h : TrS w q b t m n T S l A c D d) (hT : T.length ≤ 50000000) (hl : l.length ≤ 4096) :
    Calls Try.prog 81 #[.pointer (some ⟨q, 0, none⟩)] w (Root4Post w b t m n T S l) := by
  have hlt := h.lt
  have hql := h.ql
  have HM := Lib.hid (tmade_calls q b A l.length c D l.length d w h.box)
  have hll := leavesH_len (hh T) l
  have htop := top_calls b t m n S (leavesH (hh T) l).length T D d (leavesH (hh T) l) w.drew rfl h.bk.drew (by omega) (h.txs.drew) (by rw [hll]; exact own_cap h.digs) (by omega) (fun x hx => by rw [leaves_size T l x hx]; omega) (by rw [hll]; exact h.offD _)
  rw [hll] at htop
  have HTOP := Lib.hid htop
  have HLI := Lib.hid h.leaves
  have hbx := Box.drew h.box
  have hsx : ∀ x ∈ leavesH (hh T) l, x.size ≤ 1000 := fun x hx => by rw [leaves_size T l x hx]; omega
  have HSX := Lib.hid hsx
  have hcm := (Ch.refl w.heap.size (· = m) w).drew
  have HBX := Lib.hid hbx
  have HCM := Lib.hid hcm
  clear htop hbx hsx hcm h
  obtain ⟨k0, k1, k2, f0, f1, f2⟩ := Box.facts3 HBX.out
  go_enter Try.func81, Try.ntmps81
  go_wp2_with fail
  refine HM.out.mono ?_
  rintro e wx ⟨rfl, hwx⟩
  subst hwx
  go_wp2_with fail
  go_region_held3 (fun w' => w'.cell? ⟨q, 0, none⟩ = some (.pointer (some ⟨b, 0, none⟩)) ∧ w'.cell? ⟨q, 1, none⟩ = some (.slice A l.length c) ∧ w'.cell? ⟨q, 2, none⟩ = some (.slice D l.length d)) (first | exact ⟨k0, k1, k2⟩ | exact ⟨g0, g1, g2⟩ | exact ⟨i0, i1, i2⟩) (first | (go_at_call 99; refine HTOP.out.mono ?_; rintro e w2 ⟨T2, rfl, e2, l2, t2, ch2, kk2⟩; have HX2 := Box.ch HBX.out ch2 HBX.out.lt (by omega); obtain ⟨g0, g1, g2, _⟩ := Box.facts3 HX2; obtain ⟨x, hx⟩ : ∃ x, x = topP (hh T2) (leavesH (hh T) l) := ⟨_, rfl⟩; rw [← hx]; have hxs : x.size ≤ 1000 := (by rw [hx]; exact topP_size HSX.out); have hrt := mroot_calls b t m n T2 S l.length x w2 kk2 (by omega) (by omega) (Nat.le_trans hxs (by decide)); have hrl := digT_len T2 (rootT l.length x); obtain ⟨j1, j2, j3⟩ := root_join (x := x) HLI.out e2 t2 hx; have J1 := Lib.hid j1; have J2 := Lib.hid j2; have J3 := Lib.hid (e2.trans j3); have HX := Lib.hid hx; clear j1 j2 j3 hx; obtain ⟨⟨g, T3⟩, hq⟩ : ∃ q, q = digS T2 (rootT l.length x) := ⟨_, rfl⟩; rw [← hq] at hrt hrl J1 J2 J3; have HRT := Lib.hid hrt; clear hrt hq; simp only at hrl; have hz2 := ch2.size; have HCH := Lib.hid (HCM.out.step ch2 (Nat.le_refl _) (fun _ _ e => e)); clear ch2) | (go_at_call 98; refine HRT.out.mono ?_; rintro e w3 ⟨rfl, ch3, kk3⟩; have HX3 := Box.ch HX2 ch3 HX2.lt (by omega); obtain ⟨i0, i1, i2, _⟩ := Box.facts3 HX3))
  all_goals go_wp2
  all_goals go_ret
  all_goals exact ⟨T3, g, rfl, ⟨J1.out, J2.out⟩, J3.out, by omega, HCH.out.step ch3 hz2 (fun _ _ e => e), kk3⟩

def GetPost (l : List Rc) (key : ByteArray) (w : World) (e : Ending) (w' : World) : Prop := ∃ v, e = .returned (.tuple #[.string v, .bool (isP l key)]) ∧ Hid (truthP l key v (isP l key) = true) ∧ Below w.heap.size w w'
set_option maxHeartbeats 2000000 in
set_option maxRecDepth 100000 in
theorem tGet_calls (q b t m n : Nat) (T : List ByteArray) (S : List Wd) (l : List Rc) (A : Option Addr) (c : Nat) (D : Option Addr) (d : Nat) (key : ByteArray) (w : World) (h : TrS w q b t m n T S l A c D d) (hr : Rising l) (hl : l.length ≤ 4096) :
    Calls Try.prog 83 #[.pointer (some ⟨q, 0, none⟩), .string key] w (GetPost l key w) := by
  have HM := Lib.hid (tmade_calls q b A l.length c D l.length d w h.box)
  have HP := Lib.hid (tplace_calls q b A c D l.length d l key w h.box h.rcs hr (by omega))
  have HX := Lib.hid h.box
  have HS := Lib.hid h.rcs
  have hfit := h.rcs.fits
  have HR := Lib.hid hr
  have HE := Lib.hid (show isP l key = true → ∃ x, l[placeP l key]? = some x ∧ x.key = key from fun h => isP_some h)
  have HN := Lib.hid (show isP l key = false → truthP l key ⟨#[]⟩ false = true from fun h => truth_none (fun i x hx => isP_none hr h i x hx))
  obtain ⟨iv, hiv⟩ : ∃ iv, iv = isP l key := ⟨_, rfl⟩
  obtain ⟨p, hp⟩ : ∃ p, p = placeP l key := ⟨_, rfl⟩
  unfold PlacePost at HP
  unfold GetPost
  rw [← hiv] at HP HE HN ⊢
  rw [← hp] at HP HE
  have HPP := Lib.hid hp
  clear h hr hiv hp
  go_enter Try.func83, Try.ntmps83
  go_wp2_with fail
  refine HM.out.mono ?_
  rintro e wx ⟨rfl, hwx⟩
  subst hwx
  go_wp2_with fail
  refine HP.out.mono ?_
  rintro e w2 ⟨rfl, hb2⟩
  have HB2 := Lib.hid hb2
  have HX2 := Box.call HX.out hb2
  obtain ⟨k0, k1, k2, f0, f1, f2⟩ := Box.facts3 HX2
  have HS2 := Lib.hid (HS.out.below hb2)
  clear hb2 HX2
  cases iv with
  | false =>
    go_wp2
    go_ret2
    exact ⟨⟨#[]⟩, rfl, HN.out (by trivial), HB2.out⟩
  | true =>
    obtain ⟨x, hx, hxk⟩ := HE.out rfl
    obtain ⟨hpl, hxe⟩ := List.getElem?_eq_some_iff.1 hx
    obtain ⟨a, rfl, e0, e1⟩ := HS2.out.elem p hpl
    rw [hxe] at e0 e1
    obtain ⟨xk, xv⟩ := x
    simp only at e0 e1 hxk
    have HXX := Lib.hid hx
    have HXK := Lib.hid hxk
    clear hx hxk hxe
    go_wp2
    go_ret2
    exact ⟨xv, rfl, by have h1 := HXX.out; rw [HPP.out] at h1; exact truth_is HR.out h1 HXK.out, HB2.out⟩
end Go.Proofs.Ytfgpchffkpomoaa
