/- Bytes read as a body, twice alike: both sides say the same: the walk. -/
import Derived.Test.YtehbpjkeflcanaaRefOf
import Derived.Test.YtehbpjkeflcanaaSameBd
import Derived.Test.YtehbpjkeflcanaaAwake
namespace Go.Proofs.Ytehbpjkeflcanaa
set_option linter.unusedSimpArgs false
set_option linter.unusedVariables false
open Go.RowKit

theorem sameBd_refl (b : Bd) : sameBd b b = true := sameBd_iff.2 rfl
theorem ch3 {B k i0 i1 i2 : Nat} {w : World} {x y z : Value} : Ch B (· = k) w (((w.setCell ⟨k, i0, none⟩ x).setCell ⟨k, i1, none⟩ y).setCell ⟨k, i2, none⟩ z) :=
  (((Ch.refl B (· = k) w).setCell (.inr rfl) x).setCell (.inr rfl) y).setCell (.inr rfl) z

theorem own_cur {w : World} {base n c : Nat} {T : TypeId} {A : Option Addr} {xs : List Value} (h : w.ownsRow base T 3 (.slice A n c) n xs) (hn : 0 < n) : ∃ g cur, A = some ⟨g, 0, none⟩ ∧ base ≤ g ∧ g < w.heap.size ∧ Box w g cur T ∧ n * 3 ≤ cur.size := by
  rcases h.2 with ⟨_, h0⟩ | ⟨g, cap, cur, hv, hb, hg, hnc, _, hcs, _⟩
  · omega
  · obtain ⟨rfl, rfl⟩ : A = some ⟨g, 0, none⟩ ∧ c = cap := by simpa using hv
    exact ⟨g, cur, rfl, hb, Box.lt hg, hg, by rw [hcs]; exact Nat.mul_le_mul_right _ hnc⟩

/-- What stands while the messages that were read first are spoilt. -/
structure Spoil (w : World) (g n : Nat) (B : Option Addr) (l : List Sg) (d k3 k5 : Nat) (cs cs' : Array Value) (wr : World) : Prop where
  b : Below w.heap.size w wr
  x : Box wr k3 cs 24
  y : Box wr k5 cs' 24
  row : 0 < n → ∃ cur, Box wr g cur 36 ∧ n * 3 ≤ cur.size
  own : wr.ownsRow (k3 + 1) 36 3 (.slice B l.length d) l.length (l.flatMap Sg.cells)
theorem Spoil.call {w wr w' : World} {g n d k3 k5 : Nat} {B : Option Addr} {l : List Sg} {cs cs' : Array Value} (h : Spoil w g n B l d k3 k5 cs cs' wr) (hb : Below wr.heap.size wr w') : Spoil w g n B l d k3 k5 cs cs' w' := by
  exact ⟨h.b.trans (hb.mono h.b.size), h.x.call hb, h.y.call hb, fun hn => (h.row hn).elim fun cur hc => ⟨cur, hc.1.call hb, hc.2⟩, own_ch h.own (Ch.of_below (S := fun _ => False) hb) (fun k hk => ⟨(own_row h.own hk).2, fun h => h⟩)⟩
theorem Spoil.set {w wr : World} {g n d k3 k5 i0 i1 i2 : Nat} {B : Option Addr} {l : List Sg} {cs cs' : Array Value} {x y z : Value} (h : Spoil w g n B l d k3 k5 cs cs' wr) (hg : w.heap.size ≤ g) (h3 : g < k3) (h5 : k3 < k5) :
    Spoil w g n B l d k3 k5 cs cs' (((wr.setCell ⟨g, i0, none⟩ x).setCell ⟨g, i1, none⟩ y).setCell ⟨g, i2, none⟩ z) := by
  exact ⟨((h.b.setCell hg x).setCell hg y).setCell hg z, ((h.x.other (by simp; omega) x).other (by simp; omega) y).other (by simp; omega) z, ((h.y.other (by simp; omega) x).other (by simp; omega) y).other (by simp; omega) z,
    fun hn => (h.row hn).elim fun cur hc => ⟨_, ((hc.1.set i0 x).set i1 y).set i2 z, by simpa using hc.2⟩, own_ch h.own (ch3 (B := wr.heap.size)) (fun k hk => ⟨(own_row h.own hk).2, by have := (own_row h.own hk).1; omega⟩)⟩

set_option maxRecDepth 100000 in
theorem wireReads_calls (s : ByteArray) (w : World) (hs : s.size ≤ maxLen) : Calls Try.prog 5 #[.string s] w (BoolPost true w) := by
  obtain ⟨r, hr⟩ : ∃ r, r = ofBody s := ⟨_, rfl⟩
  have H1 := Lib.hid (of_calls s)
  have H2 := Lib.hid (fun w => rOf_calls s w hs)
  unfold OfPost at H1 H2
  rw [← hr] at H1 H2
  clear hr hs
  obtain ⟨b, x⟩ := r
  have H3 := Lib.hid (fun A B p q w hs ht => same_calls b b A B p q w hs ht)
  rw [sameBd_refl] at H3
  obtain ⟨kind, view, seq, client, stamp, digest, tx, list⟩ := b
  unfold Bd.val Bd.cells at *
  simp only at *
  have hx : (x == x) = true := by simp
  go_enter Try.func5, Try.ntmps5
  go_wp2_with fail
  refine (H1.out _).mono ?_
  rintro e w1 ⟨A, c, rfl, hb1, ho1⟩
  have HO1 := Lib.hid ho1
  have HB1 := Lib.hid hb1
  clear ho1 hb1
  go_wp2_with fail
  refine (H2.out _).mono ?_
  rintro e w2 ⟨B, d, rfl, hb2, ho2⟩
  have HX := Lib.hid ((Box.new w1 _ _).call hb2)
  have HO2 := Lib.hid ho2
  have HB2 := Lib.hid hb2
  clear hb2 ho2
  have hlt3 := HX.out.lt
  have hfit := (Sl.of_own HO1.out).fits
  have HOA := Lib.hid (own_ch (HO1.out.alloc _) (Ch.of_below (S := fun _ => False) HB2.out) (fun k hk => ⟨(own_row (HO1.out.alloc _) hk).2, fun h => h⟩))
  obtain ⟨e0, e1, e2, e3, e4, e5, e6, e7⟩ := boxS (HX.out.alloc (.cells #[.int .i64 kind, .int .i64 view, .int .i64 seq, .int .i64 client, .int .i64 stamp, .string digest, .string tx, .slice B list.length d] 24))
  go_wp2_with fail
  refine (H3.out A B c d _ (Sl.of_own (HOA.out.alloc _)) (Sl.of_own (HO2.out.alloc _))).mono ?_
  rintro e w3 ⟨rfl, hb3⟩
  obtain ⟨g, hg⟩ : ∃ g, 0 < list.length → A = some ⟨g, 0, none⟩ ∧ w.heap.size ≤ g ∧ g < w1.heap.size ∧ ∃ cur, Box w2 g cur 36 ∧ list.length * 3 ≤ cur.size := by
    by_cases hn : 0 < list.length
    · obtain ⟨g, cur, hA, h1, _, h2, h3⟩ := own_cur HOA.out hn
      exact ⟨g, fun _ => ⟨hA, h1, (own_row HO1.out (by rw [hA]; rfl)).2, cur, h2, h3⟩⟩
    · exact ⟨0, fun h => absurd h hn⟩
  have HG := Lib.hid hg
  have HSP := Lib.hid (Spoil.call (w := w) (g := g) (n := list.length) (B := B) (l := list) (d := d) (k3 := w1.heap.size) (k5 := w2.heap.size) ⟨(((HB1.out.alloc (by have := HB1.out.size; omega) _).trans (HB2.out.mono (by have := HB1.out.size; simp; omega))).alloc (by have := HB1.out.size; omega) _), HX.out.alloc _, Box.new w2 #[.int .i64 kind, .int .i64 view, .int .i64 seq, .int .i64 client, .int .i64 stamp, .string digest, .string tx, .slice B list.length d] 24,
    fun hn => (hg hn).2.2.2.elim fun cur hc => ⟨cur, hc.1.alloc _, hc.2⟩, by have := HO2.out.alloc (.cells #[.int .i64 kind, .int .i64 view, .int .i64 seq, .int .i64 client, .int .i64 stamp, .string digest, .string tx, .slice B list.length d] 24); simpa using this⟩ hb3)
  clear e0 e1 e2 e3 e4 e5 e6 e7 hg hb3 HOA HB1 HB2 HO1 HO2 HX
  go_wp2_with fail
  go_loopg [7] list.length (fun gk v7 wr => ∃ k : Nat, v7 = .int .i64 k ∧ k ≤ list.length ∧ Hid (gk + k = list.length ∧ Spoil w g list.length B list d w1.heap.size w2.heap.size #[.int .i64 kind, .int .i64 view, .int .i64 seq, .int .i64 client, .int .i64 stamp, .string digest, .string tx, .slice A list.length c] #[.int .i64 kind, .int .i64 view, .int .i64 seq, .int .i64 client, .int .i64 stamp, .string digest, .string tx, .slice B list.length d] wr))
  case atStart => exact ⟨0, rfl, by omega, rfl, HSP.out⟩
  case round =>
    clear HSP
    obtain ⟨k, rfl, hk, HH⟩ := hrel
    obtain ⟨hgk, hsp⟩ := HH.out
    have HGK := Lib.hid hgk
    have HSP := Lib.hid hsp
    clear HH hgk hsp
    obtain ⟨_, _, _, _, _, _, _, c7⟩ := boxS HSP.out.x
    by_cases hlt : k < list.length
    · have hd : decide ((k : Int) < (list.length : Int)) = true := by simp; omega
      obtain ⟨hA, hg1, hg2, _⟩ := HG.out (by omega)
      obtain ⟨cur, hc1, hc2⟩ := HSP.out.row (by omega)
      obtain ⟨a, ha⟩ : ∃ a : Addr, a = ⟨g, 0, none⟩ := ⟨_, rfl⟩
      rw [← ha] at hA
      subst hA
      have hadd : a.add (k * 3) = ⟨g, k * 3, none⟩ := by rw [ha]; unfold Addr.add; split <;> simp_all
      have HADD := Lib.hid hadd
      have q0 : wr.cell? (a.add (k * 3)) = some cur[k * 3] := by rw [hadd, hc1.cell]; exact Array.getElem?_eq_getElem (by omega)
      have q1 : wr.cell? ⟨(a.add (k * 3)).block, (a.add (k * 3)).off + 1, none⟩ = some cur[k * 3 + 1] := by rw [hadd]; exact (hc1.cell (k * 3 + 1)).trans (Array.getElem?_eq_getElem (by omega))
      have q2 : wr.cell? ⟨(a.add (k * 3)).block, (a.add (k * 3)).off + 2, none⟩ = some cur[k * 3 + 2] := by rw [hadd]; exact (hc1.cell (k * 3 + 2)).trans (Array.getElem?_eq_getElem (by omega))
      have f0 : wr.frozen? (a.add (k * 3)) = false := by rw [hadd]; exact hc1.free _
      have f1 : wr.frozen? ⟨(a.add (k * 3)).block, (a.add (k * 3)).off + 1, none⟩ = false := by rw [hadd]; exact hc1.free _
      have f2 : wr.frozen? ⟨(a.add (k * 3)).block, (a.add (k * 3)).off + 2, none⟩ = false := by rw [hadd]; exact hc1.free _
      have r1 : (wr.setCell (a.add (k * 3)) (.int .i64 77)).cell? ⟨(a.add (k * 3)).block, (a.add (k * 3)).off + 1, none⟩ = some cur[k * 3 + 1] := by rw [World.cell?_setCell_other _ _ _ _ (by rw [hadd]; simp)]; exact q1
      have r2 : ((wr.setCell (a.add (k * 3)) (.int .i64 77)).setCell ⟨(a.add (k * 3)).block, (a.add (k * 3)).off + 1, none⟩ (.string ⟨#[115, 112, 111, 105, 108, 116]⟩)).cell? ⟨(a.add (k * 3)).block, (a.add (k * 3)).off + 2, none⟩ = some cur[k * 3 + 2] := by rw [World.cell?_setCell_other _ _ _ _ (by simp), World.cell?_setCell_other _ _ _ _ (by rw [hadd]; simp)]; exact q2
      clear hadd ha hc1
      go_wp2_with fail
      go_roundg (gk - 1)
      case measure => have := HGK.out; omega
      case rel =>
        refine ⟨k + 1, by go_num, by omega, by have := HGK.out; omega, ?_⟩
        rw [HADD.out]
        exact HSP.out.set hg1 hg2 hlt3
    · have hd : decide ((k : Int) < (list.length : Int)) = false := by simp; omega
      go_wp2_with fail
      refine (H1.out _).mono ?_
      rintro e w4 ⟨C, c', rfl, hb4, ho4⟩
      have HSP4 := Lib.hid (HSP.out.call hb4)
      have HO4 := Lib.hid ho4
      clear hb4 ho4 HSP
      obtain ⟨e0, e1, e2, e3, e4, e5, e6, e7⟩ := boxS (HSP4.out.y.alloc (.cells #[.int .i64 kind, .int .i64 view, .int .i64 seq, .int .i64 client, .int .i64 stamp, .string digest, .string tx, .slice C list.length c'] 24))
      go_wp2_with fail
      refine (H3.out C B c' d _ (Sl.of_own (HO4.out.alloc _)) (Sl.of_own (HSP4.out.own.alloc _))).mono ?_
      rintro e w5 ⟨rfl, hb5⟩
      have HB5 := Lib.hid ((HSP4.out.b.alloc HSP4.out.b.size _).trans (hb5.mono (by have := HSP4.out.b.size; simp; omega)))
      clear hb5
      go_wp2_with fail
      refine (awake_calls _).mono ?_
      rintro e w6 ⟨rfl, hb6⟩
      have HB6 := Lib.hid (HB5.out.trans (hb6.mono HB5.out.size))
      clear hb6
      go_wp2_with fail
      go_ret
      exact ⟨rfl, HB6.out⟩
end Go.Proofs.Ytehbpjkeflcanaa
