/- The document's numbers, texts and messages as bytes. -/
import Derived.Test.YtehbpjkeflcanaaFits
import Derived.Deep.RegionHeld3
namespace Go.Proofs.Ytehbpjkeflcanaa
set_option linter.unusedSimpArgs false
set_option linter.unusedVariables false
open Go.RowKit

/-- Bytes as a string. -/
def bs (l : List UInt8) : ByteArray := ⟨l.toArray⟩
def StrPost (s : ByteArray) (w : World) (e : Ending) (w' : World) : Prop := e = .returned (.string s) ∧ Below w.heap.size w w'
theorem ret_str {a b : ByteArray} (h : a = b) : Ending.returned (.string a) = .returned (.string b) := by rw [h]
theorem bs_append (l m : List UInt8) : bs (l ++ m) = bs l ++ bs m := by
  apply ByteArray.ext
  simp [bs]
theorem bs_data (s : ByteArray) : bs s.data.toList = s := rfl
theorem bs_size (l : List UInt8) : (bs l).size = l.length := by simp [bs, ByteArray.size]

set_option maxRecDepth 100000 in
theorem rNumber_calls (n : Int) (w : World) (hn0 : 0 ≤ n) (hn1 : n ≤ 9007199254740992) : Calls Try.prog 27 #[.int .i64 n] w (StrPost (bs (putNum n.toNat)) w) := by
  obtain ⟨n, rfl⟩ := Int.eq_ofNat_of_zero_le hn0
  rw [Int.toNat_natCast]
  have HN := Lib.hid (putNum_len 8 n (by omega))
  go_enter Try.func27, Try.ntmps27
  go_wp2
  go_loopg [0, 3] n (fun k vn vs wr => ∃ (m : Nat) (A : Option Addr) (cap : Nat) (cur : List UInt8), vn = .int .i64 m ∧ vs = .slice A cur.length cap ∧ m ≤ 9007199254740992 ∧ Hid (k = m ∧ OwnB wr w.heap.size A cap cur ∧ Below w.heap.size w wr ∧ cur ++ putNum m = putNum n))
  case atStart => exact ⟨n, none, 0, [], rfl, rfl, by omega, rfl, World.ownsRow_nil _ _ _ _, Below.refl _ _, rfl⟩
  case round =>
    obtain ⟨m, A, cap, cur, rfl, rfl, hm, HH⟩ := hrel
    obtain ⟨rfl, ho, hb, he⟩ := HH.out
    have HO := Lib.hid ho
    have HB := Lib.hid hb
    have HE := Lib.hid he
    have hbs := hb.size
    have HLEN := Lib.hid (show cur.length + (putNum gk).length ≤ 9 by have := congrArg List.length he; simp only [List.length_append] at this; have := HN.out; omega)
    have hR : ∀ k, Row A k → w.heap.size ≤ k := fun k hk => (own_row ho hk).1
    clear HH he ho hb
    by_cases hs : gk < 128
    · have hd : decide ((127 : Int) < (gk : Int)) = false := by simp; omega
      go_wp2_with (first | (at_builtin; refine app_u8 rfl (.tmp 15) (.tmp 18) rfl w.heap.size A cap cur rfl (HO.out.alloc _) wr.heap.size _ (UInt8.ofNat gk) rfl (World.cell?_alloc_new _ _ _ _) ?hu ?hl ?hb ?_; (case hu => exact byteVal_of (by omega) (by omega)); (case hl => have := HLEN.out; omega); (case hb => simp; omega); intro A' cap' w1 ho1 hb1 hA1; have hst := own_to_string ho1; have HB2 := Lib.hid (below_app HB.out hbs hb1 hR); clear ho1 hb1 hA1; rw [List.length_append, List.length_singleton] at hst))
      go_ret
      exact ⟨ret_str (by rw [← HE.out, putNum_small hs]; rfl), HB2.out⟩
    · have hd : decide ((127 : Int) < (gk : Int)) = true := by simp; omega
      obtain ⟨u, hu⟩ : ∃ u : Nat, u = 128 + gk % 128 := ⟨_, rfl⟩
      have hu3 : 128 + (gk : Int) % 128 = (u : Int) := by omega
      have hu1 : u ≤ 255 := by omega
      have hu2 : 128 ≤ u := by omega
      obtain ⟨m, hm'⟩ : ∃ m : Nat, m = gk / 128 := ⟨_, rfl⟩
      have h7 : (gk : Int) / 128 = (m : Int) := by omega
      have hm1 : m < gk := by omega
      have hpl := putNum_large hs
      rw [← hu, ← hm'] at hpl
      have HPL := Lib.hid hpl
      clear hpl hu hm'
      go_wp2_with (first | (at_builtin; refine app_u8 rfl (.tmp 6) (.tmp 11) rfl w.heap.size A cap cur rfl (HO.out.alloc _) wr.heap.size _ (UInt8.ofNat u) rfl (World.cell?_alloc_new _ _ _ _) ?hu ?hl ?hb ?_; (case hu => exact byteVal_of (by omega) (by omega)); (case hl => have := HLEN.out; omega); (case hb => simp; omega); intro A' cap' w1 ho1 hb1 hA1; have HB2 := Lib.hid (below_app HB.out hbs hb1 hR); have HO1 := Lib.hid ho1; clear ho1 hb1 hA1))
      go_roundg m
      case measure => omega
      case rel => exact ⟨m, A', cap', cur ++ [UInt8.ofNat u], rfl, by simp, by omega, rfl, HO1.out, HB2.out, by rw [← HE.out, HPL.out]; simp⟩

set_option maxRecDepth 100000 in
theorem rLaid_calls (t : ByteArray) (w : World) (ht : t.size ≤ 9007199254740992) : Calls Try.prog 31 #[.string t] w (StrPost (bs (putText t)) w) := by
  have HN := Lib.hid (rNumber_calls (t.size : Nat) w (by omega) (by omega))
  have hl : (putNum t.size).length ≤ 9 := putNum_len 8 t.size (by omega)
  have hsz : (bs (putNum t.size)).size ≤ 9 := by rw [bs_size]; exact hl
  have HE := Lib.hid (bs_append (putNum t.size) t.data.toList)
  generalize hx : bs (putNum t.size) = x at *
  have HX := Lib.hid hx
  clear hx hl
  go_enter Try.func31, Try.ntmps31
  go_wp2_with fail
  refine HN.out.mono ?_
  rw [Int.toNat_natCast, HX.out]
  rintro e w1 ⟨rfl, hb⟩
  go_wp2
  go_ret
  refine ⟨ret_str ?_, hb⟩
  rw [putText, HE.out]
  rfl

set_option maxRecDepth 100000 in
theorem rOne_calls (m : Sg) (w : World) (h0 : 0 ≤ m.who) (h1 : m.who ≤ 9007199254740992) (hb : m.body.size ≤ 9007199254740992) (hg : m.sig.size ≤ 9007199254740992) :
    Calls Try.prog 36 #[m.val] w (StrPost (bs (putSg m)) w) := by
  obtain ⟨who, body, sig⟩ := m
  unfold Sg.val
  simp only at *
  have HE := Lib.hid (show bs (putSg ⟨who, body, sig⟩) = bs (putNum who.toNat) ++ bs (putText body) ++ bs (putText sig) by simp only [putSg]; rw [bs_append, bs_append, ByteArray.append_assoc])
  obtain ⟨W, hW⟩ : ∃ W, W = w.alloc (.cells #[.int .i64 who, .string body, .string sig] 36) := ⟨_, rfl⟩
  have HB := Lib.hid (Box.new w #[.int .i64 who, .string body, .string sig] 36)
  have hsz : w.heap.size < W.heap.size := by rw [hW]; simp
  have HA := Lib.hid ((Below.refl w.heap.size w).alloc (Nat.le_refl _) (.cells #[.int .i64 who, .string body, .string sig] 36))
  rw [← hW] at HB HA
  have HWW := Lib.hid hW
  clear hW
  obtain ⟨x, hx⟩ : ∃ x, x = bs (putNum who.toNat) := ⟨_, rfl⟩
  obtain ⟨y, hy⟩ : ∃ y, y = bs (putText body) := ⟨_, rfl⟩
  obtain ⟨z, hz⟩ : ∃ z, z = bs (putText sig) := ⟨_, rfl⟩
  rw [← hx, ← hy, ← hz] at HE
  have hxs : x.size ≤ 9 := by rw [hx, bs_size]; exact putNum_len 8 _ (by omega)
  have hys : y.size ≤ 9 + body.size := by rw [hy, bs_size, putText_length]; have := putNum_len 8 body.size (by omega); omega
  have hzs : z.size ≤ 9 + sig.size := by rw [hz, bs_size, putText_length]; have := putNum_len 8 sig.size (by omega); omega
  have hq1 : ¬ 9223372036854775807 < x.size + y.size := by omega
  have hq2 : ¬ 9223372036854775807 < x.size + y.size + z.size := by omega
  have HX := Lib.hid hx
  have HY := Lib.hid hy
  have HZ := Lib.hid hz
  clear hx hy hz
  go_enter Try.func36, Try.ntmps36
  go_wp2_with fail
  rw [← HWW.out]
  go_region_held3 (fun w' => w'.cell? ⟨w.heap.size, 0, none⟩ = some (.int .i64 who) ∧ w'.cell? ⟨w.heap.size, 1, none⟩ = some (.string body) ∧ w'.cell? ⟨w.heap.size, 2, none⟩ = some (.string sig)) (first | exact cells3 (by assumption) | exact cells3 HB.out) (first | (go_at_call 27; refine (rNumber_calls who _ h0 h1).mono ?_; rw [← HX.out]; rintro e w1 ⟨rfl, hc1⟩; have hb1 := HB.out.drew.ch (Ch.of_below (S := fun _ => False) hc1) (by exact hsz) (fun h => h); have HC1 := Lib.hid (HA.out.drew.trans (hc1.mono (by exact Nat.le_of_lt hsz))); clear hc1; have t1 : True := trivial) | (go_at_call 31; have _t := t1; clear t1; refine (rLaid_calls body _ hb).mono ?_; rw [← HY.out]; rintro e w2 ⟨rfl, hc2⟩; have hb2 := hb1.ch (Ch.of_below (S := fun _ => False) hc2) (by exact hb1.lt) (fun h => h); have HC2 := Lib.hid (HC1.out.trans (hc2.mono (by exact HC1.out.size))); clear hc2 hb1; have t2 : True := trivial) | (go_at_call 31; have _t := t2; clear t2; refine (rLaid_calls sig _ hg).mono ?_; rw [← HZ.out]; rintro e w3 ⟨rfl, hc3⟩; have hb3 := hb2.ch (Ch.of_below (S := fun _ => False) hc3) (by exact hb2.lt) (fun h => h); have HC3 := Lib.hid (HC2.out.trans (hc3.mono (by exact HC2.out.size))); clear hc3))
  clear hb2 hb3
  go_wp2
  go_ret
  exact ⟨ret_str HE.out.symm, HC3.out⟩
end Go.Proofs.Ytehbpjkeflcanaa
