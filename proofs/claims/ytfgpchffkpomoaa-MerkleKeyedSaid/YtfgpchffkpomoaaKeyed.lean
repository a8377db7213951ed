/- A book by sums and secrets is made: the walk. -/
import Derived.Test.YtfgpchffkpomoaaPk38
import Derived.Test.YtfgpchffkpomoaaPk29
import Derived.Test.YtfgpchffkpomoaaPk12
import Derived.Test.YtfgpchffkpomoaaPk37
namespace Go.Proofs.Ytfgpchffkpomoaa
set_option linter.unusedSimpArgs false
set_option linter.unusedVariables false
open Go.RowKit

def okSecret (s : ByteArray) : Bool := decide (1 ≤ s.size ∧ s.size ≤ 64)
def okSecrets (l : List ByteArray) : Bool := decide (l.length ≤ 256) && l.all okSecret
/-- A book by sums and secrets: the book in block b, its scheme in block t. -/
structure KBk (w : World) (b t : Nat) (l : List ByteArray) : Prop where
  book : w.cell? ⟨b, 0, none⟩ = some (.iface 184 (.pointer (some ⟨t, 0, none⟩)))
  secrets : ∃ A c, w.cell? ⟨t, 0, none⟩ = some (.slice A l.length c) ∧ TxS w A c l ∧ ∀ k, Row A k → k < w.heap.size
  lt : b < w.heap.size ∧ t < w.heap.size
def KeyedPost (l : List ByteArray) (w : World) (e : Ending) (w' : World) : Prop :=
  Below w.heap.size w w' ∧ ((okSecrets l = false ∧ e = .returned (.tuple #[.pointer none, .int .i64 1])) ∨ (okSecrets l = true ∧ ∃ b t, e = .returned (.tuple #[.pointer (some ⟨b, 0, none⟩), .int .i64 0]) ∧ KBk w' b t l ∧ w.heap.size ≤ b ∧ w.heap.size ≤ t))
theorem KBk.kd {w : World} {b t : Nat} {l : List ByteArray} (h : KBk w b t l) (T : List ByteArray) (S : List Wd) : Kd.Bk w b t b b T S := ⟨h.book, ⟨h.lt.1⟩, ⟨h.lt.1⟩, h.lt⟩
set_option maxHeartbeats 4000000 in
set_option maxRecDepth 100000 in
theorem newKeyed_calls (A : Option Addr) (c : Nat) (l : List ByteArray) (w : World) (hs : TxS w A c l) :
    Calls Try.prog 48 #[.slice A l.length c] w (KeyedPost l w) := by
  have hfit := hs.fits
  by_cases hbig : 256 < l.length
  · have hd : decide ((256 : Int) < (l.length : Int)) = true := by simp; omega
    have HO := Lib.hid (show okSecrets l = false by unfold okSecrets; rw [decide_eq_false (by omega)]; rfl)
    clear hs
    go_enter Try.func48, Try.ntmps48
    go_wp2
    go_ret2
    exact ⟨Below.refl _ _, .inl ⟨HO.out, rfl⟩⟩
  · have hd : decide ((256 : Int) < (l.length : Int)) = false := by simp; omega
    have HS := Lib.hid hs
    clear hs
    go_enter Try.func48, Try.ntmps48
    go_wp2_with fail
    go_loopg [5, 11] l.length (fun g v5 v11 wr => ∃ k : Nat, v11 = .int .i64 k ∧ k ≤ l.length ∧ Hid (g + k = l.length ∧ wr = w ∧ ∀ i x, i < k → l[i]? = some x → okSecret x = true))
    case atStart => exact ⟨0, rfl, by omega, rfl, rfl, fun i x h => by omega⟩
    case round =>
      obtain ⟨k, rfl, hk, HH⟩ := hrel
      obtain ⟨hg, hw, hok⟩ := HH.out
      subst hw
      have HG := Lib.hid hg
      have HOK := Lib.hid hok
      clear HH hg hok
      by_cases hlt : k < l.length
      · have hd2 : decide ((k : Int) < (l.length : Int)) = true := by simp; omega
        obtain ⟨a, rfl, hc⟩ := HS.out.elem k hlt
        have HX := Lib.hid (List.getElem?_eq_getElem hlt)
        obtain ⟨s, hs⟩ : ∃ s, s = l[k] := ⟨_, rfl⟩
        rw [← hs] at hc HX
        clear hs
        have hi0 : (0 : Int) ≤ (k : Int) := by omega
        have hi1 : (k : Int) < (l.length : Int) := by omega
        have hte := has_text s
        by_cases h0 : s.size = 0
        · rw [decide_eq_false (by omega)] at hte
          have hemp : s.toList.isEmpty = true := by simpa using hte
          have HBAD := Lib.hid (show okSecrets l = false by
            unfold okSecrets
            rw [Bool.and_eq_false_iff]
            exact .inr (List.all_eq_false.2 ⟨s, List.mem_of_getElem? HX.out, by unfold okSecret; simp; omega⟩))
          clear hte h0
          go_wp2
          go_ret2
          exact ⟨Below.refl _ _, .inl ⟨HBAD.out, rfl⟩⟩
        · rw [decide_eq_true (by omega)] at hte
          have hemp : s.toList.isEmpty = false := by simpa using hte
          by_cases h64 : 64 < s.size
          · have hd3 : decide ((64 : Int) < (s.size : Int)) = true := by simp; omega
            have HBAD := Lib.hid (show okSecrets l = false by
              unfold okSecrets
              rw [Bool.and_eq_false_iff]
              exact .inr (List.all_eq_false.2 ⟨s, List.mem_of_getElem? HX.out, by unfold okSecret; simp; omega⟩))
            clear hte h0
            go_wp2
            go_ret2
            exact ⟨Below.refl _ _, .inl ⟨HBAD.out, rfl⟩⟩
          · have hd3 : decide ((64 : Int) < (s.size : Int)) = false := by simp; omega
            have HGD := Lib.hid (show okSecret s = true by unfold okSecret; simp; omega)
            clear hte h0
            go_wp2_with fail
            go_roundg (l.length - (k + 1))
            case measure => have := HG.out; omega
            case rel => exact ⟨k + 1, by go_num, by omega, by have := HG.out; omega, rfl, fun i x hi hx => by
              rcases Nat.lt_or_ge i k with h | h
              · exact HOK.out i x h hx
              · obtain rfl : i = k := by omega
                obtain rfl := Option.some.inj (hx.symm.trans HX.out)
                exact HGD.out⟩
      · obtain rfl : k = l.length := by omega
        have hd2 : decide (((l.length : Nat) : Int) < (l.length : Int)) = false := by simp
        have HO := Lib.hid (show okSecrets l = true by
          unfold okSecrets
          rw [decide_eq_true (by omega), Bool.true_and, List.all_eq_true]
          intro x hx
          obtain ⟨i, hi⟩ := List.getElem?_of_mem hx
          exact HOK.out i x (List.getElem?_eq_some_iff.1 hi).1 hi)
        have HN0 := Lib.hid (show (wr.alloc (.cells #[] 9)).ownsRow wr.heap.size 9 1 (.slice (some ⟨wr.heap.size, 0, none⟩) 0 0) 0 [] from ⟨rfl, .inr ⟨wr.heap.size, 0, #[], rfl, Nat.le_refl _, Box.new wr #[] _, by omega, by omega, rfl, rfl⟩⟩)
        have hb0 : Below wr.heap.size wr (wr.alloc (.cells #[] 9)) := (Below.refl _ _).alloc (Nat.le_refl _) _
        have HS0 := Lib.hid (HS.out.below hb0)
        have hn256 : l.length ≤ 256 := by omega
        clear hlt hk HG HOK
        go_wp2_with (at_builtin; refine app_rowO rfl (.tmp 23) (.tmp 24) 54 rfl wr.heap.size 9 (.string ⟨#[]⟩) 1 16 info_str Try.underlying54 rfl (by decide) (some ⟨wr.heap.size, 0, none⟩) 0 0 [] rfl HN0.out A l.length c (l.flatMap textCells) rfl HS0.out.len HS0.out.at_ ?h1 (by omega) (by omega) (by simp) ?_; (case h1 => intro u hu; obtain ⟨b, _, hb⟩ := List.mem_flatMap.1 hu; simp only [textCells, List.mem_singleton] at hb; subst hb; rfl); intro A1 c1 w1 ho1 hc1 hA1; rw [Nat.zero_add, List.nil_append] at ho1; rw [Nat.zero_add]; have HO1 := Lib.hid ho1; have HB1 := Lib.hid (below_app (Below.refl wr.heap.size wr) (Nat.le_refl _) hc1 (fun k hk => by have : k = wr.heap.size := (Option.some.inj hk).symm; omega)); clear ho1 hc1 hA1)
        go_ret2
        have hz1 := HB1.out.size
        have hB2 : Below w1.heap.size w1 ((w1.alloc (.cells #[.slice A1 l.length c1] 186)).alloc (.cells #[.iface 184 (.pointer (some ⟨w1.heap.size, 0, none⟩))] 97)) := ((Below.refl _ _).alloc (Nat.le_refl _) _).alloc (by simp) _
        refine ⟨HB1.out.trans (hB2.mono hz1), .inr ⟨HO.out, w1.heap.size + 1, w1.heap.size, rfl, ⟨?_, ⟨A1, c1, ?_, Sl.below (Sl.of_own HO1.out) hB2, fun k hk => by have := own_row HO1.out hk; have := hB2.size; omega⟩, by simp only [World.size_alloc]; omega⟩, by omega, hz1⟩⟩
        · have h := Box.new (w1.alloc (.cells #[.slice A1 l.length c1] 186)) #[.iface 184 (.pointer (some ⟨w1.heap.size, 0, none⟩))] 97
          rw [World.size_alloc] at h
          exact h.cell 0
        · exact ((Box.new w1 #[.slice A1 l.length c1] 186).alloc _).cell 0
end Go.Proofs.Ytfgpchffkpomoaa
