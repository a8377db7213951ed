/- A book that numbers answers as the document's: the walk through AuthnPlays. -/
import Derived.Test.YtfgpchffkpomoaaStep
import Derived.Test.YtfgpchffkpomoaaUnlike
namespace Go.Proofs.Ytfgpchffkpomoaa
set_option linter.unusedSimpArgs false
set_option linter.unusedVariables false
open Go.RowKit

theorem step_calls (B bb t m n rb base : Nat) (T : List ByteArray) (S : List Wd) (x : Act3) (w0 w : World) (hp : PL B w0 w bb t m n rb base T S T S) (hT : T.length ≤ 100000) (hS : S.length ≤ 100000) (hs : x.text.size ≤ maxLen) :
    Calls Try.prog 60 #[.pointer (some ⟨bb, 0, none⟩), .pointer (some ⟨rb, 0, none⟩), .agg #[.int .i64 x.kind, .int .i64 x.who, .string x.text, .string x.sig]] w (StepPost B w0 bb t m n rb base T S) := by
  have h := rnd_lt x.kind (m := 4) (by decide)
  have h4 : rnd x.kind 4 = 0 ∨ rnd x.kind 4 = 1 ∨ rnd x.kind 4 = 2 ∨ rnd x.kind 4 = 3 := by omega
  rcases h4 with h0 | h0 | h0 | h0
  · exact step0_calls B bb t m n rb base T S x w0 w hp hT hS hs h0
  · exact step1_calls B bb t m n rb base T S x w0 w hp hT hS hs h0
  · exact step2_calls B bb t m n rb base T S x w0 w hp hT hS hs h0
  · exact step3_calls B bb t m n rb base T S x w0 w hp hT hS hs h0

theorem RBk.new (w : World) : RBk (w.alloc (.cells #[.slice none 0 0, .slice none 0 0] 90)) w.heap.size (w.heap.size + 1) [] [] :=
  ⟨by omega, by simp, none, 0, none, 0, Box.new _ _ _, ⟨rfl, .inl ⟨rfl, rfl⟩⟩, ⟨rfl, .inl ⟨rfl, rfl⟩⟩, fun k hk => by cases hk⟩

set_option maxHeartbeats 2000000 in
set_option maxRecDepth 100000 in
theorem authnPlays_calls (A : Option Addr) (c : Nat) (l : List Act3) (w : World) (hs : A3S w A c l) (hok : ∀ s ∈ l, s.text.size ≤ maxLen) : Calls Try.prog 16 #[.slice A l.length c] w (BoolPost true w) := by
  have HS := Lib.hid hs
  have HOK := Lib.hid hok
  have hlen := hs.2
  clear hs hok
  go_enter Try.func16, Try.ntmps16
  go_wp2_with fail
  refine (newBook_calls w).mono ?_
  rintro e w1 ⟨bb, t, m, n, rfl, hb1, hk1, g1, g2, g3, g4⟩
  have HP := Lib.hid (show PL w.heap.size w (w1.alloc (.cells #[.slice none 0 0, .slice none 0 0] 90)) bb t m n w1.heap.size (w1.heap.size + 1) [] [] [] [] from
    ⟨hb1.alloc hb1.size _, hk1.alloc _, RBk.new w1, ⟨g3, g4, hb1.size, Nat.le_refl _⟩, ⟨hk1.lt.1, hk1.lt.2, hk1.tm.lt, hk1.wm.lt⟩⟩)
  clear hb1 hk1 g1 g2 g3 g4
  obtain ⟨rb, hrb⟩ : ∃ rb, rb = w1.heap.size := ⟨_, rfl⟩
  go_wp2_with fail
  go_loopg [5] 200 (fun g v5 wr => ∃ (k : Nat), v5 = .int .i64 k ∧ k ≤ 200 ∧ Hid (g + k = 200 ∧ ∃ T S, PL w.heap.size w wr bb t m n w1.heap.size (w1.heap.size + 1) T S T S ∧ T.length ≤ k ∧ S.length ≤ k))
  case atStart => exact ⟨0, rfl, Nat.zero_le _, rfl, [], [], HP.out, by simp, by simp⟩
  case round =>
    clear HP
    obtain ⟨k, rfl, hk, HH⟩ := hrel
    obtain ⟨hg, T, S, hp, hT, hS⟩ := HH.out
    have HG := Lib.hid hg
    have HP := Lib.hid hp
    clear HH hg hp
    by_cases hl : k < l.length
    · by_cases h2 : k < 200
      · have hx := (A3S.below HS.out HP.out.b).elem k hl
        obtain ⟨a, rfl, e0, e1, e2, e3⟩ := hx
        have hxs := HOK.out l[k] (List.getElem_mem _)
        obtain ⟨x, hx⟩ : ∃ x, x = l[k] := ⟨_, rfl⟩
        rw [← hx] at e0 e1 e2 e3 hxs
        clear hx
        have HX := Lib.hid hxs
        clear hxs
        go_wp2_with fail
        refine (step_calls _ _ _ _ _ _ _ T S x w wr HP.out (by omega) (by omega) HX.out).mono ?_
        rintro e w2 ⟨rfl, T2, S2, hp2, hT2, hS2⟩
        have HP2 := Lib.hid hp2
        clear hp2
        go_wp2_with fail
        go_roundg (200 - (k + 1))
        case measure => have := HG.out; omega
        case rel => exact ⟨k + 1, by go_num, by omega, by omega, T2, S2, HP2.out, by omega, by omega⟩
      · have hd2 : decide ((k : Int) < 200) = false := by simp; omega
        have HB := Lib.hid HP.out.b
        go_wp2_with ((go_at_call 50; refine (awake3_calls _).mono ?_; rintro e wn ⟨rfl, hbn⟩; have HBn := Lib.hid (HB.out.trans (hbn.mono HB.out.size)); clear HB hbn; have HB := HBn; clear HBn))
        go_ret
        exact ⟨rfl, HB.out⟩
    · have HB := Lib.hid HP.out.b
      go_wp2_with ((go_at_call 50; refine (awake3_calls _).mono ?_; rintro e wn ⟨rfl, hbn⟩; have HBn := Lib.hid (HB.out.trans (hbn.mono HB.out.size)); clear HB hbn; have HB := HBn; clear HBn))
      go_ret
      exact ⟨rfl, HB.out⟩
end Go.Proofs.Ytfgpchffkpomoaa
