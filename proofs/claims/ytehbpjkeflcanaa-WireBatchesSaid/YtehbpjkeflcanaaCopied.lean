/- A body's bytes: both sides say the same, and the body stays as it was: the walk. -/
import Derived.Test.YtehbpjkeflcanaaRefBytes
import Derived.Test.YtehbpjkeflcanaaSameBd
import Derived.Test.YtehbpjkeflcanaaAwake
namespace Go.Proofs.Ytehbpjkeflcanaa
set_option linter.unusedSimpArgs false
set_option linter.unusedVariables false
open Go.RowKit

theorem sg_one (l : List Sg) : ∀ u ∈ l.flatMap Sg.cells, u.oneCell' = true := by
  intro u hu
  obtain ⟨m, _, hm⟩ := List.mem_flatMap.1 hu
  exact Sg.one m u hm

set_option maxRecDepth 100000 in
theorem copied_calls (A : Option Addr) (c : Nat) (l : List Sg) (w : World) (hs : SgS w A c l) (hl : l.length * 40 ≤ 140737488351232) : Calls Try.prog 19 #[.slice A l.length c] w fun e w' =>
    ∃ A' c', e = .returned (.slice A' l.length c') ∧ Below w.heap.size w w' ∧ w'.ownsRow w.heap.size 36 3 (.slice A' l.length c') l.length (l.flatMap Sg.cells) := by
  have HS := Lib.hid hs
  clear hs
  cases A with
  | none =>
    have hl0 : l = [] := by
      cases l with
      | nil => rfl
      | cons m l => obtain ⟨a, ha, _⟩ := HS.out.at_ 0 _ (by simp [Sg.cells]; rfl); cases ha
    subst hl0
    go_enter Try.func19, Try.ntmps19
    go_wp2
    go_ret
    exact ⟨none, 0, rfl, Below.refl _ _, rfl, .inl ⟨rfl, rfl⟩⟩
  | some a =>
    have hn : ∀ j u, (l.flatMap Sg.cells)[j]? = some u → w.cell? (a.add j) = some u := fun j u hj => by
      obtain ⟨b, hb, h⟩ := HS.out.at_ j u hj
      obtain rfl : a = b := by simpa using hb
      exact h
    have HN := Lib.hid hn
    clear hn
    go_enter Try.func19, Try.ntmps19
    go_wp2_with (at_builtin; refine app_row rfl (.tmp 4) (.tmp 5) 22 rfl w.heap.size 36 _ 3 40 info_sg Try.underlying22 rfl (by decide) none 0 0 [] rfl ⟨rfl, .inl ⟨rfl, rfl⟩⟩ a l.length c (l.flatMap Sg.cells) rfl (flat_len Sg.cells 3 Sg.cells_len l) HN.out (sg_one l) (by omega) (by omega) (Nat.le_refl _) ?_; intro A' c' w1 ho hc hA; have HO := Lib.hid ho; have HC := Lib.hid hc; clear ho hc hA)
    go_ret
    refine ⟨A', c', by simp, HC.out.below (by intro k _ hk; cases hk), ?_⟩
    have h := HO.out
    simpa using h
end Go.Proofs.Ytehbpjkeflcanaa
