/- What an honest proof tells is true, whatever the digests are: in plain words. -/
import Derived.Test.YtfgpchffkpomoaaPk20
namespace Go.Proofs.Ytfgpchffkpomoaa
set_option linter.unusedSimpArgs false
set_option linter.unusedVariables false
open Go.RowKit

theorem shown_truth {h : ByteArray → ByteArray} {l : List Rc} (hr : Rising l) (key : ByteArray) : truthP l key (shownE h (rootP h l) key l.length (proofP h l key)).1 (shownE h (rootP h l) key l.length (proofP h l key)).2.1 = true := by
  unfold proofP shownP
  by_cases h1 : isP l key = true
  · obtain ⟨x, hx, hk⟩ := isP_some h1
    rw [if_pos h1, List.map_cons, List.map_nil, pathP_eq hx]
    unfold shownE
    dsimp only
    rw [if_pos hk]
    subst hk
    exact truth_some hr hx
  · rw [if_neg h1]
    have hno := isP_none hr (by simpa using h1)
    have hle := plc_le l key
    by_cases h0 : l.length = 0
    · obtain rfl := List.eq_nil_of_length_eq_zero h0
      unfold shownE
      rw [if_pos h0, List.map_nil]
      dsimp only
      split <;> exact truth_none hno
    · rw [if_neg h0]
      by_cases h2 : placeP l key = 0
      · rw [if_pos h2, List.map_cons, List.map_nil]
        obtain ⟨x, hx⟩ : ∃ x, l[0]? = some x := ⟨l[0], List.getElem?_eq_getElem (by omega)⟩
        rw [pathP_eq hx]
        unfold shownE
        dsimp only
        rw [if_neg (hno 0 x hx)]
        split <;> exact truth_none hno
      · rw [if_neg h2]
        obtain ⟨x, hx⟩ : ∃ x, l[placeP l key - 1]? = some x := ⟨l[placeP l key - 1]'(by omega), List.getElem?_eq_getElem (by omega)⟩
        by_cases h3 : placeP l key = l.length
        · rw [if_pos h3, List.map_cons, List.map_nil, pathP_eq hx]
          unfold shownE
          dsimp only
          rw [if_neg (hno _ x hx)]
          split <;> exact truth_none hno
        · rw [if_neg h3, List.map_cons, List.map_cons, List.map_nil]
          unfold shownE
          (try dsimp only)
          split <;> exact truth_none hno
theorem verify_shown {h : ByteArray → ByteArray} {l : List Rc} {key : ByteArray} (hk : fitK key = true) (hp : pfOk l.length (proofP h l key) = true) : verifyP h (rootP h l) key l.length (proofP h l key) = shownE h (rootP h l) key l.length (proofP h l key) := by
  unfold verifyP
  rw [if_pos hk, if_pos hp, if_pos]
  rw [List.all_eq_true]
  intro x hx
  unfold proofP at hx
  obtain ⟨i, hi, rfl⟩ := List.mem_map.1 hx
  rw [Int.toNat_natCast]
  exact led_honest (shown_lt hi)
end Go.Proofs.Ytfgpchffkpomoaa
