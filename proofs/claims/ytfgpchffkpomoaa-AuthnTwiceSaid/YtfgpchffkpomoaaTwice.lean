/- Messages that stand twice, or in another order, change no count: the plain laws. -/
import Derived.Test.YtfgpchffkpomoaaQuorum3
namespace Go.Proofs.Ytfgpchffkpomoaa
set_option linter.unusedSimpArgs false
set_option linter.unusedVariables false
open Go.RowKit

section
variable {S : List Wd} {kind view seq : Int} {digest : ByteArray} {below : Int}
theorem votersS_mem : ∀ (l : List Sg) (acc : List Int) (x : Int), x ∈ acc → x ∈ votersS S kind view seq digest below l acc
  | [], acc, x, h => h
  | m :: l, acc, x, h => by
    refine votersS_mem l _ x ?_
    split
    · exact List.mem_append_left _ h
    · exact h
theorem votersS_has : ∀ (l : List Sg) (acc : List Int) (m : Sg), m ∈ l → (0 ≤ m.who ∧ m.who < below) → voteB S kind view seq digest m = true → m.who ∈ votersS S kind view seq digest below l acc
  | [], acc, m, h, _, _ => by cases h
  | a :: l, acc, m, h, h1, h2 => by
    rcases List.mem_cons.1 h with rfl | h
    · refine votersS_mem l _ _ ?_
      by_cases e : m.who ∈ acc
      · split
        · exact List.mem_append_left _ e
        · exact e
      · rw [if_pos ⟨h1, e, h2⟩]
        simp
    · exact votersS_has l _ m h h1 h2
theorem votersS_none : ∀ (l : List Sg) (acc : List Int), (∀ m ∈ l, (0 ≤ m.who ∧ m.who < below) → voteB S kind view seq digest m = true → m.who ∈ acc) → votersS S kind view seq digest below l acc = acc
  | [], acc, _ => rfl
  | a :: l, acc, h => by
    unfold votersS
    rw [if_neg (fun hc => hc.2.1 (h a (by simp) hc.1 hc.2.2))]
    exact votersS_none l acc fun m hm => h m (by simp [hm])
theorem voters_twice (l : List Sg) : votersS S kind view seq digest below (l ++ l.reverse) [] = votersS S kind view seq digest below l [] := by
  rw [votersS_append]
  exact votersS_none _ _ fun m hm h1 h2 => votersS_has l [] m (by simpa using hm) h1 h2
theorem votersS_good : ∀ (l : List Sg) (acc : List Int), acc.Nodup → (∀ x ∈ acc, 0 ≤ x ∧ x < below) → (votersS S kind view seq digest below l acc).Nodup ∧ ∀ x ∈ votersS S kind view seq digest below l acc, 0 ≤ x ∧ x < below
  | [], acc, h1, h2 => ⟨h1, h2⟩
  | m :: l, acc, h1, h2 => by
    unfold votersS
    by_cases hc : (0 ≤ m.who ∧ m.who < below) ∧ m.who ∉ acc ∧ voteB S kind view seq digest m = true
    · rw [if_pos hc]
      refine votersS_good l _ ?_ ?_
      · rw [List.nodup_append]
        refine ⟨h1, by simp, fun a ha b hb => ?_⟩
        obtain rfl : b = m.who := by simpa using hb
        exact fun e => hc.2.1 (e ▸ ha)
      · intro x hx
        rcases List.mem_append.1 hx with h | h
        · exact h2 x h
        · obtain rfl : x = m.who := by simpa using h
          exact hc.1
    · rw [if_neg hc]
      exact votersS_good l acc h1 h2
theorem nodup_bound : ∀ (n : Nat) (l : List Int), l.Nodup → (∀ x ∈ l, 0 ≤ x ∧ x < n) → l.length ≤ n
  | 0, l, _, h => by
    cases l with
    | nil => simp
    | cons x l => have := h x (by simp); omega
  | n + 1, l, h1, h => by
    by_cases hm : (n : Int) ∈ l
    · have h2 := nodup_bound n (l.erase n) (h1.erase _) fun x hx => by
        have h3 := (List.Nodup.mem_erase_iff h1).1 hx
        have := h x h3.2
        have := h3.1
        omega
      rw [List.length_erase_of_mem hm] at h2
      omega
    · have h2 := nodup_bound n l h1 fun x hx => by
        have := h x hx
        have : x ≠ (n : Int) := fun e => hm (e ▸ hx)
        omega
      omega
theorem voters_below (l : List Sg) : ((votersS S kind view seq digest below l []).length : Int) ≤ max 0 below := by
  obtain ⟨h1, h2⟩ := votersS_good (S := S) (kind := kind) (view := view) (seq := seq) (digest := digest) (below := below) l [] (by simp) (by simp)
  by_cases hb : 0 ≤ below
  · have h3 := nodup_bound below.toNat _ h1 fun x hx => by have := h2 x hx; omega
    omega
  · have h3 : votersS S kind view seq digest below l [] = [] := by
      refine List.eq_nil_iff_forall_not_mem.2 fun x hx => ?_
      have := h2 x hx
      omega
    rw [h3]
    simp
    omega
end
theorem sgs_one (l : List Sg) : ∀ u ∈ l.flatMap Sg.cells, u.oneCell' = true := by
  intro u hu
  obtain ⟨m, _, hm⟩ := List.mem_flatMap.1 hu
  exact Sg.one m u hm
end Go.Proofs.Ytfgpchffkpomoaa
