/- Messages out of votes, some of them spoilt: what is sealed, and which of it counts. -/
import Derived.Test.YtfgpchffkpomoaaQuorum
import Derived.Test.YtfgpchffkpomoaaRound
import Derived.Test.YtfgpchffkpomoaaRow3
import Derived.Test.YtfgpchffkpomoaaPlainBd
import Derived.Test.YtfgpchffkpomoaaUnlike
namespace Go.Proofs.Ytfgpchffkpomoaa
set_option linter.unusedSimpArgs false
set_option linter.unusedVariables false
open Go.RowKit

/-- A vote's body. -/
def voteBd (v : Vt) : Bd := ⟨3 + (rnd v.kind 2 : Int), v.view, v.seq, 0, 0, v.digest, ⟨#[]⟩, []⟩
/-- What becomes of a message, and is it good. -/
def spoil (v : Vt) (r : Sg × Int) : Sg × Bool :=
  if v.spoilt = 1 then (⟨r.1.who, r.1.body, r.1.sig ++ ⟨#[120]⟩⟩, false) else if v.spoilt = 2 then (⟨r.1.who + 1, r.1.body, r.1.sig⟩, false) else (r.1, r.2 == 0)
def sealsS : List Vt → List Wd → List (Sg × Bool) × List Wd
  | [], S => ([], S)
  | v :: l, S => (spoil v (sealE S v.who (voteBd v)).1 :: (sealsS l (sealE S v.who (voteBd v)).2).1, (sealsS l (sealE S v.who (voteBd v)).2).2)
theorem sealsS_append : ∀ (l k : List Vt) (S : List Wd), sealsS (l ++ k) S = ((sealsS l S).1 ++ (sealsS k (sealsS l S).2).1, (sealsS k (sealsS l S).2).2)
  | [], k, S => rfl
  | v :: l, k, S => by simp only [List.cons_append, sealsS]; rw [sealsS_append l k]
theorem sealsS_take {l : List Vt} {k : Nat} (hk : k < l.length) (S : List Wd) : sealsS (l.take (k + 1)) S = ((sealsS (l.take k) S).1 ++ [spoil l[k] (sealE (sealsS (l.take k) S).2 l[k].who (voteBd l[k])).1], (sealE (sealsS (l.take k) S).2 l[k].who (voteBd l[k])).2) := by
  rw [List.take_succ_eq_append_getElem hk, sealsS_append]; rfl
/-- No text is empty. -/
def NoEmpty (S : List Wd) : Prop := ∀ x ∈ S, x.2 ≠ ⟨#[]⟩
theorem ofBody_empty : (ofBody ⟨#[]⟩).2 ≠ 0 := by
  have h : ((ofBody ⟨#[]⟩).2 == 0) = false := by kernel_rfl
  intro e
  rw [e] at h
  cases h
theorem bytes_some {b : Bd} (h : (bytesE b).2 = 0) : (bytesE b).1 ≠ ⟨#[]⟩ := by
  intro e
  have h1 : bytesE b = (⟨#[]⟩, 0) := by rw [← e, ← h]
  have h2 := (of_bytes h1).1
  refine ofBody_empty ?_
  rw [h2]
theorem sealE_more {S : List Wd} (hS : NoEmpty S) (who : Int) (b : Bd) : (∃ X, (sealE S who b).2 = S ++ X ∧ X.length ≤ 1) ∧ NoEmpty (sealE S who b).2 := by
  unfold sealE
  by_cases hb : (bytesE b).2 = 0
  · rw [if_pos hb]
    simp only
    unfold signE
    by_cases hw : 0 ≤ who ∧ who ≤ 255
    · rw [if_pos hw]
      simp only
      unfold signS
      cases place (who, (bytesE b).1) S with
      | some i => exact ⟨⟨[], by simp, by simp⟩, hS⟩
      | none =>
        refine ⟨⟨[(who, (bytesE b).1)], rfl, by simp⟩, fun x hx => ?_⟩
        rcases List.mem_append.1 hx with h | h
        · exact hS x h
        · obtain rfl : x = (who, (bytesE b).1) := by simpa using h
          exact bytes_some hb
    · rw [if_neg hw]
      exact ⟨⟨[], by simp, by simp⟩, hS⟩
  · rw [if_neg hb]
    exact ⟨⟨[], by simp, by simp⟩, hS⟩
/-- A message's lot: if it is good, then it is its signer's; and it counts just if it is good and the vote is this one. -/
structure VoteOk (v : Vt) (m : Sg) (g : Bool) (S : List Wd) : Prop where
  who : g = true → m.who = v.who ∧ 0 ≤ v.who ∧ v.who ≤ 255
  votes : ∀ kind view seq digest, voteB S kind view seq digest m = (g && ((3 + (rnd v.kind 2 : Int) == kind) && ((v.view == view) && ((v.seq == seq) && decide (v.digest = digest)))))
  body : m.body.size ≤ 1048576
  lo : 0 ≤ m.who
  hi : m.who ≤ 256
theorem voteB_not {S : List Wd} {m : Sg} (h : checkE S m.who m.body m.sig = false) (kind view seq : Int) (digest : ByteArray) : voteB S kind view seq digest m = false := by
  unfold voteB openE
  rw [h]
  rfl
theorem checkE_empty {S : List Wd} (hS : NoEmpty S) (who : Int) (g : ByteArray) : checkE S who ⟨#[]⟩ g = false := by
  unfold checkE checkS
  rw [place_not (fun h => hS _ h rfl)]
  simp
theorem vote_ok {S : List Wd} (v : Vt) (X : List Wd) (hN : NoEmpty ((sealE S v.who (voteBd v)).2 ++ X)) (hl : ((sealE S v.who (voteBd v)).2 ++ X).length ≤ 1000000) :
    VoteOk v (spoil v (sealE S v.who (voteBd v)).1).1 (spoil v (sealE S v.who (voteBd v)).1).2 ((sealE S v.who (voteBd v)).2 ++ X) := by
  by_cases hb : (bytesE (voteBd v)).2 = 0 ∧ namedB v.who = true
  · obtain ⟨hb, hw⟩ := hb
    obtain ⟨p, h1, h2⟩ := signE_place (S := S) (s := (bytesE (voteBd v)).1) hw
    have hw2 : 0 ≤ v.who ∧ v.who ≤ 255 := by simpa [namedB] using hw
    have h3 : (signE S v.who (bytesE (voteBd v)).1).1.2 = 0 := by unfold signE; rw [if_pos hw2]
    have hE : sealE S v.who (voteBd v) = ((⟨v.who, (bytesE (voteBd v)).1, sigOf p⟩, 0), (signE S v.who (bytesE (voteBd v)).1).2) := by
      unfold sealE
      rw [if_pos hb, if_pos h3, h2]
    rw [hE] at hN hl ⊢
    simp only at hN hl ⊢
    have hp := place_app X h1
    have hob := (of_bytes (b := voteBd v) (s := (bytesE (voteBd v)).1) (by rw [← hb])).1
    have hsz := bytesE_size (voteBd v)
    obtain ⟨y, hy⟩ : ∃ y, y = (bytesE (voteBd v)).1 := ⟨_, rfl⟩
    rw [← hy] at hp hob hsz hN hl h1 ⊢
    obtain ⟨Sf, hSf⟩ : ∃ Sf, Sf = (signE S v.who y).2 ++ X := ⟨_, rfl⟩
    rw [← hSf] at hp hN hl ⊢
    have hpl := place_lt hp
    unfold spoil
    by_cases s1 : v.spoilt = 1
    · rw [if_pos s1]
      refine ⟨fun h => (by cases h), fun kind view seq digest => ?_, hsz, hw2.1, by simp only; omega⟩
      rw [voteB_not]
      · rfl
      · unfold checkE checkS
        simp only
        rw [hp]
        have : ¬ (sigOf p ++ ⟨#[120]⟩ = sigOf p) := fun e => by
          have := congrArg ByteArray.size e
          rw [ByteArray.size_append, sigOf_size] at this
          simp [ByteArray.size] at this
        simp [this]
    · rw [if_neg s1]
      by_cases s2 : v.spoilt = 2
      · rw [if_pos s2]
        refine ⟨fun h => (by cases h), fun kind view seq digest => ?_, hsz, by simp only; omega, by simp only; omega⟩
        rw [voteB_not]
        · rfl
        · unfold checkE checkS
          simp only
          cases hq : place (v.who + 1, y) Sf with
          | none => simp
          | some q =>
            have hql := place_lt hq
            have : ¬ (sigOf p = sigOf q) := fun e => by
              have e2 := sigOf_inj (by omega) (by omega) e
              subst e2
              have e3 := place_same hp hq
              have e4 := congrArg Prod.fst e3
              simp only at e4
              omega
            simp [this]
      · rw [if_neg s2]
        refine ⟨fun _ => ⟨rfl, hw2⟩, fun kind view seq digest => ?_, hsz, hw2.1, by simp only; omega⟩
        have hc : checkE Sf v.who y (sigOf p) = true := by
          unfold checkE checkS
          rw [hp]
          simp [hw2]
        unfold voteB openE
        simp only
        rw [hc]
        simp only [if_true]
        rw [hob]
        rfl
  · have hE : ∃ err, err ≠ 0 ∧ (sealE S v.who (voteBd v)).1 = (zeroSg, err) := by
      unfold sealE
      by_cases hb2 : (bytesE (voteBd v)).2 = 0
      · rw [if_pos hb2]
        have hw : ¬ (0 ≤ v.who ∧ v.who ≤ 255) := fun h => hb ⟨hb2, by simpa [namedB] using h⟩
        have h3 : (signE S v.who (bytesE (voteBd v)).1).1.2 = 1 := by unfold signE; rw [if_neg hw]
        exact ⟨1, by decide, by rw [h3, if_neg (by decide)]⟩
      · rw [if_neg hb2]
        exact ⟨_, hb2, rfl⟩
    obtain ⟨err, he, hE⟩ := hE
    rw [hE]
    obtain ⟨Sf, hSf⟩ : ∃ Sf, Sf = (sealE S v.who (voteBd v)).2 ++ X := ⟨_, rfl⟩
    rw [← hSf] at hN hl ⊢
    unfold spoil
    by_cases s1 : v.spoilt = 1
    · rw [if_pos s1]
      exact ⟨fun h => (by cases h), fun kind view seq digest => by rw [voteB_not (by exact checkE_empty hN _ _)]; rfl, by simp [zeroSg, ByteArray.size], by simp [zeroSg], by simp [zeroSg]⟩
    · rw [if_neg s1]
      by_cases s2 : v.spoilt = 2
      · rw [if_pos s2]
        exact ⟨fun h => (by cases h), fun kind view seq digest => by rw [voteB_not (by exact checkE_empty hN _ _)]; rfl, by simp [zeroSg, ByteArray.size], by simp [zeroSg], by simp [zeroSg]⟩
      · rw [if_neg s2]
        have hf : (err == 0) = false := by simpa using he
        exact ⟨fun h => (by rw [hf] at h; cases h), fun kind view seq digest => by rw [voteB_not (by exact checkE_empty hN _ _)]; simp only; rw [hf]; rfl, by simp [zeroSg, ByteArray.size], by simp [zeroSg], by simp [zeroSg]⟩
theorem sealsS_more : ∀ (l : List Vt) (S : List Wd), NoEmpty S → (∃ X, (sealsS l S).2 = S ++ X ∧ X.length ≤ l.length) ∧ NoEmpty (sealsS l S).2 ∧ (sealsS l S).1.length = l.length
  | [], S, h => ⟨⟨[], by simp [sealsS], by simp⟩, h, rfl⟩
  | v :: l, S, h => by
    obtain ⟨⟨X, h1, h2⟩, h3⟩ := sealE_more h v.who (voteBd v)
    obtain ⟨⟨Y, h4, h5⟩, h6, h7⟩ := sealsS_more l _ h3
    exact ⟨⟨X ++ Y, by simp only [sealsS]; rw [h4, h1, List.append_assoc], by simp; omega⟩, h6, by simp only [sealsS, List.length_cons, h7]⟩
theorem sealsS_all : ∀ (l : List Vt) (S : List Wd), NoEmpty S → S.length + l.length ≤ 1000000 → ∀ i (h : i < l.length), ∃ m g, (sealsS l S).1[i]? = some (m, g) ∧ VoteOk l[i] m g (sealsS l S).2
  | [], S, hS, hl, i, h => by simp at h
  | v :: l, S, hS, hl, i, h => by
    obtain ⟨⟨X, h1, h2⟩, h3⟩ := sealE_more hS v.who (voteBd v)
    obtain ⟨⟨Y, h4, h5⟩, h6, h7⟩ := sealsS_more l _ h3
    have hlen : (sealE S v.who (voteBd v)).2.length ≤ S.length + 1 := by rw [h1]; simp; omega
    simp only [List.length_cons] at hl
    cases i with
    | zero =>
      refine ⟨_, _, rfl, ?_⟩
      simp only [sealsS]
      rw [h4]
      exact vote_ok v Y (by rw [← h4]; exact h6) (by simp; omega)
    | succ i =>
      obtain ⟨m, g, k1, k2⟩ := sealsS_all l (sealE S v.who (voteBd v)).2 h3 (by omega) i (by simpa using h)
      exact ⟨m, g, by simpa [sealsS] using k1, by simpa [sealsS] using k2⟩
end Go.Proofs.Ytfgpchffkpomoaa
