/- Whatever proof is shown under the root of records: what the client's Verify tells of a key, if it takes it, is true. -/
import Derived.Test.YtfgpchffkpomoaaLight3
namespace Go.Proofs.Ytfgpchffkpomoaa
set_option linter.unusedSimpArgs false
set_option linter.unusedVariables false
open Go.RowKit

theorem of_open {S : List Wd} {m : Sg} {b : Bd} (h : openE S m = (b, 0)) : ofBody m.body = (b, 0) := by
  unfold openE at h
  split at h
  · exact h
  · exact absurd (Prod.mk.inj h).2 (by decide)
theorem sealed_said {S S' : List Wd} {who : Int} {b : Bd} {sg : Sg} (hw : 0 ≤ who ∧ who ≤ 255) (h : sealE S who b = ((sg, 0), S')) : Said S' who b sg ∧ S'.length ≤ S.length + 1 := by
  have hb : (bytesE b).2 = 0 := by
    by_cases hb : (bytesE b).2 = 0
    · exact hb
    · unfold sealE at h
      rw [if_neg hb] at h
      exact absurd (Prod.mk.inj (Prod.mk.inj h).1).2 hb
  obtain ⟨m, S'', h1, h2, h3⟩ := seal_said (S := S) hw hb
  rw [h1] at h
  obtain ⟨h4, rfl⟩ := Prod.mk.inj h
  obtain rfl := (Prod.mk.inj h4).1
  exact ⟨h2, h3⟩
def ToldPost (w0 : World) (b t m n : Nat) (T : List ByteArray) (S : List Wd) (L : List Rc) (key : ByteArray) (e : Ending) (w' : World) : Prop :=
  ∃ (x : Int) (v : ByteArray) (has : Bool) (cd : Int) (T' : List ByteArray), e = .returned (.tuple #[.agg #[.int .i64 x, .string v, .bool has], .int .i64 cd]) ∧ Hid (cd = 0 → truthP L key v has = true) ∧ Ext T T' ∧ T'.length ≤ T.length + 101 ∧ Ch w0.heap.size (· = m) w0 w' ∧ Bk w' b t m n T' S
theorem verify_told (f : Nat) (C G P : Int) (b t m n : Nat) (T0 T : List ByteArray) (S : List Wd) (L : List Rc) (key s : ByteArray) (m1 : Sg) (b2 : Bd) (cnt : Int) (pts : List Pt) (w : World) (hb : Bk w b t m n T S) (hT : T.length ≤ 90000000) (hS : S.length ≤ 1000000000) (hs : s.size ≤ maxLen) (hfc : fitsC f C G P = true) (hf4 : f ≤ 4) (h1 : ofSg s = (m1, 0)) (h2 : openE S m1 = (b2, 0)) (h3 : b2.kind = 13) (h5 : ofPfE b2.text = ((cnt, pts), 0))
    (he : Ext T0 T) (hi : RootIn T0 L) (hr : riseE L = 0) (hd : b2.digest = rootP (hh T0) L) :
    Calls Try.prog 87 #[.agg #[.int .i64 (f : Int), .int .i64 C, .int .i64 G, .int .i64 P], .pointer (some ⟨b, 0, none⟩), .string key, .string s] w (ToldPost w b t m n T S L key) := by
  by_cases hv : verE S f s = 0
  · have h4 : f < (votersS S 5 0 b2.seq b2.digest (3 * f + 1) b2.list []).length := by
      unfold verE at hv
      rw [h1] at hv
      simp only at hv
      rw [h2] at hv
      simp only [ne_eq, not_true_eq_false, if_false, h3] at hv
      split at hv
      · cases hv
      · omega
    refine (verifyYes_calls f C G P b t m n T S key s m1 b2 cnt pts w hb hT hS hs hfc hf4 h1 h2 h3 h4 h5).mono ?_
    rintro e w' ⟨T', v, has, cd, rfl, hv1, hv2, e', l', ch', hk'⟩
    by_cases hcd : cd = 0
    · refine ⟨_, _, _, _, T', by rw [if_pos hcd], Lib.hid (fun _ => ?_), e', l', ch', hk'⟩
      have hv3 := hv1.out
      rw [hd] at hv3
      exact any_true (he.trans e') (by omega) hr hi hv3 hv2.out hcd
    · exact ⟨_, _, _, _, T', by rw [if_neg hcd], Lib.hid (fun h => absurd h hcd), e', l', ch', hk'⟩
  · refine (verifyNo_calls f C G P b t m n T S key s (verE S f s) w hb (by omega) hS hs hfc hf4 rfl hv).mono ?_
    rintro e w' ⟨rfl, T', e', l', ch', hk'⟩
    exact ⟨_, _, _, _, T', rfl, Lib.hid (fun h => absurd h hv), e', by omega, ch', hk'⟩
end Go.Proofs.Ytfgpchffkpomoaa
