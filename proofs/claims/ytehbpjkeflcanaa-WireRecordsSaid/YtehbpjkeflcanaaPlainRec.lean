/- Records: what is read is what was laid. In plain words. -/
import Derived.Test.YtehbpjkeflcanaaSeq
import Derived.Test.YtehbpjkeflcanaaPutRec
namespace Go.Proofs.Ytehbpjkeflcanaa
set_option linter.unusedSimpArgs false
set_option linter.unusedVariables false
open Go.RowKit

/-- A record at a place. -/
def rec_ (s : ByteArray) (q : Nat) : Except Nat (Rc × Nat) :=
  match text s q with
  | .error e => .error e
  | .ok (k, p) => match text s p with
    | .error e => .error e
    | .ok (v, p) => .ok (⟨k, v⟩, p)
def ofRecsE (s : ByteArray) : List Rc × Int :=
  if 1048576 < s.size then ([], 4) else match seqAt s (rec_ s) 4096 0 with
    | .error c => ([], c)
    | .ok (l, p) => if p < s.size then ([], 12) else if riseE l = 0 then (l, 0) else ([], riseE l)
theorem ofRecs_near {s : ByteArray} (h : ¬ 1048576 < s.size) : ofRecsE s = match seqAt s (rec_ s) 4096 0 with
    | .error c => ([], (c : Int))
    | .ok (l, p) => if p < s.size then ([], 12) else if riseE l = 0 then (l, 0) else ([], riseE l) := by
  unfold ofRecsE; rw [if_neg h]
theorem ofRecs_err {s : ByteArray} (h : ¬ 1048576 < s.size) {c : Nat} (hc : seqAt s (rec_ s) 4096 0 = .error c) : ofRecsE s = ([], (c : Int)) := by
  rw [ofRecs_near h, hc]
theorem rec_key {s k : ByteArray} {q p : Nat} (h : text s q = .ok (k, p)) : rec_ s q = match text s p with | .error e => .error e | .ok (v, p) => .ok (⟨k, v⟩, p) := by
  unfold rec_; rw [h]
theorem rec_no1 {s : ByteArray} {q c : Nat} (h : text s q = .error c) : rec_ s q = .error c := by unfold rec_; rw [h]
theorem rec_no2 {s k : ByteArray} {q p c : Nat} (h : text s q = .ok (k, p)) (h2 : text s p = .error c) : rec_ s q = .error c := by rw [rec_key h, h2]
theorem rec_yes {s k v : ByteArray} {q p r : Nat} (h : text s q = .ok (k, p)) (h2 : text s p = .ok (v, r)) : rec_ s q = .ok (⟨k, v⟩, r) := by rw [rec_key h, h2]

def rcGood (m : Rc) : Prop := m.key.size ≤ 64 ∧ m.val.size ≤ 4096
theorem rec_put {s : ByteArray} (m : Rc) (q : Nat) (hg : rcGood m) (h : At s q (putRc m)) : rec_ s q = .ok (m, q + (putRc m).length) := by
  obtain ⟨k, v⟩ := m
  unfold putRc at h ⊢
  obtain ⟨a1, a2⟩ := at_append.1 h
  have h1 := hg.1
  have h2 := hg.2
  simp only at h1 h2
  rw [rec_yes (text_put (by simp only; omega) a1) (text_put (by simp only; omega) a2)]
  simp [Nat.add_assoc]
theorem rec_get {s : ByteArray} (m : Rc) (q p : Nat) (h : rec_ s q = .ok (m, p)) : At s q (putRc m) ∧ p = q + (putRc m).length ∧ p ≤ s.size := by
  unfold rec_ at h
  cases hy : text s q with
  | error e => rw [hy] at h; cases h
  | ok r =>
    obtain ⟨t, p2⟩ := r
    obtain ⟨a2, b2⟩ := text_get hy
    rw [hy] at h
    simp only at h
    cases hz : text s p2 with
    | error e => rw [hz] at h; cases h
    | ok r =>
      obtain ⟨g, p3⟩ := r
      obtain ⟨a3, b3, c3⟩ := text_get' hz
      rw [hz] at h
      simp only [Except.ok.injEq, Prod.mk.injEq] at h
      obtain ⟨rfl, rfl⟩ := h
      unfold putRc
      simp only [List.length_append]
      exact ⟨at_append.2 ⟨a2, by rw [← b2]; exact a3⟩, by omega, c3⟩
theorem recs_ok {l : List Rc} {a : ByteArray} (h : recsE l = (a, 0)) : ofRecsE a = (l, 0) ∧ a.size ≤ 1048576 := by
  unfold recsE at h
  by_cases hr : riseE l = 0
  · rw [if_pos hr] at h
    have hok := rise_ok hr
    by_cases hl : 1048576 < (putRecs l).length
    · rw [if_pos hl] at h; simp only [Prod.mk.injEq] at h; omega
    · rw [if_neg hl] at h
      simp only [Prod.mk.injEq, and_true] at h
      have hs : a.size = (putRecs l).length := by rw [← h, bs_size]
      refine ⟨?_, by omega⟩
      have hm := seqAt_put (s := a) (rd := rec_ a) (put := putRc) (good := rcGood) (l := l) (q := 0) (most := 4096) rec_put (by omega) (by decide)
        (fun m hm => by obtain ⟨k, hk, rfl⟩ := List.getElem_of_mem hm; exact ⟨(hok.2 k hk).1, (hok.2 k hk).2.1⟩) (by rw [← h]; exact at_self _)
      rw [ofRecs_near (by omega), hm]
      simp only
      have e : (putNum l.length ++ l.flatMap putRc).length = a.size := by rw [hs]; rfl
      rw [if_neg (by omega), if_pos hr]
  · rw [if_neg hr] at h; simp only [Prod.mk.injEq] at h; omega
end Go.Proofs.Ytehbpjkeflcanaa
