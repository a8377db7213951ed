/- Proofs: what is read is what was laid. In plain words. -/
import Derived.Test.YtfgpchffkpomoaaSeq
import Derived.Test.YtfgpchffkpomoaaPk23
namespace Go.Proofs.Ytfgpchffkpomoaa
set_option linter.unusedSimpArgs false
set_option linter.unusedVariables false
open Go.RowKit

/-- A path at a place. -/
def path_ (s : ByteArray) (q : Nat) : Except Nat (Pt × Nat) :=
  match num s q with
  | .error e => .error e
  | .ok (n, p) => match text s p with
    | .error e => .error e
    | .ok (k, p) => match text s p with
      | .error e => .error e
      | .ok (v, p) => match seqAt s (text s) 13 p with
        | .error e => .error e
        | .ok (l, p) => .ok (⟨(n : Int), k, v, l⟩, p)
theorem path_no0 {s : ByteArray} {q c : Nat} (h : num s q = .error c) : path_ s q = .error c := by unfold path_; rw [h]
theorem path_num {s : ByteArray} {q n p : Nat} (h : num s q = .ok (n, p)) : path_ s q = match text s p with
    | .error e => .error e
    | .ok (k, p) => match text s p with
      | .error e => .error e
      | .ok (v, p) => match seqAt s (text s) 13 p with
        | .error e => .error e
        | .ok (l, p) => .ok (⟨(n : Int), k, v, l⟩, p) := by unfold path_; rw [h]
theorem path_no1 {s : ByteArray} {q n p c : Nat} (h : num s q = .ok (n, p)) (h1 : text s p = .error c) : path_ s q = .error c := by rw [path_num h, h1]
theorem path_key {s k : ByteArray} {q n p p1 : Nat} (h : num s q = .ok (n, p)) (h1 : text s p = .ok (k, p1)) : path_ s q = match text s p1 with
      | .error e => .error e
      | .ok (v, p) => match seqAt s (text s) 13 p with
        | .error e => .error e
        | .ok (l, p) => .ok (⟨(n : Int), k, v, l⟩, p) := by rw [path_num h, h1]
theorem path_no2 {s k : ByteArray} {q n p p1 c : Nat} (h : num s q = .ok (n, p)) (h1 : text s p = .ok (k, p1)) (h2 : text s p1 = .error c) : path_ s q = .error c := by rw [path_key h h1, h2]
theorem path_val {s k v : ByteArray} {q n p p1 p2 : Nat} (h : num s q = .ok (n, p)) (h1 : text s p = .ok (k, p1)) (h2 : text s p1 = .ok (v, p2)) : path_ s q = match seqAt s (text s) 13 p2 with
        | .error e => .error e
        | .ok (l, p) => .ok (⟨(n : Int), k, v, l⟩, p) := by rw [path_key h h1, h2]
theorem path_no3 {s k v : ByteArray} {q n p p1 p2 c : Nat} (h : num s q = .ok (n, p)) (h1 : text s p = .ok (k, p1)) (h2 : text s p1 = .ok (v, p2)) (h3 : seqAt s (text s) 13 p2 = .error c) : path_ s q = .error c := by rw [path_val h h1 h2, h3]
theorem path_yes {s k v : ByteArray} {q n p p1 p2 p3 : Nat} {l : List ByteArray} (h : num s q = .ok (n, p)) (h1 : text s p = .ok (k, p1)) (h2 : text s p1 = .ok (v, p2)) (h3 : seqAt s (text s) 13 p2 = .ok (l, p3)) : path_ s q = .ok (⟨(n : Int), k, v, l⟩, p3) := by rw [path_val h h1 h2, h3]
/-- A proof, and why there is none. -/
def ofPfE (s : ByteArray) : (Int × List Pt) × Int :=
  if 1048576 < s.size then ((0, []), 4) else match num s 0 with
    | .error c => ((0, []), c)
    | .ok (n, q) => match seqAt s (path_ s) 2 q with
      | .error c => ((0, []), c)
      | .ok (l, p) => if p < s.size then ((0, []), 12) else if pfOk n l = true then ((n, l), 0) else ((0, []), 14)
theorem ofPf_long {s : ByteArray} (h : 1048576 < s.size) : ofPfE s = ((0, []), 4) := by unfold ofPfE; rw [if_pos h]
theorem ofPf_no0 {s : ByteArray} (h : ¬ 1048576 < s.size) {c : Nat} (h0 : num s 0 = .error c) : ofPfE s = ((0, []), (c : Int)) := by unfold ofPfE; rw [if_neg h, h0]
theorem ofPf_num {s : ByteArray} (h : ¬ 1048576 < s.size) {n q : Nat} (h0 : num s 0 = .ok (n, q)) : ofPfE s = match seqAt s (path_ s) 2 q with
      | .error c => ((0, []), (c : Int))
      | .ok (l, p) => if p < s.size then ((0, []), 12) else if pfOk n l = true then (((n : Int), l), 0) else ((0, []), 14) := by unfold ofPfE; rw [if_neg h, h0]
theorem ofPf_no1 {s : ByteArray} (h : ¬ 1048576 < s.size) {n q c : Nat} (h0 : num s 0 = .ok (n, q)) (h1 : seqAt s (path_ s) 2 q = .error c) : ofPfE s = ((0, []), (c : Int)) := by rw [ofPf_num h h0, h1]
theorem ofPf_yes {s : ByteArray} (h : ¬ 1048576 < s.size) {n q p : Nat} {l : List Pt} (h0 : num s 0 = .ok (n, q)) (h1 : seqAt s (path_ s) 2 q = .ok (l, p)) : ofPfE s = if p < s.size then ((0, []), 12) else if pfOk n l = true then (((n : Int), l), 0) else ((0, []), 14) := by rw [ofPf_num h h0, h1]

def ptGood (x : Pt) : Prop := (0 ≤ x.index ∧ x.index ≤ 4095) ∧ x.key.size ≤ 64 ∧ x.val.size ≤ 4096 ∧ x.sides.length ≤ 13 ∧ ∀ s ∈ x.sides, s.size ≤ 32
theorem path_put {s : ByteArray} (x : Pt) (q : Nat) (hg : ptGood x) (h : At s q (putPt x)) : path_ s q = .ok (x, q + (putPt x).length) := by
  obtain ⟨i, k, v, l⟩ := x
  unfold putPt at h ⊢
  obtain ⟨⟨g0, g1⟩, g2, g3, g4, g5⟩ := hg
  simp only at g0 g1 g2 g3 g4 g5 h
  obtain ⟨a1, a2⟩ := at_append.1 h
  obtain ⟨a3, a4⟩ := at_append.1 a2
  obtain ⟨a5, a6⟩ := at_append.1 a4
  have h3 := seqAt_put (s := s) (rd := text s) (put := putText) (good := fun t => t.size ≤ 32) (l := l) (most := 13) (fun t q hg ha => text_put (by omega) ha) g4 (by decide) g5 a6
  rw [path_yes (num_put (by omega) a1) (text_put (by omega) a3) (text_put (by omega) a5) h3]
  simp only [List.length_append]
  rw [show ((i.toNat : Nat) : Int) = i by omega]
  simp [Nat.add_assoc]
theorem proof_back {count : Int} {l : List Pt} {a : ByteArray} (h : proofE count l = (a, 0)) : ofPfE a = ((count, l), 0) ∧ a.size ≤ 1048576 := by
  unfold proofE at h
  by_cases hk : pfOk count l = true
  · rw [if_pos hk] at h
    simp only [Prod.mk.injEq, and_true] at h
    obtain ⟨⟨c0, c1⟩, hl, hall⟩ := pfOk_iff hk
    have hs : a.size = (putPf count l).length := by rw [← h, bs_size]
    have ha : At a 0 (putPf count l) := by rw [← h]; exact at_self _
    unfold putPf at ha hs
    obtain ⟨a1, a2⟩ := at_append.1 ha
    have h0 := num_put (by omega) a1
    have h1 := seqAt_put (s := a) (rd := path_ a) (put := putPt) (good := ptGood) (l := l) (most := 2) path_put hl (by decide) hall a2
    have hsz : a.size ≤ 1048576 := by
      have hb : ∀ x ∈ l, (putPt x).length ≤ 5000 := fun x hx => by
        obtain ⟨⟨g0, g1⟩, g2, g3, g4, g5⟩ := hall x hx
        have b1 := putNum_len 8 x.index.toNat (by omega)
        have b2 := putNum_len 8 x.key.size (by omega)
        have b3 := putNum_len 8 x.val.size (by omega)
        have b4 := putNum_len 8 x.sides.length (by omega)
        have b5 : ∀ (m : List ByteArray), (∀ s ∈ m, s.size ≤ 32) → (m.flatMap putText).length ≤ 41 * m.length := fun m => by
          induction m with
          | nil => simp
          | cons s m ih =>
            intro hm
            have h1 := hm s (by simp)
            have h2 := ih (fun t ht => hm t (by simp [ht]))
            have h3 := putNum_len 8 s.size (by omega)
            simp only [List.flatMap_cons, List.length_append, putText_length, List.length_cons]
            omega
        have b6 := b5 x.sides g5
        unfold putPt
        simp only [List.length_append, putText_length]
        omega
      have hc : ∀ (m : List Pt), (∀ x ∈ m, (putPt x).length ≤ 5000) → (m.flatMap putPt).length ≤ 5000 * m.length := fun m => by
        induction m with
        | nil => simp
        | cons x m ih =>
          intro hm
          have h1 := hm x (by simp)
          have h2 := ih (fun t ht => hm t (by simp [ht]))
          simp only [List.flatMap_cons, List.length_append, List.length_cons]
          omega
      have h3 := hc l hb
      have h4 := putNum_len 8 count.toNat (by omega)
      have h5 := putNum_len 8 l.length (by omega)
      rw [hs]
      simp only [List.length_append]
      omega
    refine ⟨?_, hsz⟩
    rw [Nat.zero_add] at h0 h1
    rw [ofPf_yes (by omega) h0 h1]
    simp only [List.length_append] at hs ⊢
    rw [show ((count.toNat : Nat) : Int) = count by omega, if_neg (by omega), if_pos hk]
  · rw [if_neg hk] at h; simp only [Prod.mk.injEq] at h; omega
end Go.Proofs.Ytfgpchffkpomoaa
