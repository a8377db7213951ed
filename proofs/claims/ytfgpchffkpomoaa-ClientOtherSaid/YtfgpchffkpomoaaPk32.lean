/- Texts of this proof, several in one file; each says ahead of it what it proves. -/
import Derived.Test.YtfgpchffkpomoaaPk29b
import Derived.Test.YtfgpchffkpomoaaPk23
/- Checkpoints and the body that carries a proof: which bodies they are, in plain words. -/
namespace Go.Proofs.Ytfgpchffkpomoaa
set_option linter.unusedSimpArgs false
set_option linter.unusedVariables false
open Go.RowKit

def checkB (seq : Int) (root : ByteArray) : Bd := ⟨5, 0, seq, 0, 0, root, ⟨#[]⟩, []⟩
theorem check_right {seq : Int} {root : ByteArray} (hs : 1 ≤ seq ∧ seq ≤ 1073741824) (h4 : Int.tmod seq 4 = 0) (hr : root.size = 8) : rightE (checkB seq root) = 0 := by
  have h1 : root.toList.isEmpty = false := by have := has_text root; rw [decide_eq_true (by omega)] at this; simpa using this
  have hs0 : seq ≠ 0 := by omega
  have hm : (checkB seq root).mask = 18 := by
    unfold Bd.mask Bd.flags checkB
    simp [h1, hs0, maskOf]
  have ha : partA (checkB seq root) = true := by unfold partA checkB; simp; omega
  have hb : partB (checkB seq root) = true := by
    unfold partB
    rw [hm]
    unfold partBr checkB
    simp only [Bool.and_eq_true, decide_eq_true_eq]
    exact ⟨by omega, by decide, by decide, by decide +kernel, by decide +kernel, by decide⟩
  have hc : partC (checkB seq root) = true := by unfold partC checkB; rw [if_pos (by simp)]; simpa using h4
  unfold rightE
  rw [if_neg (by unfold checkB; simp), ha, hb, hc]
  rfl
theorem check_said {S : List Wd} {who seq : Int} {root : ByteArray} (hw : 0 ≤ who ∧ who ≤ 255) (hs : 1 ≤ seq ∧ seq ≤ 1073741824) (h4 : Int.tmod seq 4 = 0) (hr : root.size = 8) :
    ∃ m S', sealE S who (checkB seq root) = ((m, 0), S') ∧ Said S' who (checkB seq root) m ∧ S'.length ≤ S.length + 1 :=
  seal_said hw (small_bytes (check_right hs h4 hr) rfl (by show (0 : Nat) ≤ 1000; omega))
def showB (seq : Int) (root t : ByteArray) (l : List Sg) : Bd := ⟨13, 0, seq, 0, 0, root, t, l⟩
theorem show_right {seq : Int} {root t : ByteArray} {l : List Sg} (hs : 1 ≤ seq ∧ seq ≤ 1073741824) (h4 : Int.tmod seq 4 = 0) (hr : root.size = 8) (ht : 0 < t.size ∧ t.size ≤ 1000000) (hl : 0 < l.length ∧ l.length ≤ 64) (hf : fitAllB l = true) : rightE (showB seq root t l) = 0 := by
  have h1 : root.toList.isEmpty = false := by have := has_text root; rw [decide_eq_true (by omega)] at this; simpa using this
  have h2 : t.toList.isEmpty = false := by have := has_text t; rw [decide_eq_true (by omega)] at this; simpa using this
  have hs0 : seq ≠ 0 := by omega
  have hl0 : l ≠ [] := fun e => by rw [e] at hl; simp at hl
  have hm : (showB seq root t l).mask = 114 := by
    unfold Bd.mask Bd.flags showB
    simp [h1, h2, hs0, maskOf, hl.1, hl0]
  have ha : partA (showB seq root t l) = true := by unfold partA showB; simp; omega
  have hb : partB (showB seq root t l) = true := by
    unfold partB
    rw [hm]
    unfold partBr showB
    simp only [Bool.and_eq_true, decide_eq_true_eq]
    exact ⟨by omega, by show t.size ≤ 1048576; omega, by show l.length ≤ 64; omega, by decide +kernel, by decide +kernel, hf⟩
  have hc : partC (showB seq root t l) = true := by unfold partC showB; rw [if_pos (by simp)]; simpa using h4
  unfold rightE
  rw [if_neg (by unfold showB; simp), ha, hb, hc]
  rfl
/-- No certificate: no body. -/
theorem show_wrong {seq : Int} {root t : ByteArray} (hs : 1 ≤ seq) (hr : root.size = 8) : rightE (showB seq root t []) ≠ 0 := by
  have h1 : root.toList.isEmpty = false := by have := has_text root; rw [decide_eq_true (by omega)] at this; simpa using this
  have hs0 : (seq != 0) = true := bne_iff_ne.2 (by omega)
  have hk : (showB seq root t []).kind = 13 := rfl
  have hm : (showB seq root t []).mask = 18 ∨ (showB seq root t []).mask = 50 := by
    unfold Bd.mask Bd.flags showB
    cases h : t.toList.isEmpty
    · exact .inr (by simp [h1, hs0, maskOf, h])
    · exact .inl (by simp [h1, hs0, maskOf, h])
  have e : decide (bits .and .i64 (showB seq root t []).mask ((rules (showB seq root t []).kind).must) = (rules (showB seq root t []).kind).must) = false := by
    rw [hk]
    rcases hm with h | h <;> rw [h] <;> decide +kernel
  have hb : partB (showB seq root t []) = false := by
    unfold partB partBr
    simp [e]
  unfold rightE
  rw [if_neg (by unfold showB; simp), hb]
  simp
end Go.Proofs.Ytfgpchffkpomoaa

/- What is shown to a light client: checkpoints by the first so many, some of another number; who of them counts. In plain words. -/
namespace Go.Proofs.Ytfgpchffkpomoaa
set_option linter.unusedSimpArgs false
set_option linter.unusedVariables false
open Go.RowKit

/-- The number of a checkpoint, spoilt or not. -/
def atC (B : Nat → Bool) (seq : Int) (i : Nat) : Int := if B i = true then seq + 4 else seq
/-- The checkpoints of the first so many, and what was signed then. -/
def certsS (B : Nat → Bool) (seq : Int) (root : ByteArray) : Nat → List Sg × List Wd
  | 0 => ([], [])
  | k + 1 => ((certsS B seq root k).1 ++ [(sealE (certsS B seq root k).2 k (checkB (atC B seq k) root)).1.1], (sealE (certsS B seq root k).2 k (checkB (atC B seq k) root)).2)
def goodN (B : Nat → Bool) : Nat → Nat
  | 0 => 0
  | k + 1 => goodN B k + if B k = true then 0 else 1
theorem goodN_le (B : Nat → Bool) : ∀ k, goodN B k ≤ k
  | 0 => Nat.le_refl _
  | k + 1 => by
    have := goodN_le B k
    unfold goodN
    split <;> omega
def votedN (B : Nat → Bool) : Nat → List Int
  | 0 => []
  | k + 1 => if B k = true then votedN B k else votedN B k ++ [(k : Int)]
theorem votedN_len (B : Nat → Bool) : ∀ k, (votedN B k).length = goodN B k
  | 0 => rfl
  | k + 1 => by
    have := votedN_len B k
    unfold votedN goodN
    split <;> simp [this]
theorem votedN_lt (B : Nat → Bool) : ∀ k, ∀ x ∈ votedN B k, x < (k : Int)
  | 0 => fun x hx => by cases hx
  | k + 1 => fun x hx => by
    have ih := votedN_lt B k
    unfold votedN at hx
    split at hx
    · have := ih x hx
      omega
    · rcases List.mem_append.1 hx with h | h
      · have := ih x h
        omega
      · obtain rfl : x = (k : Int) := by simpa using h
        omega
theorem open_app {S : List Wd} {m : Sg} {b : Bd} (h : openE S m = (b, 0)) (X : List Wd) : openE (S ++ X) m = (b, 0) := by
  unfold openE at h ⊢
  by_cases hc : checkE S m.who m.body m.sig = true
  · rw [if_pos hc] at h
    rw [if_pos]
    · exact h
    · unfold checkE checkS at hc ⊢
      simp only [Bool.and_eq_true] at hc ⊢
      refine ⟨hc.1, ?_⟩
      cases hp : place (m.who, m.body) S with
      | none => rw [hp] at hc; simp at hc
      | some p =>
        rw [place_app X hp]
        rw [hp] at hc
        exact hc.2
  · rw [if_neg hc] at h
    exact absurd (Prod.mk.inj h).2 (by decide)
theorem Said.app {S : List Wd} {who : Int} {b : Bd} {m : Sg} (h : Said S who b m) (X : List Wd) : Said (S ++ X) who b m := ⟨h.who, h.fits, h.reads, open_app h.opens X⟩
theorem check_len {seq : Int} {root : ByteArray} (hs : 1 ≤ seq ∧ seq ≤ 1073741824) (hr : root.size = 8) : (bytesE (checkB seq root)).1.size ≤ 100 := by
  unfold bytesE
  split
  · split
    · simp [ByteArray.size]
    · rw [bs_size, putBody_eq]
      have n1 := putNum_len 8 (5 : Int).toNat (by decide)
      have n2 := putNum_len 8 (0 : Int).toNat (by decide)
      unfold checkB
      simp only [List.length_append, putText_length, List.flatMap_nil, List.length_nil, hr, Nat.add_zero]
      have n3 := putNum_len 8 seq.toNat (by omega)
      have n4 := putNum_len 8 8 (by omega)
      have n5 := putNum_len 8 0 (by omega)
      have e0 : (⟨#[]⟩ : ByteArray).size = 0 := rfl
      rw [e0]
      omega
  · simp [ByteArray.size]
theorem sealE_ext (S : List Wd) (who : Int) (b : Bd) : ∃ X, (sealE S who b).2 = S ++ X ∧ X.length ≤ 1 := by
  unfold sealE
  by_cases hb : (bytesE b).2 = 0
  · rw [if_pos hb]
    simp only
    unfold signE
    by_cases hw : 0 ≤ who ∧ who ≤ 255
    · rw [if_pos hw]
      simp only
      unfold signS
      cases place (who, (bytesE b).1) S with
      | some i => exact ⟨[], by simp, by simp⟩
      | none => exact ⟨[(who, (bytesE b).1)], rfl, by simp⟩
    · rw [if_neg hw]
      exact ⟨[], by simp, by simp⟩
  · rw [if_neg hb]
    exact ⟨[], by simp, by simp⟩
/-- A checkpoint is sealed. -/
theorem check_seal {S : List Wd} {who seq : Int} {root : ByteArray} (hw : 0 ≤ who ∧ who ≤ 255) (hs : 1 ≤ seq ∧ seq ≤ 1073741824) (h4 : Int.tmod seq 4 = 0) (hr : root.size = 8) :
    ∃ m X, sealE S who (checkB seq root) = ((m, 0), S ++ X) ∧ X.length ≤ 1 ∧ Said (S ++ X) who (checkB seq root) m ∧ m.body.size ≤ 100 := by
  obtain ⟨p, h1, h2⟩ := sealE_ok (S := S) hw (small_bytes (check_right hs h4 hr) rfl (by show (0 : Nat) ≤ 1000; omega))
  obtain ⟨m, S', h3, h4, h5⟩ := check_said (S := S) hw hs h4 hr
  obtain ⟨X, h6, h7⟩ := sealE_ext S who (checkB seq root)
  rw [h3] at h6
  simp only at h6
  subst h6
  refine ⟨m, X, h3, h7, h4, ?_⟩
  rw [h3] at h1
  rw [(Prod.mk.inj (Prod.mk.inj h1).1).1]
  exact check_len hs hr
theorem atC_ok {B : Nat → Bool} {seq : Int} (hs : 4 ≤ seq ∧ seq ≤ 1000000) (h4 : Int.tmod seq 4 = 0) (i : Nat) : (1 ≤ atC B seq i ∧ atC B seq i ≤ 1073741824) ∧ Int.tmod (atC B seq i) 4 = 0 := by
  rw [Int.tmod_eq_emod_of_nonneg (by omega)] at h4
  unfold atC
  split
  · rw [Int.tmod_eq_emod_of_nonneg (by omega)]; omega
  · rw [Int.tmod_eq_emod_of_nonneg (by omega)]; omega
theorem certs_len (B : Nat → Bool) (seq : Int) (root : ByteArray) : ∀ k, (certsS B seq root k).1.length = k ∧ (certsS B seq root k).2.length ≤ k
  | 0 => ⟨rfl, Nat.le_refl _⟩
  | k + 1 => by
    obtain ⟨h1, h2⟩ := certs_len B seq root k
    obtain ⟨X, h6, h7⟩ := sealE_ext (certsS B seq root k).2 k (checkB (atC B seq k) root)
    simp only [certsS]
    rw [h6]
    simp only [List.length_append, List.length_cons, List.length_nil]
    omega
/-- The next checkpoint. -/
theorem certs_next {B : Nat → Bool} {seq : Int} {root : ByteArray} {k : Nat} (hk : k ≤ 255) (hs : 4 ≤ seq ∧ seq ≤ 1000000) (h4 : Int.tmod seq 4 = 0) (hr : root.size = 8) :
    ∃ m X, sealE (certsS B seq root k).2 k (checkB (atC B seq k) root) = ((m, 0), (certsS B seq root k).2 ++ X) ∧ Said ((certsS B seq root k).2 ++ X) k (checkB (atC B seq k) root) m ∧ m.body.size ≤ 100 ∧ certsS B seq root (k + 1) = ((certsS B seq root k).1 ++ [m], (certsS B seq root k).2 ++ X) := by
  obtain ⟨a1, a2⟩ := atC_ok (B := B) hs h4 k
  obtain ⟨m, X, h1, h2, h3, h5⟩ := check_seal (S := (certsS B seq root k).2) (who := k) (by omega) a1 a2 hr
  refine ⟨m, X, h1, h3, h5, ?_⟩
  show ((certsS B seq root k).1 ++ [(sealE (certsS B seq root k).2 k (checkB (atC B seq k) root)).1.1], (sealE (certsS B seq root k).2 k (checkB (atC B seq k) root)).2) = _
  rw [h1]
theorem certs_small {B : Nat → Bool} {seq : Int} {root : ByteArray} (hs : 4 ≤ seq ∧ seq ≤ 1000000) (h4 : Int.tmod seq 4 = 0) (hr : root.size = 8) : ∀ k, k ≤ 256 → ∀ m ∈ (certsS B seq root k).1, fitsB m = true ∧ m.body.size ≤ 100
  | 0, _ => fun m hm => by cases hm
  | k + 1, hk => fun m hm => by
    obtain ⟨m', X, h1, h2, h3, h5⟩ := certs_next (B := B) (seq := seq) (root := root) (k := k) (by omega) hs h4 hr
    rw [h5] at hm
    rcases List.mem_append.1 hm with h | h
    · exact certs_small hs h4 hr k (by omega) m h
    · obtain rfl : m = m' := by simpa using h
      exact ⟨h2.fits, h3⟩
/-- Who of them counts. -/
theorem certs_voters {B : Nat → Bool} {seq : Int} {root : ByteArray} {below : Int} (hs : 4 ≤ seq ∧ seq ≤ 1000000) (h4 : Int.tmod seq 4 = 0) (hr : root.size = 8) : ∀ k : Nat, k ≤ 256 → (k : Int) ≤ below → ∀ X, votersS ((certsS B seq root k).2 ++ X) 5 0 seq root below (certsS B seq root k).1 [] = votedN B k
  | 0, _, _ => fun X => rfl
  | k + 1, hk, hb => fun X => by
    obtain ⟨m, Y, h1, h2, h3, h5⟩ := certs_next (B := B) (seq := seq) (root := root) (k := k) (by omega) hs h4 hr
    have ih := certs_voters (B := B) (below := below) hs h4 hr k (by omega) (by omega) (Y ++ X)
    rw [h5]
    simp only
    rw [votersS_append, List.append_assoc, ih]
    have hm := (h2.app X).opens
    rw [List.append_assoc] at hm
    have hn : (k : Int) ∉ votedN B k := fun h => by
      have := votedN_lt B k _ h
      omega
    have hv : voteB ((certsS B seq root k).2 ++ (Y ++ X)) 5 0 seq root m = !B k := by
      unfold voteB
      rw [hm]
      unfold checkB atC
      cases hB : B k
      · simp
      · simp
        omega
    show (if (0 ≤ m.who ∧ m.who < below) ∧ m.who ∉ votedN B k ∧ voteB ((certsS B seq root k).2 ++ (Y ++ X)) 5 0 seq root m = true then votedN B k ++ [m.who] else votedN B k) = votedN B (k + 1)
    rw [h2.who, hv, show votedN B (k + 1) = if B k = true then votedN B k else votedN B k ++ [(k : Int)] from rfl]
    cases hB : B k
    · rw [if_pos ⟨by omega, hn, by simp⟩, if_neg (by simp)]
    · rw [if_neg (by simp), if_pos rfl]
theorem txs_len : ∀ (l : List ByteArray), (∀ s ∈ l, s.size ≤ 32) → (l.flatMap putText).length ≤ 41 * l.length
  | [], _ => by simp
  | s :: l, h => by
    have h1 := h s (by simp)
    have h2 := txs_len l (fun x hx => h x (by simp [hx]))
    have h3 := putNum_len 8 s.size (by omega)
    simp only [List.flatMap_cons, List.length_append, putText_length, List.length_cons]
    omega
theorem putPt_most {x : Pt} (h : ptOk x = true) : (putPt x).length ≤ 5000 := by
  unfold ptOk at h
  simp only [Bool.and_eq_true, decide_eq_true_eq, List.all_eq_true] at h
  obtain ⟨h1, h2, h3, h4, h5⟩ := h
  have t1 := txs_len x.sides h5
  have n1 := putNum_len 8 x.index.toNat (by omega)
  have n2 := putNum_len 8 x.key.size (by omega)
  have n3 := putNum_len 8 x.val.size (by omega)
  have n4 := putNum_len 8 x.sides.length (by omega)
  unfold putPt
  simp only [List.length_append, putText_length]
  omega
theorem pts_most : ∀ (l : List Pt), (∀ x ∈ l, ptOk x = true) → (l.flatMap putPt).length ≤ 5000 * l.length
  | [], _ => by simp
  | x :: l, h => by
    have h1 := putPt_most (h x (by simp))
    have h2 := pts_most l (fun x hx => h x (by simp [hx]))
    simp only [List.flatMap_cons, List.length_append, List.length_cons]
    omega
theorem putPf_most {count : Int} {l : List Pt} (h : pfOk count l = true) : 0 < (putPf count l).length ∧ (putPf count l).length ≤ 20000 := by
  unfold pfOk at h
  simp only [Bool.and_eq_true, decide_eq_true_eq, List.all_eq_true] at h
  obtain ⟨h1, h2, h3⟩ := h
  have t1 := pts_most l h3
  have n1 := putNum_len 8 count.toNat (by omega)
  have n2 := putNum_len 8 l.length (by omega)
  have n3 := putNum_pos count.toNat
  unfold putPf
  simp only [List.length_append]
  omega
/-- What is shown has bytes. -/
theorem sgs_most : ∀ (l : List Sg), (∀ m ∈ l, fitsB m = true ∧ m.body.size ≤ 100) → (l.flatMap putSg).length ≤ 159 * l.length
  | [], _ => by simp
  | m :: l, h => by
    obtain ⟨h1, h2⟩ := h m (by simp)
    have h3 := putSg_len h1
    have h4 := sgs_most l (fun x hx => h x (by simp [hx]))
    simp only [List.flatMap_cons, List.length_append, List.length_cons]
    omega
theorem show_bytes {seq : Int} {root t : ByteArray} {l : List Sg} (hs : 1 ≤ seq ∧ seq ≤ 1000000) (h4 : Int.tmod seq 4 = 0) (hr : root.size = 8) (ht : 0 < t.size ∧ t.size ≤ 100000) (hl : 0 < l.length ∧ l.length ≤ 64) (hf : ∀ m ∈ l, fitsB m = true ∧ m.body.size ≤ 100) : (bytesE (showB seq root t l)).2 = 0 := by
  unfold bytesE
  rw [if_pos (show_right (by omega) h4 hr (by omega) hl (by unfold fitAllB; exact List.all_eq_true.2 fun m hm => (hf m hm).1)), if_neg]
  have n1 := putNum_len 8 (13 : Int).toNat (by decide)
  have n2 := putNum_len 8 (0 : Int).toNat (by decide)
  have n3 := putNum_len 8 seq.toNat (by omega)
  have n4 := putNum_len 8 8 (by omega)
  have n5 := putNum_len 8 t.size (by omega)
  have n6 := putNum_len 8 l.length (by omega)
  have n7 := sgs_most l hf
  rw [putBody_eq]
  unfold showB
  simp only [List.length_append, putText_length, hr]
  omega
/-- What comes of showing. -/
structure ShownOk (S : List Wd) (F : Nat) (seq : Int) (root t : ByteArray) (l : List Sg) (good : Nat) (m : Sg) : Prop where
  reads : ofSg (bs (putSg m)) = (m, 0)
  fits : fitsB m = true
  opens : openE S m = (showB seq root t l, 0)
  voters : (votersS S 5 0 seq root (3 * F + 1) l []).length = good
theorem shown_ok {B : Nat → Bool} {F K : Nat} {seq : Int} {root t : ByteArray} (hF : F ≤ 4) (hK : 0 < K ∧ K ≤ 3 * F + 1) (hs : 4 ≤ seq ∧ seq ≤ 1000000) (h4 : Int.tmod seq 4 = 0) (hr : root.size = 8) (ht : 0 < t.size ∧ t.size ≤ 100000) :
    ∃ m X, sealE (certsS B seq root K).2 0 (showB seq root t (certsS B seq root K).1) = ((m, 0), (certsS B seq root K).2 ++ X) ∧ X.length ≤ 1 ∧ ShownOk ((certsS B seq root K).2 ++ X) F seq root t (certsS B seq root K).1 (goodN B K) m := by
  have hsm := certs_small (B := B) hs h4 hr K (by omega)
  have hlen := (certs_len B seq root K).1
  obtain ⟨m, S', h1, h2, h3⟩ := seal_said (S := (certsS B seq root K).2) (who := 0) (by decide) (show_bytes (t := t) (by omega) h4 hr ht (by omega) hsm)
  obtain ⟨X, h6, h7⟩ := sealE_ext (certsS B seq root K).2 0 (showB seq root t (certsS B seq root K).1)
  rw [h1] at h6
  simp only at h6
  subst h6
  refine ⟨m, X, h1, h7, h2.reads, h2.fits, h2.opens, ?_⟩
  rw [certs_voters hs h4 hr K (by omega) (by omega) X, votedN_len]
/-- Whatever comes of it. -/
theorem shown_seal {B : Nat → Bool} {F K : Nat} {seq : Int} {root t : ByteArray} (hF : F ≤ 4) (hK : K ≤ 3 * F + 1) (hs : 4 ≤ seq ∧ seq ≤ 1000000) (h4 : Int.tmod seq 4 = 0) (hr : root.size = 8) (ht : 0 < t.size ∧ t.size ≤ 100000) :
    ∃ m e S', sealE (certsS B seq root K).2 0 (showB seq root t (certsS B seq root K).1) = ((m, e), S') ∧ S'.length ≤ K + 1 ∧ fitsB m = true ∧ (e = 0 → ShownOk S' F seq root t (certsS B seq root K).1 (goodN B K) m) := by
  have hcl := (certs_len B seq root K).2
  rcases Nat.eq_zero_or_pos K with h0 | h0
  · subst h0
    have h := show_wrong (t := t) (by omega : 1 ≤ seq) hr
    have hb : (bytesE (showB seq root t [])).2 ≠ 0 := by
      unfold bytesE
      rw [if_neg h]
      exact h
    refine ⟨zeroSg, (bytesE (showB seq root t [])).2, [], ?_, by simp, by decide, fun e => absurd e hb⟩
    show sealE [] 0 (showB seq root t []) = _
    unfold sealE
    rw [if_neg hb]
  · obtain ⟨m, X, h1, h2, h3⟩ := shown_ok (B := B) hF ⟨h0, hK⟩ hs h4 hr ht
    exact ⟨m, 0, _, h1, by simp; omega, h3.fits, fun _ => h3⟩
end Go.Proofs.Ytfgpchffkpomoaa
