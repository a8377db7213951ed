/- A book that numbers: the walks through NewBook, Digest, Sign, Check, Issued. -/
import Derived.Test.YtfgpchffkpomoaaTable
namespace Go.Proofs.Ytfgpchffkpomoaa
set_option linter.unusedSimpArgs false
set_option linter.unusedVariables false
open Go.RowKit

set_option maxRecDepth 100000 in
theorem named_calls (who : Int) (w : World) : Calls Try.prog 117 #[.int .i64 who] w fun e w' => e = .returned (.bool (decide (0 ≤ who ∧ who ≤ 255))) ∧ w = w' := by
  by_cases h0 : 0 ≤ who
  · by_cases h1 : who ≤ 255
    all_goals
      go_enter Try.func117, Try.ntmps117
      go_wp2
      go_ret
      exact ⟨by simp [h0, h1], rfl⟩
  · go_enter Try.func117, Try.ntmps117
    go_wp2
    go_ret
    exact ⟨ret_bool (by simp; omega), rfl⟩

set_option maxRecDepth 100000 in
theorem made_calls (b t m n : Nat) (T : List ByteArray) (S : List Wd) (w : World) (hb : Bk w b t m n T S) :
    Calls Try.prog 110 #[.pointer (some ⟨b, 0, none⟩)] w fun e w' => e = .returned (.bool true) ∧ w = w' := by
  have k1 := hb.book
  go_enter Try.func110, Try.ntmps110
  go_wp2
  go_ret
  exact ⟨rfl, rfl⟩

set_option maxRecDepth 100000 in
theorem digest_calls (b t m n : Nat) (T : List ByteArray) (S : List Wd) (s : ByteArray) (w : World) (hb : Bk w b t m n T S) (hT : T.length ≤ 1000000000) (hs : s.size ≤ maxLen) :
    Calls Try.prog 49 #[.pointer (some ⟨b, 0, none⟩), .string s] w (TextPost (digS T s).1 (· = m) (fun w' => Bk w' b t m n (digS T s).2 S) w) := by
  have HM := Lib.hid (fun w hb => made_calls b t m n T S w hb)
  have HD := Lib.hid (tdigest_calls b t m n T S s w hb hT hs)
  have HBK := Lib.hid hb
  have k1 := hb.book
  clear hb
  go_enter Try.func49, Try.ntmps49
  go_wp2_with fail
  refine (HM.out _ HBK.out).mono ?_
  rintro e w1 ⟨rfl, rfl⟩
  go_wp2_with fail
  refine HD.out.mono ?_
  rintro e w2 ⟨rfl, hc, hb⟩
  have HC := Lib.hid hc
  have HB2 := Lib.hid hb
  clear hc hb
  go_wp2
  go_ret
  exact ⟨rfl, HC.out, HB2.out⟩

/-- What signing by somebody answers. -/
def signE (S : List Wd) (who : Int) (s : ByteArray) : (ByteArray × Int) × List Wd := if 0 ≤ who ∧ who ≤ 255 then (((signS S (who, s)).1, 0), (signS S (who, s)).2) else ((⟨#[]⟩, 1), S)
def SignsPost (r : ByteArray × Int) (n : Nat) (Q : World → Prop) (w : World) (e : Ending) (w' : World) : Prop := e = .returned (.tuple #[.string r.1, .int .i64 r.2]) ∧ Ch w.heap.size (· = n) w w' ∧ Q w'

set_option maxRecDepth 100000 in
theorem sign_calls (b t m n : Nat) (T : List ByteArray) (S : List Wd) (who : Int) (s : ByteArray) (w : World) (hb : Bk w b t m n T S) (hS : S.length ≤ 1000000000) (hs : s.size ≤ maxLen) :
    Calls Try.prog 56 #[.pointer (some ⟨b, 0, none⟩), .int .i64 who, .string s] w (SignsPost (signE S who s).1 n (fun w' => Bk w' b t m n T (signE S who s).2) w) := by
  have HM := Lib.hid (fun w hb => made_calls b t m n T S w hb)
  have HBK := Lib.hid hb
  have k1 := hb.book
  by_cases h : 0 ≤ who ∧ who ≤ 255
  · have HD := Lib.hid (tsign_calls b t m n T S who s w hb hS h.1 h.2 hs)
    have HE := Lib.hid (show signE S who s = (((signS S (who, s)).1, 0), (signS S (who, s)).2) by unfold signE; rw [if_pos h])
    have hd : decide (0 ≤ who ∧ who ≤ 255) = true := decide_eq_true h
    have HN := Lib.hid (fun w => named_calls who w)
    rw [hd] at HN
    clear hb hd h
    go_enter Try.func56, Try.ntmps56
    go_wp2_with fail
    refine (HM.out _ HBK.out).mono ?_
    rintro e w1 ⟨rfl, rfl⟩
    go_wp2_with fail
    refine (HN.out _).mono ?_
    rintro e w1 ⟨rfl, rfl⟩
    go_wp2_with fail
    refine HD.out.mono ?_
    rintro e w2 ⟨rfl, hc, hb⟩
    have HC := Lib.hid hc
    have HB2 := Lib.hid hb
    clear hc hb
    go_wp2
    go_ret2
    unfold SignsPost
    rw [HE.out]
    exact ⟨rfl, HC.out, HB2.out⟩
  · have HE := Lib.hid (show signE S who s = ((⟨#[]⟩, 1), S) by unfold signE; rw [if_neg h])
    have hd : decide (0 ≤ who ∧ who ≤ 255) = false := decide_eq_false h
    have HN := Lib.hid (fun w => named_calls who w)
    rw [hd] at HN
    clear hb hd h
    go_enter Try.func56, Try.ntmps56
    go_wp2_with fail
    refine (HM.out _ HBK.out).mono ?_
    rintro e w1 ⟨rfl, rfl⟩
    go_wp2_with fail
    refine (HN.out _).mono ?_
    rintro e w1 ⟨rfl, rfl⟩
    go_wp2
    go_ret2
    unfold SignsPost
    rw [HE.out]
    exact ⟨rfl, Ch.refl _ _ _, HBK.out⟩

/-- Is it somebody's signature of a text? -/
def checkE (S : List Wd) (who : Int) (s sig : ByteArray) : Bool := decide (0 ≤ who ∧ who ≤ 255) && checkS S (who, s) sig
set_option maxRecDepth 100000 in
theorem check_calls (b t m n : Nat) (T : List ByteArray) (S : List Wd) (who : Int) (s sig : ByteArray) (w : World) (hb : Bk w b t m n T S) (hS : S.length ≤ 1000000000) (hs : s.size ≤ maxLen) :
    Calls Try.prog 61 #[.pointer (some ⟨b, 0, none⟩), .int .i64 who, .string s, .string sig] w (BoolPost (checkE S who s sig) w) := by
  have HM := Lib.hid (fun w hb => made_calls b t m n T S w hb)
  have HBK := Lib.hid hb
  have k1 := hb.book
  by_cases h : 0 ≤ who ∧ who ≤ 255
  · have HD := Lib.hid (tcheck_calls b t m n T S who s sig w hb hS h.1 h.2 hs)
    have HE := Lib.hid (show checkE S who s sig = checkS S (who, s) sig by unfold checkE; rw [decide_eq_true h]; rfl)
    obtain ⟨r, hr⟩ : ∃ r, r = checkS S (who, s) sig := ⟨_, rfl⟩
    rw [← hr] at HD HE
    have hd : decide (0 ≤ who ∧ who ≤ 255) = true := decide_eq_true h
    have HN := Lib.hid (fun w => named_calls who w)
    rw [hd] at HN
    clear hb hd h hr
    go_enter Try.func61, Try.ntmps61
    go_wp2_with fail
    refine (HM.out _ HBK.out).mono ?_
    rintro e w1 ⟨rfl, rfl⟩
    go_wp2_with fail
    refine (HN.out _).mono ?_
    rintro e w1 ⟨rfl, rfl⟩
    go_wp2_with fail
    refine HD.out.mono ?_
    rintro e w2 ⟨rfl, hb⟩
    have HB2 := Lib.hid hb
    clear hb
    go_wp2
    go_ret
    exact ⟨ret_bool HE.out.symm, HB2.out⟩
  · have hd : decide (0 ≤ who ∧ who ≤ 255) = false := decide_eq_false h
    have HE := Lib.hid (show checkE S who s sig = false by unfold checkE; rw [hd]; rfl)
    have HN := Lib.hid (fun w => named_calls who w)
    rw [hd] at HN
    clear hb hd h
    go_enter Try.func61, Try.ntmps61
    go_wp2_with fail
    refine (HM.out _ HBK.out).mono ?_
    rintro e w1 ⟨rfl, rfl⟩
    go_wp2_with fail
    refine (HN.out _).mono ?_
    rintro e w1 ⟨rfl, rfl⟩
    go_wp2
    go_ret
    exact ⟨ret_bool HE.out.symm, Below.refl _ _⟩

def issuedE (S : List Wd) (who : Int) (s : ByteArray) : Bool := decide (0 ≤ who ∧ who ≤ 255) && (place (who, s) S).isSome
set_option maxRecDepth 100000 in
theorem issued_calls (b t m n : Nat) (T : List ByteArray) (S : List Wd) (who : Int) (s : ByteArray) (w : World) (hb : Bk w b t m n T S) (hs : s.size ≤ maxLen) :
    Calls Try.prog 62 #[.pointer (some ⟨b, 0, none⟩), .int .i64 who, .string s] w (BoolPost (issuedE S who s) w) := by
  have HM := Lib.hid (fun w hb => made_calls b t m n T S w hb)
  have HBK := Lib.hid hb
  have k1 := hb.book
  by_cases h : 0 ≤ who ∧ who ≤ 255
  · have HD := Lib.hid (tissued_calls b t m n T S who s w hb h.1 h.2 hs)
    have HE := Lib.hid (show issuedE S who s = (place (who, s) S).isSome by unfold issuedE; rw [decide_eq_true h]; rfl)
    obtain ⟨r, hr⟩ : ∃ r, r = (place (who, s) S).isSome := ⟨_, rfl⟩
    rw [← hr] at HD HE
    have hd : decide (0 ≤ who ∧ who ≤ 255) = true := decide_eq_true h
    have HN := Lib.hid (fun w => named_calls who w)
    rw [hd] at HN
    clear hb hd h hr
    go_enter Try.func62, Try.ntmps62
    go_wp2_with fail
    refine (HM.out _ HBK.out).mono ?_
    rintro e w1 ⟨rfl, rfl⟩
    go_wp2_with fail
    refine (HN.out _).mono ?_
    rintro e w1 ⟨rfl, rfl⟩
    go_wp2_with fail
    refine HD.out.mono ?_
    rintro e w2 ⟨rfl, hb⟩
    have HB2 := Lib.hid hb
    clear hb
    go_wp2
    go_ret
    exact ⟨ret_bool HE.out.symm, HB2.out⟩
  · have hd : decide (0 ≤ who ∧ who ≤ 255) = false := decide_eq_false h
    have HE := Lib.hid (show issuedE S who s = false by unfold issuedE; rw [hd]; rfl)
    have HN := Lib.hid (fun w => named_calls who w)
    rw [hd] at HN
    clear hb hd h
    go_enter Try.func62, Try.ntmps62
    go_wp2_with fail
    refine (HM.out _ HBK.out).mono ?_
    rintro e w1 ⟨rfl, rfl⟩
    go_wp2_with fail
    refine (HN.out _).mono ?_
    rintro e w1 ⟨rfl, rfl⟩
    go_wp2
    go_ret
    exact ⟨ret_bool HE.out.symm, Below.refl _ _⟩

/-- A new book: its blocks are new. -/
def NewPost (w : World) (e : Ending) (w' : World) : Prop := ∃ b t m n, e = .returned (.pointer (some ⟨b, 0, none⟩)) ∧ Below w.heap.size w w' ∧ Bk w' b t m n [] [] ∧ w.heap.size ≤ b ∧ w.heap.size ≤ t ∧ w.heap.size ≤ m ∧ w.heap.size ≤ n
set_option maxRecDepth 100000 in
theorem newBook_calls (w : World) : Calls Try.prog 34 #[] w (NewPost w) := by
  have hmm := @run_makeMap Try.prog
  go_enter Try.func34, Try.ntmps34
  go_wp2
  go_ret
  have h1 := Box.new (((w.alloc (.map #[] 0)).alloc (.map #[] 0)).alloc (.cells #[.map (some w.heap.size), .map (some (w.heap.size + 1))] 171)) #[.iface 167 (.pointer (some ⟨w.heap.size + 1 + 1, 0, none⟩))] 97
  have h2 := (Box.new ((w.alloc (.map #[] 0)).alloc (.map #[] 0)) #[.map (some w.heap.size), .map (some (w.heap.size + 1))] 171).alloc (.cells #[.iface 167 (.pointer (some ⟨w.heap.size + 1 + 1, 0, none⟩))] 97)
  simp only [World.size_alloc] at h1 h2
  refine ⟨w.heap.size + 1 + 1 + 1, w.heap.size + 1 + 1, w.heap.size, w.heap.size + 1, rfl, ?_, ⟨h1.cell 0, h2.cell 0, h2.cell 1, ?_, ?_, by simp only [World.size_alloc]; omega, by omega⟩, by omega, by omega, by omega, by omega⟩
  · exact ((((Below.refl _ _).alloc (Nat.le_refl _) _).alloc (by simp) _).alloc (by simp; omega) _).alloc (by simp; omega) _
  · exact (((MapIs.new w 9).alloc _).alloc _).alloc _
  · have h := ((MapIs.new (w.alloc (.map #[] 0)) 281).alloc (.cells #[.map (some w.heap.size), .map (some (w.heap.size + 1))] 171)).alloc (.cells #[.iface 167 (.pointer (some ⟨w.heap.size + 1 + 1, 0, none⟩))] 97)
    simp only [World.size_alloc] at h
    exact h
end Go.Proofs.Ytfgpchffkpomoaa
