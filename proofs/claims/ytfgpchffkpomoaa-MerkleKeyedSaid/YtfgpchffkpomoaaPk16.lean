/- Texts of this proof, several in one file; each says ahead of it what it proves. -/
import Derived.Test.YtfgpchffkpomoaaPk15
import Derived.Test.YtfgpchffkpomoaaPk04
import Derived.Test.YtfgpchffkpomoaaPk08
/- Leaves, nodes and roots of a tree of digests: the walks. -/
namespace Go.Proofs.Ytfgpchffkpomoaa
set_option linter.unusedSimpArgs false
set_option linter.unusedVariables false
open Go.RowKit

def txt (s : ByteArray) : ByteArray := (putTextE s).1
set_option maxRecDepth 100000 in
theorem mtext_calls (s : ByteArray) (w : World) (hs : s.size ≤ maxLen) : Calls Try.prog 152 #[.string s] w fun e w' => e = .returned (.string (txt s)) ∧ Below w.heap.size w w' := by
  have HP := Lib.hid (putText_calls s w hs)
  unfold StrErr at HP
  obtain ⟨⟨a, x⟩, hr⟩ : ∃ r, putTextE s = r := ⟨_, rfl⟩
  have HT := Lib.hid (show txt s = a by unfold txt; rw [hr])
  rw [hr] at HP
  clear hr
  go_enter Try.func152, Try.ntmps152
  go_wp2_with fail
  refine HP.out.mono ?_
  rintro e w1 ⟨rfl, hb⟩
  go_wp2
  go_ret
  exact ⟨by rw [HT.out]; rfl, hb⟩
theorem txt_size (s : ByteArray) : (txt s).size ≤ 1048585 := by
  unfold txt putTextE
  split
  · rename_i h
    rw [bs_size, putText_length]
    have := putNum_len 8 s.size (by omega)
    omega
  · simp [ByteArray.size]
def nodeT (l r : ByteArray) : ByteArray := ⟨#[78]⟩ ++ txt l ++ txt r
def rootT (n : Int) (l : ByteArray) : ByteArray := ⟨#[82]⟩ ++ (putInt n).1 ++ txt l
def leafT (x : Rc) : ByteArray := ⟨#[76]⟩ ++ txt x.key ++ txt x.val

theorem one78 : (⟨#[78]⟩ : ByteArray).size = 1 := rfl

set_option maxHeartbeats 1000000 in
set_option maxRecDepth 100000 in
theorem node_calls (b t m n : Nat) (T : List ByteArray) (S : List Wd) (l r : ByteArray) (w : World) (hb : Bk w b t m n T S) (hT : T.length ≤ 1000000000) (hl : l.size ≤ maxLen) (hr : r.size ≤ maxLen) :
    Calls Try.prog 154 #[.pointer (some ⟨b, 0, none⟩), .string l, .string r] w (TextPost (digS T (nodeT l r)).1 (· = m) (fun w' => Bk w' b t m n (digS T (nodeT l r)).2 S) w) := by
  have H1 := Lib.hid (fun w => mtext_calls l w hl)
  have H2 := Lib.hid (fun w => mtext_calls r w hr)
  have s1 := txt_size l
  have s2 := txt_size r
  have HN := Lib.hid (show nodeT l r = ⟨#[78]⟩ ++ txt l ++ txt r from rfl)
  obtain ⟨x, hx⟩ : ∃ x, x = txt l := ⟨_, rfl⟩
  obtain ⟨y, hy⟩ : ∃ y, y = txt r := ⟨_, rfl⟩
  rw [← hx] at H1 HN s1
  rw [← hy] at H2 HN s2
  clear hx hy hl hr
  have HD := Lib.hid (fun w hb => digest_calls b t m n T S (⟨#[78]⟩ ++ x ++ y) w hb hT (by simp only [maxLen, ByteArray.size_append, one78]; omega))
  rw [← HN.out] at HD
  have HB := Lib.hid hb
  clear hb
  go_enter Try.func154, Try.ntmps154
  go_wp2_with fail
  refine (H1.out _).mono ?_
  rintro e w1 ⟨rfl, hb1⟩
  go_wp2_with fail
  refine (H2.out _).mono ?_
  rintro e w2 ⟨rfl, hb2⟩
  go_wp2_with fail
  rw [← HN.out]
  refine (HD.out _ ((HB.out.below hb1).below hb2)).mono ?_
  rintro e w3 ⟨rfl, hc3, hk3⟩
  go_wp2
  go_ret
  exact ⟨rfl, (Ch.of_below (hb1.trans (hb2.mono hb1.size))).step hc3 (by have := hb1.size; have := hb2.size; omega) (fun _ _ e => e), hk3⟩
theorem one82 : (⟨#[82]⟩ : ByteArray).size = 1 := rfl
set_option maxHeartbeats 1000000 in
set_option maxRecDepth 100000 in
theorem mroot_calls (b t m n : Nat) (T : List ByteArray) (S : List Wd) (k : Nat) (r : ByteArray) (w : World) (hb : Bk w b t m n T S) (hT : T.length ≤ 1000000000) (hk : k ≤ 1000000) (hr : r.size ≤ maxLen) :
    Calls Try.prog 98 #[.pointer (some ⟨b, 0, none⟩), .int .i64 k, .string r] w (TextPost (digS T (rootT k r)).1 (· = m) (fun w' => Bk w' b t m n (digS T (rootT k r)).2 S) w) := by
  have H1 := Lib.hid (fun w => putInt_calls (k : Int) w)
  unfold StrErr at H1
  have H2 := Lib.hid (fun w => mtext_calls r w hr)
  have s1 : (putInt (k : Int)).1.size ≤ 1000 := by
    unfold putInt
    split
    · rw [bs_size]
      have := putNum_len 8 (Int.toNat (k : Int)) (by omega)
      omega
    · simp [ByteArray.size]
  have s2 := txt_size r
  have HN := Lib.hid (show rootT k r = ⟨#[82]⟩ ++ (putInt (k : Int)).1 ++ txt r from rfl)
  obtain ⟨⟨x, xe⟩, hx⟩ : ∃ x, x = putInt (k : Int) := ⟨_, rfl⟩
  obtain ⟨y, hy⟩ : ∃ y, y = txt r := ⟨_, rfl⟩
  rw [← hx] at H1 HN s1
  rw [← hy] at H2 HN s2
  simp only at H1 HN s1
  clear hx hy hr
  have HD := Lib.hid (fun w hb => digest_calls b t m n T S (⟨#[82]⟩ ++ x ++ y) w hb hT (by simp only [maxLen, ByteArray.size_append, one82]; omega))
  rw [← HN.out] at HD
  have HB := Lib.hid hb
  clear hb
  go_enter Try.func98, Try.ntmps98
  go_wp2_with fail
  refine (H1.out _).mono ?_
  rintro e w1 ⟨rfl, hb1⟩
  go_wp2_with fail
  refine (H2.out _).mono ?_
  rintro e w2 ⟨rfl, hb2⟩
  go_wp2_with fail
  rw [← HN.out]
  refine (HD.out _ ((HB.out.below hb1).below hb2)).mono ?_
  rintro e w3 ⟨rfl, hc3, hk3⟩
  go_wp2
  go_ret
  exact ⟨rfl, (Ch.of_below (hb1.trans (hb2.mono hb1.size))).step hc3 (by have := hb1.size; have := hb2.size; omega) (fun _ _ e => e), hk3⟩

set_option maxRecDepth 100000 in
theorem known_calls (b t m n : Nat) (T : List ByteArray) (S : List Wd) (w : World) (hb : Bk w b t m n T S) (hT : T.length ≤ 1000000000) :
    Calls Try.prog 96 #[.pointer (some ⟨b, 0, none⟩)] w fun e w' => e = .returned (.bool true) ∧ Ch w.heap.size (· = m) w w' ∧ Bk w' b t m n (digS T ⟨#[]⟩).2 S := by
  have HD := Lib.hid (digest_calls b t m n T S ⟨#[]⟩ w hb hT (by simp [ByteArray.size, maxLen]))
  have hsz := hh_size T ⟨#[]⟩
  unfold hh at hsz
  obtain ⟨⟨g, T1⟩, hg⟩ : ∃ q, q = digS T ⟨#[]⟩ := ⟨_, rfl⟩
  rw [← hg] at HD hsz ⊢
  simp only at HD hsz
  have hne : g.toList.isEmpty = false := by have := has_text g; rw [decide_eq_true (by omega)] at this; simpa using this
  clear hg hb
  go_enter Try.func96, Try.ntmps96
  go_wp2_with fail
  refine HD.out.mono ?_
  rintro e w1 ⟨rfl, hc, hk⟩
  go_wp2
  go_ret
  exact ⟨rfl, hc, hk⟩

theorem one76 : (⟨#[76]⟩ : ByteArray).size = 1 := rfl
set_option maxHeartbeats 1000000 in
set_option maxRecDepth 100000 in
theorem leaf_calls (b t m n : Nat) (T : List ByteArray) (S : List Wd) (x : Rc) (w : World) (hb : Bk w b t m n T S) (hT : T.length ≤ 1000000000) (h1 : x.key.size ≤ maxLen) (h2 : x.val.size ≤ maxLen) :
    Calls Try.prog 139 #[.pointer (some ⟨b, 0, none⟩), .agg #[.string x.key, .string x.val]] w (TextPost (digS T (leafT x)).1 (· = m) (fun w' => Bk w' b t m n (digS T (leafT x)).2 S) w) := by
  obtain ⟨key, val⟩ := x
  simp only at *
  have H1 := Lib.hid (fun w => mtext_calls key w h1)
  have H2 := Lib.hid (fun w => mtext_calls val w h2)
  have s1 := txt_size key
  have s2 := txt_size val
  have HN := Lib.hid (show leafT ⟨key, val⟩ = ⟨#[76]⟩ ++ txt key ++ txt val from rfl)
  obtain ⟨y, hy⟩ : ∃ y, y = txt key := ⟨_, rfl⟩
  obtain ⟨z, hz⟩ : ∃ z, z = txt val := ⟨_, rfl⟩
  rw [← hy] at H1 HN s1
  rw [← hz] at H2 HN s2
  clear hy hz h1 h2
  have hq1 : ¬ 9223372036854775807 < 1 + y.size := by omega
  have hq2 : ¬ 9223372036854775807 < 1 + y.size + z.size := by omega
  have HD := Lib.hid (fun w hb => digest_calls b t m n T S (⟨#[76]⟩ ++ y ++ z) w hb hT (by simp only [maxLen, ByteArray.size_append, one76]; omega))
  rw [← HN.out] at HD
  have hml := hb.tm.lt
  have HB := Lib.hid (hb.alloc (.cells #[.string key, .string val] 131))
  have hst := (St.mk ((Below.refl w.heap.size w).alloc (Nat.le_refl _) _) (Box.new w #[.string key, .string val] 131)).drew
  clear hb
  go_enter Try.func139, Try.ntmps139
  go_wp2_with fail
  have hbl := (Below.refl w.heap.size w).alloc (Nat.le_refl _) (.cells #[.string key, .string val] 131)
  have hbd := hbl.drew
  have hbk := HB.out.drew
  go_region_held3 (fun w' => w'.cell? ⟨w.heap.size, 0, none⟩ = some (.string key) ∧ w'.cell? ⟨w.heap.size, 1, none⟩ = some (.string val)) (first | exact ⟨hst.x.cell 0, hst.x.cell 1⟩ | exact ⟨hx3.cell 0, hx3.cell 1⟩) (first | (go_at_call 152; (first | (with_reducible refine (H1.out _).mono ?_) | (with_reducible refine (H2.out _).mono ?_)); rintro e wn ⟨rfl, hc1⟩; have hst1 := hst.call (Nat.le_refl _) hc1; have hbk1 := hbk.below hc1; clear hc1 hst hbk; have hst := hst1; have hbk := hbk1; clear hst1 hbk1) | (go_at_call 49; rw [← HN.out]; refine (HD.out _ hbk).mono ?_; rintro e w3 ⟨rfl, hc3, hk3⟩; have hx3 := hst.x.ch hc3 hst.x.lt (by omega)))
  all_goals go_wp2
  all_goals go_ret
  all_goals exact ⟨rfl, (Ch.of_below hst.b).step hc3 hst.b.size (fun _ _ e => e), hk3⟩
end Go.Proofs.Ytfgpchffkpomoaa

/- The document's own reading of so many messages at a place. -/
namespace Go.Proofs.Ytfgpchffkpomoaa
set_option linter.unusedSimpArgs false
set_option linter.unusedVariables false
open Go.RowKit

def manyAt (s : ByteArray) (most q : Nat) : Except Nat (List Sg × Nat) :=
  match count s most q with
  | .error e => .error e
  | .ok (n, p) => many s n p []
/-- What the document's reading of messages answers. -/
def ManyPost (r : Except Nat (List Sg × Nat)) (w : World) (e : Ending) (w' : World) : Prop := Below w.heap.size w w' ∧ match r with
  | .ok (l, q) => ∃ A c, e = .returned (.tuple #[.slice A l.length c, .int .i64 q, .int .i64 0]) ∧ w'.ownsRow w.heap.size 61 3 (.slice A l.length c) l.length (l.flatMap Sg.cells)
  | .error c => e = .returned (.tuple #[.slice none 0 0, .int .i64 0, .int .i64 c])
theorem many_ok {s : ByteArray} {n q p : Nat} {l : List Sg} {m : Sg} (h : signed s q = .ok (m, p)) : many s (n + 1) q l = many s n p (l ++ [m]) := by
  rw [many]; rw [h]
theorem many_no {s : ByteArray} {n q c : Nat} {l : List Sg} (h : signed s q = .error c) : many s (n + 1) q l = .error c := by
  rw [many]; rw [h]

set_option maxRecDepth 100000 in
theorem rMany_calls (s : ByteArray) (p most : Nat) (w : World) (hs : s.size ≤ maxLen) (hp : p ≤ s.size) (hmost : most ≤ 1000) : Calls Try.prog 120 #[.string s, .int .i64 p, .int .i64 most] w (ManyPost (manyAt s most p) w) := by
  have HI := Lib.hid (fun w => rInt_calls s p w hs hp)
  unfold GetIntPost at HI
  rw [getInt_at hp] at HI
  have HS := Lib.hid hs
  have HB := Lib.hid (Below.refl w.heap.size w)
  cases hx : num s p with
  | error c =>
    rw [hx] at HI
    simp only at HI
    have hd : ((c : Int) == 0) = false := by rcases num_err hx with rfl | rfl <;> rfl
    have HT := Lib.hid (show manyAt s most p = .error c by unfold manyAt count; rw [hx])
    clear hx hs
    go_enter Try.func120, Try.ntmps120
    go_wp2_with (first | (go_at_call 118; refine (HI.out _).mono ?_; rintro e wn ⟨rfl, hbn⟩; have HBn := Lib.hid (HB.out.trans (hbn.mono HB.out.size)); clear HB hbn; have HB := HBn; clear HBn))
    go_ret3
    unfold ManyPost
    rw [HT.out]
    exact ⟨HB.out, rfl⟩
  | ok r =>
    obtain ⟨n, q⟩ := r
    obtain ⟨b1, b2, b3⟩ := num_bd hx
    rw [hx] at HI
    simp only at HI
    by_cases hl : most < n
    · have hd : decide ((most : Int) < (n : Int)) = true := by simp; omega
      have HT := Lib.hid (show manyAt s most p = .error 2 by unfold manyAt count; rw [hx]; simp only; rw [if_pos hl])
      clear hx hs
      go_enter Try.func120, Try.ntmps120
      go_wp2_with (first | (go_at_call 118; refine (HI.out _).mono ?_; rintro e wn ⟨rfl, hbn⟩; have HBn := Lib.hid (HB.out.trans (hbn.mono HB.out.size)); clear HB hbn; have HB := HBn; clear HBn))
      go_ret3
      unfold ManyPost
      rw [HT.out]
      exact ⟨HB.out, rfl⟩
    · have hd : decide ((most : Int) < (n : Int)) = false := by simp; omega
      have HT := Lib.hid (show manyAt s most p = many s n q [] by unfold manyAt count; rw [hx]; simp only; rw [if_neg hl])
      have hn : n ≤ 1000 := by omega
      clear hx hs
      go_enter Try.func120, Try.ntmps120
      go_wp2_with (first | (go_at_call 118; refine (HI.out _).mono ?_; rintro e wn ⟨rfl, hbn⟩; have HBn := Lib.hid (HB.out.trans (hbn.mono HB.out.size)); clear HB hbn; have HB := HBn; clear HBn))
      go_loopg [1, 11, 12] n (fun k v1 v11 v12 wr => ∃ (q' : Nat) (A : Option Addr) (c : Nat) (l : List Sg), v1 = .int .i64 q' ∧ v11 = .slice A l.length c ∧ v12 = .int .i64 l.length ∧ q' ≤ s.size ∧ l.length ≤ n ∧ Hid (k + l.length = n ∧ Below w.heap.size w wr ∧ wr.ownsRow w.heap.size 61 3 (.slice A l.length c) l.length (l.flatMap Sg.cells) ∧ many s k q' l = many s n q []))
      case atStart => exact ⟨q, none, 0, [], rfl, rfl, rfl, b2, by simp, by simp, HB.out, ⟨rfl, .inl ⟨rfl, rfl⟩⟩, rfl⟩
      case round =>
        clear HB
        obtain ⟨q', A, c, l, rfl, rfl, rfl, hq, hln, HH⟩ := hrel
        obtain ⟨hk, hb, ho, hx⟩ := HH.out
        have HK := Lib.hid hk
        have HB := Lib.hid hb
        have HO := Lib.hid ho
        clear HH hk hb ho
        by_cases hlt : l.length < n
        · have hd2 : decide ((l.length : Int) < (n : Int)) = true := by simp; omega
          obtain ⟨k1, rfl⟩ : ∃ k1, gk = k1 + 1 := ⟨gk - 1, by have := HK.out; omega⟩
          have HG := Lib.hid (fun w => rSigned_calls s q' w HS.out hq)
          unfold SgnPost at HG
          cases hz : signed s q' with
          | error cc =>
            rw [hz] at HG
            simp only at HG
            have hd3 : ((cc : Int) == 0) = false := by rcases signed_err hz with rfl | rfl | rfl <;> rfl
            rw [many_no hz] at hx
            rw [← hx] at HT
            clear hx hz
            go_wp2_with fail
            refine (HG.out _).mono ?_
            rintro e w1 ⟨hb1, ⟨who, body, sig⟩, rfl⟩
            have HB1 := Lib.hid (HB.out.trans (hb1.mono HB.out.size))
            clear hb1
            simp only [Sg.val]
            go_wp2_with fail
            go_ret3
            unfold ManyPost
            rw [HT.out]
            exact ⟨HB1.out.alloc (by have := HB1.out.size; omega) _, rfl⟩
          | ok r =>
            obtain ⟨⟨who, body, sig⟩, q2⟩ := r
            obtain ⟨_, g2⟩ := signed_bd hz
            rw [hz] at HG
            simp only [Sg.val] at HG
            rw [many_ok hz] at hx
            have HX := Lib.hid hx
            clear hx hz
            go_wp2_with fail
            refine (HG.out _).mono ?_
            rintro e w1 ⟨hb1, rfl⟩
            have hrow : ∀ k, Row A k → w.heap.size ≤ k ∧ k < wr.heap.size := fun k hk => own_row HO.out hk
            have HO1 := Lib.hid (own_ch HO.out (Ch.of_below (S := fun _ => False) hb1) (fun k hk => ⟨(own_row HO.out hk).2, fun h => h⟩))
            have HB1 := Lib.hid (HB.out.trans (hb1.mono HB.out.size))
            clear hb1
            have HB2 := Lib.hid ((HB1.out.alloc (by have := HB1.out.size; omega) (.cells #[.int .i64 who, .string body, .string sig] 61)).alloc (by have := HB1.out.size; simp; omega) (.cells #[.int .i64 who, .string body, .string sig] 61))
            go_wp2_with (at_builtin; refine app_row rfl (.tmp 44) (.tmp 46) 57 rfl w.heap.size 61 _ 3 40 info_sg Try.underlying57 rfl (by decide) A c l.length (l.flatMap Sg.cells) rfl ((HO1.out.alloc _).alloc _) ⟨w1.heap.size + 1, 0, none⟩ 1 1 (Sg.cells ⟨who, body, sig⟩) rfl rfl ?hn (Sg.one _) ?hb1 ?hb2 ?hb3 ?_; (case hn => (have h := news_box (Box.new (w1.alloc (.cells #[.int .i64 who, .string body, .string sig] 61)) #[.int .i64 who, .string body, .string sig] 61); simp only [World.size_alloc] at h; exact h)); (case hb1 => omega); (case hb2 => omega); (case hb3 => (have := HB1.out.size; simp; omega)); intro A' c' w3 ho3 hc3 hA3; have HB3 := Lib.hid (below_app0 HB2.out HB2.out.size hc3 (fun k hk => (hrow k hk).1)); have HO3 := Lib.hid ho3; clear ho3 hc3 hA3)
            go_roundg k1
            case measure => omega
            case rel =>
              refine ⟨q2, A', c', l ++ [⟨who, body, sig⟩], rfl, by simp, by simp, g2, by simp; omega, by have := HK.out; simp; omega, HB3.out, ?_, HX.out⟩
              have := HO3.out
              simpa [Sg.cells] using this
        · have hd2 : decide ((l.length : Int) < (n : Int)) = false := by simp; omega
          obtain rfl : gk = 0 := by have := HK.out; omega
          rw [many] at hx
          rw [← hx] at HT
          clear hx
          go_wp2
          go_ret3
          unfold ManyPost
          rw [HT.out]
          exact ⟨HB.out, A, c, rfl, HO.out⟩
end Go.Proofs.Ytfgpchffkpomoaa
