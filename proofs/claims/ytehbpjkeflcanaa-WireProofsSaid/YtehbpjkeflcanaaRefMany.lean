/- The document's own reading of so many messages at a place. -/
import Derived.Test.YtehbpjkeflcanaaRefSg
namespace Go.Proofs.Ytehbpjkeflcanaa
set_option linter.unusedSimpArgs false
set_option linter.unusedVariables false
open Go.RowKit

def manyAt (s : ByteArray) (most q : Nat) : Except Nat (List Sg × Nat) :=
  match count s most q with
  | .error e => .error e
  | .ok (n, p) => many s n p []
/-- What the document's reading of messages answers. -/
def ManyPost (r : Except Nat (List Sg × Nat)) (w : World) (e : Ending) (w' : World) : Prop := Below w.heap.size w w' ∧ match r with
  | .ok (l, q) => ∃ A c, e = .returned (.tuple #[.slice A l.length c, .int .i64 q, .int .i64 0]) ∧ w'.ownsRow w.heap.size 36 3 (.slice A l.length c) l.length (l.flatMap Sg.cells)
  | .error c => e = .returned (.tuple #[.slice none 0 0, .int .i64 0, .int .i64 c])
theorem many_ok {s : ByteArray} {n q p : Nat} {l : List Sg} {m : Sg} (h : signed s q = .ok (m, p)) : many s (n + 1) q l = many s n p (l ++ [m]) := by
  rw [many]; rw [h]
theorem many_no {s : ByteArray} {n q c : Nat} {l : List Sg} (h : signed s q = .error c) : many s (n + 1) q l = .error c := by
  rw [many]; rw [h]

set_option maxRecDepth 100000 in
theorem rMany_calls (s : ByteArray) (p most : Nat) (w : World) (hs : s.size ≤ maxLen) (hp : p ≤ s.size) (hmost : most ≤ 1000) : Calls Try.prog 74 #[.string s, .int .i64 p, .int .i64 most] w (ManyPost (manyAt s most p) w) := by
  have HI := Lib.hid (fun w => rInt_calls s p w hs hp)
  unfold GetIntPost at HI
  rw [getInt_at hp] at HI
  have HS := Lib.hid hs
  have HB := Lib.hid (Below.refl w.heap.size w)
  cases hx : num s p with
  | error c =>
    rw [hx] at HI
    simp only at HI
    have hd : ((c : Int) == 0) = false := by rcases num_err hx with rfl | rfl <;> rfl
    have HT := Lib.hid (show manyAt s most p = .error c by unfold manyAt count; rw [hx])
    clear hx hs
    go_enter Try.func74, Try.ntmps74
    go_wp2_with (first | (go_at_call 28; refine (HI.out _).mono ?_; rintro e wn ⟨rfl, hbn⟩; have HBn := Lib.hid (HB.out.trans (hbn.mono HB.out.size)); clear HB hbn; have HB := HBn; clear HBn))
    go_ret3
    unfold ManyPost
    rw [HT.out]
    exact ⟨HB.out, rfl⟩
  | ok r =>
    obtain ⟨n, q⟩ := r
    obtain ⟨b1, b2, b3⟩ := num_bd hx
    rw [hx] at HI
    simp only at HI
    by_cases hl : most < n
    · have hd : decide ((most : Int) < (n : Int)) = true := by simp; omega
      have HT := Lib.hid (show manyAt s most p = .error 2 by unfold manyAt count; rw [hx]; simp only; rw [if_pos hl])
      clear hx hs
      go_enter Try.func74, Try.ntmps74
      go_wp2_with (first | (go_at_call 28; refine (HI.out _).mono ?_; rintro e wn ⟨rfl, hbn⟩; have HBn := Lib.hid (HB.out.trans (hbn.mono HB.out.size)); clear HB hbn; have HB := HBn; clear HBn))
      go_ret3
      unfold ManyPost
      rw [HT.out]
      exact ⟨HB.out, rfl⟩
    · have hd : decide ((most : Int) < (n : Int)) = false := by simp; omega
      have HT := Lib.hid (show manyAt s most p = many s n q [] by unfold manyAt count; rw [hx]; simp only; rw [if_neg hl])
      have hn : n ≤ 1000 := by omega
      clear hx hs
      go_enter Try.func74, Try.ntmps74
      go_wp2_with (first | (go_at_call 28; refine (HI.out _).mono ?_; rintro e wn ⟨rfl, hbn⟩; have HBn := Lib.hid (HB.out.trans (hbn.mono HB.out.size)); clear HB hbn; have HB := HBn; clear HBn))
      go_loopg [1, 11, 12] n (fun k v1 v11 v12 wr => ∃ (q' : Nat) (A : Option Addr) (c : Nat) (l : List Sg), v1 = .int .i64 q' ∧ v11 = .slice A l.length c ∧ v12 = .int .i64 l.length ∧ q' ≤ s.size ∧ l.length ≤ n ∧ Hid (k + l.length = n ∧ Below w.heap.size w wr ∧ wr.ownsRow w.heap.size 36 3 (.slice A l.length c) l.length (l.flatMap Sg.cells) ∧ many s k q' l = many s n q []))
      case atStart => exact ⟨q, none, 0, [], rfl, rfl, rfl, b2, by simp, by simp, HB.out, ⟨rfl, .inl ⟨rfl, rfl⟩⟩, rfl⟩
      case round =>
        clear HB
        obtain ⟨q', A, c, l, rfl, rfl, rfl, hq, hln, HH⟩ := hrel
        obtain ⟨hk, hb, ho, hx⟩ := HH.out
        have HK := Lib.hid hk
        have HB := Lib.hid hb
        have HO := Lib.hid ho
        clear HH hk hb ho
        by_cases hlt : l.length < n
        · have hd2 : decide ((l.length : Int) < (n : Int)) = true := by simp; omega
          obtain ⟨k1, rfl⟩ : ∃ k1, gk = k1 + 1 := ⟨gk - 1, by have := HK.out; omega⟩
          have HG := Lib.hid (fun w => rSigned_calls s q' w HS.out hq)
          unfold SgnPost at HG
          cases hz : signed s q' with
          | error cc =>
            rw [hz] at HG
            simp only at HG
            have hd3 : ((cc : Int) == 0) = false := by rcases signed_err hz with rfl | rfl | rfl <;> rfl
            rw [many_no hz] at hx
            rw [← hx] at HT
            clear hx hz
            go_wp2_with fail
            refine (HG.out _).mono ?_
            rintro e w1 ⟨hb1, ⟨who, body, sig⟩, rfl⟩
            have HB1 := Lib.hid (HB.out.trans (hb1.mono HB.out.size))
            clear hb1
            simp only [Sg.val]
            go_wp2_with fail
            go_ret3
            unfold ManyPost
            rw [HT.out]
            exact ⟨HB1.out.alloc (by have := HB1.out.size; omega) _, rfl⟩
          | ok r =>
            obtain ⟨⟨who, body, sig⟩, q2⟩ := r
            obtain ⟨_, g2⟩ := signed_bd hz
            rw [hz] at HG
            simp only [Sg.val] at HG
            rw [many_ok hz] at hx
            have HX := Lib.hid hx
            clear hx hz
            go_wp2_with fail
            refine (HG.out _).mono ?_
            rintro e w1 ⟨hb1, rfl⟩
            have hrow : ∀ k, Row A k → w.heap.size ≤ k ∧ k < wr.heap.size := fun k hk => own_row HO.out hk
            have HO1 := Lib.hid (own_ch HO.out (Ch.of_below (S := fun _ => False) hb1) (fun k hk => ⟨(own_row HO.out hk).2, fun h => h⟩))
            have HB1 := Lib.hid (HB.out.trans (hb1.mono HB.out.size))
            clear hb1
            have HB2 := Lib.hid ((HB1.out.alloc (by have := HB1.out.size; omega) (.cells #[.int .i64 who, .string body, .string sig] 36)).alloc (by have := HB1.out.size; simp; omega) (.cells #[.int .i64 who, .string body, .string sig] 36))
            go_wp2_with (at_builtin; refine app_row rfl (.tmp 44) (.tmp 46) 22 rfl w.heap.size 36 _ 3 40 info_sg Try.underlying22 rfl (by decide) A c l.length (l.flatMap Sg.cells) rfl ((HO1.out.alloc _).alloc _) ⟨w1.heap.size + 1, 0, none⟩ 1 1 (Sg.cells ⟨who, body, sig⟩) rfl rfl ?hn (Sg.one _) ?hb1 ?hb2 ?hb3 ?_; (case hn => (have h := news_box (Box.new (w1.alloc (.cells #[.int .i64 who, .string body, .string sig] 36)) #[.int .i64 who, .string body, .string sig] 36); simp only [World.size_alloc] at h; exact h)); (case hb1 => omega); (case hb2 => omega); (case hb3 => (have := HB1.out.size; simp; omega)); intro A' c' w3 ho3 hc3 hA3; have HB3 := Lib.hid (below_app0 HB2.out HB2.out.size hc3 (fun k hk => (hrow k hk).1)); have HO3 := Lib.hid ho3; clear ho3 hc3 hA3)
            go_roundg k1
            case measure => omega
            case rel =>
              refine ⟨q2, A', c', l ++ [⟨who, body, sig⟩], rfl, by simp, by simp, g2, by simp; omega, by have := HK.out; simp; omega, HB3.out, ?_, HX.out⟩
              have := HO3.out
              simpa [Sg.cells] using this
        · have hd2 : decide ((l.length : Int) < (n : Int)) = false := by simp; omega
          obtain rfl : gk = 0 := by have := HK.out; omega
          rw [many] at hx
          rw [← hx] at HT
          clear hx
          go_wp2
          go_ret3
          unfold ManyPost
          rw [HT.out]
          exact ⟨HB.out, A, c, rfl, HO.out⟩
end Go.Proofs.Ytehbpjkeflcanaa
