/- Texts of this proof, several in one file; each says ahead of it what it proves. -/
import Derived.Test.YtfgpchffkpomoaaPk21
import Derived.Test.YtfgpchffkpomoaaPk38
import Derived.Test.YtfgpchffkpomoaaPk22
import Derived.Test.YtfgpchffkpomoaaPk24
/- By a book of sums: what stands in the text Climb, once more. -/
namespace Go.Proofs.Ytfgpchffkpomoaa.Kd
set_option linter.unusedSimpArgs false
set_option linter.unusedVariables false
open Go.RowKit
def ClimbPost (w0 : World) (b t m n : Nat) (T : List ByteArray) (S : List Wd) (d : ByteArray) (i N : Nat) (s : List ByteArray) (e : Ending) (w' : World) : Prop :=
  ∃ T' x ok, e = .returned (.tuple #[.string x, .bool ok]) ∧ Hid ((x, ok) = climbP (hh T') d i N s) ∧ x.size ≤ 1000 ∧ Ext T T' ∧ T'.length ≤ T.length + s.length ∧ ClimbIn T' d i N s ∧ Ch w0.heap.size (· = m) w0 w' ∧ Bk w' b t m n T' S
theorem climb_left {T T1 : List ByteArray} {d : ByteArray} {i N : Nat} {s : List ByteArray} {x y : ByteArray} {ok : Bool} (h : 1 < N) (hi : i < half N) (e1 : Ext T T1) (c1 : ClimbIn T1 d i (half N) s) (q : (x, ok) = climbP (hh T1) d i (half N) s) :
    ((digS T1 (nodeT x y)).1, ok) = climbP (hh (digS T1 (nodeT x y)).2) d i N (s ++ [y]) ∧ Ext T (digS T1 (nodeT x y)).2 ∧ ClimbIn (digS T1 (nodeT x y)).2 d i N (s ++ [y]) := by
  obtain ⟨kn1, kn2, kn3⟩ := dig_known T1 (nodeT x y)
  rw [kn3]
  obtain ⟨T3, hT3⟩ : ∃ x1, x1 = (digS T1 (nodeT x y)).2 := ⟨_, rfl⟩
  rw [← hT3] at kn1 kn2 ⊢
  obtain ⟨a1, a2⟩ := c1.ext kn1
  have q2 := q.trans a2.symm
  obtain ⟨f1, f2⟩ := climb_fst q2
  exact ⟨by rw [climbP_left h hi, f1, f2], e1.trans kn1, .left h hi a1 (by rw [f1]; exact kn2)⟩
theorem climb_right {T T1 : List ByteArray} {d : ByteArray} {i N : Nat} {s : List ByteArray} {x y : ByteArray} {ok : Bool} (h : 1 < N) (hi : ¬ i < half N) (e1 : Ext T T1) (c1 : ClimbIn T1 d (i - half N) (N - half N) s) (q : (x, ok) = climbP (hh T1) d (i - half N) (N - half N) s) :
    ((digS T1 (nodeT y x)).1, ok) = climbP (hh (digS T1 (nodeT y x)).2) d i N (s ++ [y]) ∧ Ext T (digS T1 (nodeT y x)).2 ∧ ClimbIn (digS T1 (nodeT y x)).2 d i N (s ++ [y]) := by
  obtain ⟨kn1, kn2, kn3⟩ := dig_known T1 (nodeT y x)
  rw [kn3]
  obtain ⟨T3, hT3⟩ : ∃ x1, x1 = (digS T1 (nodeT y x)).2 := ⟨_, rfl⟩
  rw [← hT3] at kn1 kn2 ⊢
  obtain ⟨a1, a2⟩ := c1.ext kn1
  have q2 := q.trans a2.symm
  obtain ⟨f1, f2⟩ := climb_fst q2
  exact ⟨by rw [climbP_right h hi, f1, f2], e1.trans kn1, .right h hi a1 (by rw [f1]; exact kn2)⟩

set_option maxHeartbeats 4000000 in
set_option maxRecDepth 100000 in
theorem climb_calls (b t m n : Nat) (S : List Wd) (d : ByteArray) (hd : d.size ≤ 1000) : ∀ (N : Nat) (T : List ByteArray) (A : Option Addr) (c : Nat) (l : List ByteArray) (i : Nat) (w : World), 0 < N → N ≤ 100000 → Bk w b t m n T S → T.length + l.length ≤ 1000000000 → TxS w A c l → l.length ≤ c → i ≤ 100000 → (∀ x ∈ l, x.size ≤ 1000) → Off A l.length m →
    Calls Try.prog 160 #[.pointer (some ⟨b, 0, none⟩), .string d, .int .i64 i, .int .i64 N, .slice A l.length c] w (ClimbPost w b t m n T S d i N l) := by
  intro N
  induction N using Nat.strongRecOn with
  | ind N ih =>
    intro T A c l i w hN0 hN hb hT hs hlc hi hsz hA
    have IH := Lib.hid ih
    have HS := Lib.hid hs
    have HSZ := Lib.hid hsz
    have HA := Lib.hid hA
    have HD := Lib.hid hd
    have hfit := hs.fits
    have HLT := Lib.hid hb.all_lt
    have hml := hb.tm.lt
    have HB := Lib.hid hb
    clear ih hb hs hsz hA
    by_cases h1 : 1 < N
    · have hd0 : ((N : Int) == 1) = false := by rw [beq_eq_false_iff_ne]; omega
      rcases List.eq_nil_or_concat l with rfl | ⟨s, y, hl⟩
      · have HP := Lib.hid (climbP_nil (h := hh T) (d := d) (i := i) h1)
        have HIN := Lib.hid (ClimbIn.nil (T := T) (d := d) (i := i) h1)
        go_enter Try.func160, Try.ntmps160
        go_wp2
        go_ret2
        exact ⟨T, ⟨#[]⟩, false, rfl, HP.out.symm, by simp [ByteArray.size], Ext.refl _, by omega, HIN.out, Ch.refl _ _ _, HB.out⟩
      · rw [List.concat_eq_append] at hl
        have hlen : l.length = s.length + 1 := by rw [hl]; simp
        have hget := HS.out.elem (l.length - 1) (by omega)
        obtain ⟨a, rfl, e0⟩ := hget
        have hy : l[l.length - 1]'(by omega) = y := by simp [hl]
        rw [hy, show l.length - 1 = s.length by omega] at e0
        clear hy
        have hsl : TxS w (some a) c s := by
          have := TxS.take HS.out s.length
          rwa [hl, List.take_left] at this
        have HSL := Lib.hid hsl
        have hsy := HSZ.out y (by rw [hl]; simp)
        have HSZ2 := Lib.hid (show ∀ x ∈ s, x.size ≤ 1000 from fun x hx => HSZ.out x (by rw [hl]; simp [hx]))
        have HA2 := Lib.hid (show Off (some a) s.length m from fun _ => HA.out (by rw [hl]; simp))
        have HL := Lib.hid hl
        clear hl hsl HS HSZ
        rw [hlen] at hT hlc hfit ⊢
        have HLEN := Lib.hid hlen
        clear hlen
        obtain ⟨p, hp⟩ : ∃ p, p = s.length := ⟨_, rfl⟩
        rw [← hp] at hT hlc hfit e0 ⊢
        have HP := Lib.hid hp
        clear hp
        have hhl := half_lt h1
        obtain ⟨k, hk⟩ : ∃ k, k = half N := ⟨_, rfl⟩
        have HH := Lib.hid (fun w => half_calls N w (by omega))
        rw [← hk] at HH hhl
        have HK := Lib.hid hk
        clear hk
        have hp0 : (0 : Int) ≤ (p : Int) := by omega
        have hp1 : (p : Int) ≤ (p : Int) + 1 := by omega
        have hp2 : (p : Int) ≤ (c : Int) := by omega
        have hp3 : (p : Int) < (p : Int) + 1 := by omega
        have hwp : IntKind.i64.wrap (p : Int) = (p : Int) := wrap_small _ (by omega) (by omega)
        have hwp1 : IntKind.i64.wrap ((p : Int) + 1 - 1) = (p : Int) := by rw [Int.add_sub_cancel]; exact hwp
        have hd1 : ((p : Int) + 1 == 0) = false := by rw [beq_eq_false_iff_ne]; omega
        by_cases hik : i < k
        · have hd2 : decide ((i : Int) < (k : Int)) = true := by simp; omega
          have C1 := Lib.hid (show ∀ w, Bk w b t m n T S → TxS w (some a) c s → Calls Try.prog 160 #[.pointer (some ⟨b, 0, none⟩), .string d, .int .i64 (i : Int), .int .i64 (k : Int), .slice (some a) p c] w (ClimbPost w b t m n T S d i k s) from fun w hb hs => by
            have hpp := HP.out
            have := IH.out k (by omega) T (some a) c s i w (by omega) (by omega) hb (by omega) hs (by omega) (by omega) HSZ2.out HA2.out
            rw [← hpp] at this
            exact this)
          go_enter Try.func160, Try.ntmps160
          go_wp2_with fail
          have hbk := HB.out.drew
          have hst := HSL.out.drew
          have hcc := (Ch.refl w.heap.size (· = m) w).drew
          go_region_held3 (fun w' => w'.cell? (a.add p) = some (.string y)) (first | exact e0) (first | (go_at_call 153; refine (HH.out _).mono ?_; rintro e w1 ⟨rfl, hw1⟩; subst hw1))
          all_goals go_wp2_with fail
          all_goals refine (C1.out _ hbk hst).mono ?_
          all_goals
            rintro e w2 ⟨T1, x, ok, rfl, q1, xs, e1, l1, c1, ch1, k1⟩
            have hs12 : w.heap.size ≤ w2.heap.size := ch1.size
            have hnd := node_calls b t m n T1 S x y w2 k1 (by have := HP.out; omega) (Nat.le_trans xs (by decide)) (Nat.le_trans hsy (by decide))
            have hdl := digT_len T1 (nodeT x y)
            have hkk := HK.out
            obtain ⟨j1, j2, j3⟩ := climb_left (T := T) (x := x) (y := y) (ok := ok) h1 (by rw [← hkk]; exact hik) e1 (by rw [← hkk]; exact c1) (by rw [← hkk]; exact q1.out)
            have hq8 := hh_size T1 (nodeT x y)
            unfold hh at hq8
            clear hkk
            have J1 := Lib.hid j1
            have J2 := Lib.hid j2
            have J3 := Lib.hid j3
            clear j1 j2 j3
            obtain ⟨⟨g, T2⟩, hq⟩ : ∃ q, q = digS T1 (nodeT x y) := ⟨_, rfl⟩
            rw [← hq] at hnd hdl J1 J2 J3 hq8
            have HND := Lib.hid hnd
            clear hnd hq
            simp only at hdl hq8
            go_wp2_with fail
            refine HND.out.mono ?_
            rintro e w3 ⟨rfl, ch2, k2⟩
            go_wp2
            go_ret2
            have hll := HL.out
            have hpp := HP.out
            refine ⟨T2, g, ok, rfl, ?_, by omega, J2.out, by simp only [hll, List.length_append, List.length_cons, List.length_nil]; omega, ?_, (hcc.step ch1 (Nat.le_refl _) (fun _ _ e => e)).step ch2 hs12 (fun _ _ e => e), k2⟩
            · rw [hll]; exact J1.out
            · rw [hll]; exact J3.out
        · have hd2 : decide ((i : Int) < (k : Int)) = false := by simp; omega
          have hwr : IntKind.i64.wrap ((i : Int) - (k : Int)) = (i : Int) - (k : Int) := wrap_small _ (by omega) (by omega)
          have hwr2 : IntKind.i64.wrap ((N : Int) - (k : Int)) = (N : Int) - (k : Int) := wrap_small _ (by omega) (by omega)
          have hik2 : ((i : Int) - (k : Int)) = ((i - k : Nat) : Int) := by omega
          have hik3 : ((N : Int) - (k : Int)) = ((N - k : Nat) : Int) := by omega
          have C1 := Lib.hid (show ∀ w, Bk w b t m n T S → TxS w (some a) c s → Calls Try.prog 160 #[.pointer (some ⟨b, 0, none⟩), .string d, .int .i64 ((i : Int) - (k : Int)), .int .i64 ((N : Int) - (k : Int)), .slice (some a) p c] w (ClimbPost w b t m n T S d (i - k) (N - k) s) from fun w hb hs => by
            have hpp := HP.out
            have := IH.out (N - k) (by omega) T (some a) c s (i - k) w (by omega) (by omega) hb (by omega) hs (by omega) (by omega) HSZ2.out HA2.out
            rw [← hpp] at this
            rw [hik2, hik3]; exact this)
          clear hik2 hik3
          go_enter Try.func160, Try.ntmps160
          go_wp2_with fail
          have hbk := HB.out.drew
          have hst := HSL.out.drew
          have hcc := (Ch.refl w.heap.size (· = m) w).drew
          go_region_held3 (fun w' => w'.cell? (a.add p) = some (.string y)) (first | exact e0) (first | (go_at_call 153; refine (HH.out _).mono ?_; rintro e w1 ⟨rfl, hw1⟩; subst hw1))
          all_goals go_wp2_with fail
          all_goals refine (C1.out _ hbk hst).mono ?_
          all_goals
            rintro e w2 ⟨T1, x, ok, rfl, q1, xs, e1, l1, c1, ch1, k1⟩
            have hs12 : w.heap.size ≤ w2.heap.size := ch1.size
            have hnd := node_calls b t m n T1 S y x w2 k1 (by have := HP.out; omega) (Nat.le_trans hsy (by decide)) (Nat.le_trans xs (by decide))
            have hdl := digT_len T1 (nodeT y x)
            have hkk := HK.out
            obtain ⟨j1, j2, j3⟩ := climb_right (T := T) (x := x) (y := y) (ok := ok) h1 (by rw [← hkk]; exact hik) e1 (by rw [← hkk]; exact c1) (by rw [← hkk]; exact q1.out)
            have hq8 := hh_size T1 (nodeT y x)
            unfold hh at hq8
            clear hkk
            have J1 := Lib.hid j1
            have J2 := Lib.hid j2
            have J3 := Lib.hid j3
            clear j1 j2 j3
            obtain ⟨⟨g, T2⟩, hq⟩ : ∃ q, q = digS T1 (nodeT y x) := ⟨_, rfl⟩
            rw [← hq] at hnd hdl J1 J2 J3 hq8
            have HND := Lib.hid hnd
            clear hnd hq
            simp only at hdl hq8
            go_wp2_with fail
            refine HND.out.mono ?_
            rintro e w3 ⟨rfl, ch2, k2⟩
            go_wp2
            go_ret2
            have hll := HL.out
            have hpp := HP.out
            refine ⟨T2, g, ok, rfl, ?_, by omega, J2.out, by simp only [hll, List.length_append, List.length_cons, List.length_nil]; omega, ?_, (hcc.step ch1 (Nat.le_refl _) (fun _ _ e => e)).step ch2 hs12 (fun _ _ e => e), k2⟩
            · rw [hll]; exact J1.out
            · rw [hll]; exact J3.out
    · have hd0 : ((N : Int) == 1) = true := by rw [beq_iff_eq]; omega
      have HP := Lib.hid (climbP_one (h := hh T) (d := d) (i := i) (s := l) h1)
      have HIN := Lib.hid (ClimbIn.one (T := T) (d := d) (i := i) (s := l) h1)
      go_enter Try.func160, Try.ntmps160
      go_wp2
      go_ret2
      exact ⟨T, d, l.isEmpty, by cases l <;> rfl, HP.out.symm, HD.out, Ext.refl _, by omega, HIN.out, Ch.refl _ _ _, HB.out⟩
end Go.Proofs.Ytfgpchffkpomoaa.Kd

/- By a book of sums: what stands in the text MRoot, once more. -/
namespace Go.Proofs.Ytfgpchffkpomoaa.Kd
set_option linter.unusedSimpArgs false
set_option linter.unusedVariables false
open Go.RowKit
def RootPost (w0 : World) (b t m n : Nat) (T : List ByteArray) (S : List Wd) (l : List Rc) (e : Ending) (w' : World) : Prop :=
  ∃ T' x, e = .returned (.tuple #[.string x, .int .i64 (riseE l)]) ∧ Hid ((riseE l = 0 → x = rootP (hh T') l ∧ RootIn T' l) ∧ (riseE l ≠ 0 → x = ⟨#[]⟩)) ∧ Ext T T' ∧ T'.length ≤ T.length + 10000 ∧ Ch w0.heap.size (· = m) w0 w' ∧ Bk w' b t m n T' S
theorem root_join {T2 T3 : List ByteArray} {l : List Rc} {x : ByteArray} (i2 : LeavesIn T2 l) (e3 : Ext T2 T3) (t3 : TopIn T3 (leavesH (hh T2) l)) (hx : x = topP (hh T3) (leavesH (hh T2) l)) :
    (digS T3 (rootT l.length x)).1 = rootP (hh (digS T3 (rootT l.length x)).2) l ∧ RootIn (digS T3 (rootT l.length x)).2 l ∧ Ext T3 (digS T3 (rootT l.length x)).2 := by
  subst hx
  obtain ⟨kn1, kn2, kn3⟩ := dig_known T3 (rootT l.length (topP (hh T3) (leavesH (hh T2) l)))
  rw [kn3]
  obtain ⟨T4, hT4⟩ : ∃ x1, x1 = (digS T3 (rootT l.length (topP (hh T3) (leavesH (hh T2) l)))).2 := ⟨_, rfl⟩
  rw [← hT4] at kn1 kn2 ⊢
  obtain ⟨a1, a2⟩ := i2.ext (e3.trans kn1)
  obtain ⟨b1, b2⟩ := t3.ext kn1
  rw [← b2, ← a2] at kn2
  rw [← a2] at b1
  refine ⟨?_, ⟨a1, b1, kn2⟩, kn1⟩
  unfold rootP
  rw [← b2, ← a2]

set_option maxHeartbeats 2000000 in
set_option maxRecDepth 100000 in
theorem mRoot_calls (b t m n : Nat) (T : List ByteArray) (S : List Wd) (A : Option Addr) (c : Nat) (l : List Rc) (w : World) (hb : Bk w b t m n T S) (hT : T.length ≤ 50000000) (hs : RcS w A c l) (hA : Off A l.length m) :
    Calls Try.prog 37 #[.pointer (some ⟨b, 0, none⟩), .slice A l.length c] w (RootPost w b t m n T S l) := by
  have HK := Lib.hid (known_calls b t m n T S w hb (by omega))
  have HS := Lib.hid hs
  have HA := Lib.hid hA
  have HC := Lib.hid (fun w hs => check_errs A c l w hs)
  have hdl := digT_len T ⟨#[]⟩
  have hke := (dig_known T ⟨#[]⟩).1
  obtain ⟨T1, hT1⟩ : ∃ x, x = (digS T ⟨#[]⟩).2 := ⟨_, rfl⟩
  rw [← hT1] at HK hdl hke
  have HKE := Lib.hid hke
  clear hT1 hke hb hs hA
  have hfit := HS.out.fits
  by_cases hr : riseE l = 0
  · have hok := rise_ok hr
    have hsh := rise_short hr
    have HR := Lib.hid hr
    rw [hr] at HC
    have HSH := Lib.hid hsh
    have hl4 := hok.1
    clear hok hsh hr
    go_enter Try.func37, Try.ntmps37
    go_wp2_with fail
    refine HK.out.mono ?_
    rintro e w1 ⟨rfl, hc1, hk1⟩
    have hs1 := HS.out.off hc1 HA.out
    have HC1 := Lib.hid hc1
    have HK1 := Lib.hid hk1
    clear hk1
    have hz1 := hc1.size
    clear hc1
    go_wp2_with fail
    refine (HC.out _ hs1).mono ?_
    rintro e w2 ⟨rfl, hb2⟩
    have HC2 := Lib.hid (HC1.out.step (Ch.of_below (S := fun _ => False) hb2) hz1 (fun _ _ e => e.elim))
    have HK2 := Lib.hid (HK1.out.below hb2)
    have HS2 := Lib.hid (hs1.below hb2)
    have hz2 := HC2.out.size
    clear hb2 hs1
    have HLV := Lib.hid (leaves_calls b t m n T1 S A c l w2 HK2.out (by omega) HS2.out (by omega) (fun x hx => by have := HSH.out x hx; simp only [maxLen, Go.maxLen]; omega) HA.out)
    go_wp2_with fail
    refine HLV.out.mono ?_
    rintro e w3 ⟨T2, A2, c2, rfl, e2, l2, i2, ch2, k2, o2⟩
    have hz3 := ch2.size
    have hll := leavesH_len (hh T2) l
    obtain ⟨L, hL⟩ : ∃ L, L = leavesH (hh T2) l := ⟨_, rfl⟩
    have hLs : ∀ x ∈ L, x.size ≤ 1000 := fun x hx => by rw [hL] at hx; rw [leaves_size T2 l x hx]; omega
    rw [← hL] at o2 hll
    have hts : TxS w3 A2 c2 L := by
      have := Sl.of_own o2
      unfold TxS
      rw [hll]
      exact this
    have htop := top_calls b t m n S L.length T2 A2 c2 L w3 rfl k2 (by omega) hts (by rw [hll]; exact own_cap o2) (by omega) hLs (fun _ k hk => by have := (own_row o2 hk).1; have := HK2.out.all_lt; omega)
    rw [hll] at htop
    have HTOP := Lib.hid htop
    have HI2 := Lib.hid i2
    have HLL := Lib.hid hL
    have HC3 := Lib.hid (HC2.out.step ch2 hz2 (fun _ _ e => e))
    have hz23 := HC3.out.size
    clear htop hts o2 hL i2 ch2 k2
    go_wp2_with fail
    refine HTOP.out.mono ?_
    rintro e w4 ⟨T3, rfl, e3, l3, t3, ch3, k3⟩
    obtain ⟨x, hx⟩ : ∃ x, x = topP (hh T3) L := ⟨_, rfl⟩
    rw [← hx]
    have hxs : x.size ≤ 1000 := by rw [hx]; exact topP_size hLs
    have hrt := mroot_calls b t m n T3 S l.length x w4 k3 (by omega) (by omega) (Nat.le_trans hxs (by decide))
    have hrl := digT_len T3 (rootT l.length x)
    obtain ⟨j1, j2, j3⟩ := root_join (x := x) HI2.out e3 (by rw [← HLL.out]; exact t3) (by rw [← HLL.out]; exact hx)
    have J1 := Lib.hid j1
    have J2 := Lib.hid j2
    have J3 := Lib.hid (((HKE.out.trans e2).trans e3).trans j3)
    have HX := Lib.hid hx
    clear j1 j2 j3 hx t3 hLs
    obtain ⟨⟨g, T4⟩, hq⟩ : ∃ q, q = digS T3 (rootT l.length x) := ⟨_, rfl⟩
    rw [← hq] at hrt hrl J1 J2 J3
    have HRT := Lib.hid hrt
    clear hrt hq
    simp only at hrl
    have HC4 := Lib.hid (HC3.out.step ch3 hz23 (fun _ _ e => e))
    have hz4 := HC4.out.size
    clear ch3
    go_wp2_with fail
    refine HRT.out.mono ?_
    rintro e w5 ⟨rfl, ch4, k4⟩
    go_wp2
    go_ret2
    refine ⟨T4, g, by rw [HR.out]; rfl, ⟨fun _ => ⟨J1.out, J2.out⟩, fun h => absurd HR.out h⟩, J3.out, by omega, HC4.out.step ch4 hz4 (fun _ _ e => e), k4⟩
  · have HR := Lib.hid hr
    obtain ⟨cd, hcd⟩ : ∃ cd, cd = riseE l := ⟨_, rfl⟩
    rw [← hcd] at HC hr
    have HCD := Lib.hid hcd
    have hd : (cd == 0) = false := by rw [beq_eq_false_iff_ne]; exact hr
    clear hcd hr
    go_enter Try.func37, Try.ntmps37
    go_wp2_with fail
    refine HK.out.mono ?_
    rintro e w1 ⟨rfl, hc1, hk1⟩
    have hs1 := HS.out.off hc1 HA.out
    have HC1 := Lib.hid hc1
    have HK1 := Lib.hid hk1
    have hz1 := hc1.size
    clear hc1 hk1
    go_wp2_with fail
    refine (HC.out _ hs1).mono ?_
    rintro e w2 ⟨rfl, hb2⟩
    have HC2 := Lib.hid (HC1.out.step (Ch.of_below (S := fun _ => False) hb2) hz1 (fun _ _ e => e.elim))
    have HK2 := Lib.hid (HK1.out.below hb2)
    clear hb2 hs1
    go_wp2
    go_ret2
    refine ⟨T1, ⟨#[]⟩, by rw [← HCD.out]; rfl, ⟨fun h => absurd h HR.out, fun _ => rfl⟩, HKE.out, by omega, HC2.out, HK2.out⟩
end Go.Proofs.Ytfgpchffkpomoaa.Kd

/- By a book of sums: what stands in the text TreeM, once more. -/
namespace Go.Proofs.Ytfgpchffkpomoaa.Kd
set_option linter.unusedSimpArgs false
set_option linter.unusedVariables false
open Go.RowKit
def MNewPost (w0 : World) (b t m n : Nat) (T : List ByteArray) (S : List Wd) (e : Ending) (w' : World) : Prop :=
  ∃ T' q, e = .returned (.pointer (some ⟨q, 0, none⟩)) ∧ Ext T T' ∧ T'.length ≤ T.length + 1 ∧ Ch w0.heap.size (· = m) w0 w' ∧ Bk w' b t m n T' S ∧ w0.heap.size ≤ q ∧ TreeBox w' q b none 0 0 none 0 0
set_option maxRecDepth 100000 in
theorem mNew_calls (b t m n : Nat) (T : List ByteArray) (S : List Wd) (w : World) (hb : Bk w b t m n T S) (hT : T.length ≤ 100000000) :
    Calls Try.prog 78 #[.pointer (some ⟨b, 0, none⟩)] w (MNewPost w b t m n T S) := by
  have HK := Lib.hid (known_calls b t m n T S w hb (by omega))
  have hdl := digT_len T ⟨#[]⟩
  have hke := (dig_known T ⟨#[]⟩).1
  obtain ⟨T1, hT1⟩ : ∃ x, x = (digS T ⟨#[]⟩).2 := ⟨_, rfl⟩
  rw [← hT1] at HK hdl hke
  have HKE := Lib.hid hke
  clear hT1 hke hb
  go_enter Try.func78, Try.ntmps78
  go_wp2_with fail
  refine HK.out.mono ?_
  rintro e w1 ⟨rfl, hc1, hk1⟩
  have HC1 := Lib.hid hc1
  have HK1 := Lib.hid hk1
  have hz1 := hc1.size
  clear hc1 hk1
  go_wp2
  go_ret
  exact ⟨T1, w1.heap.size, rfl, HKE.out, hdl, HC1.out.alloc hz1 _, HK1.out.alloc _, hz1, Box.new w1 #[.pointer (some ⟨b, 0, none⟩), .slice none 0 0, .slice none 0 0] 147⟩
end Go.Proofs.Ytfgpchffkpomoaa.Kd

/- By a book of sums: what stands in the text MPath, once more. -/
namespace Go.Proofs.Ytfgpchffkpomoaa.Kd
set_option linter.unusedSimpArgs false
set_option linter.unusedVariables false
open Go.RowKit
def MPathPost (w0 : World) (b t m n : Nat) (T : List ByteArray) (S : List Wd) (D : List ByteArray) (x : Rc) (i : Nat) (e : Ending) (w' : World) : Prop :=
  ∃ T' A c L, e = .returned (.agg #[.int .i64 i, .string x.key, .string x.val, .slice A L.length c]) ∧ Hid (L = sidesP (hh T') D i) ∧ Ext T T' ∧ T'.length ≤ T.length + D.length ∧ SidesIn T' D i ∧ Ch w0.heap.size (· = m) w0 w' ∧ Bk w' b t m n T' S ∧ w'.ownsRow w0.heap.size 9 1 (.slice A L.length c) L.length (L.flatMap textCells)

set_option maxHeartbeats 2000000 in
set_option maxRecDepth 100000 in
theorem tpath_calls (q b t m n : Nat) (T : List ByteArray) (S : List Wd) (A : Option Addr) (c : Nat) (DA : Option Addr) (dc : Nat) (l : List Rc) (D : List ByteArray) (i : Nat) (w : World) (hb : Bk w b t m n T S) (hT : T.length ≤ 500000000) (hx : TreeBox w q b A l.length c DA D.length dc) (hq : q ≠ m) (hs : RcS w A c l) (hl : l.length ≤ 4096) (hD : TxS w DA dc D) (hDl : D.length ≤ 100000) (hDc : D.length ≤ dc) (hDs : ∀ x ∈ D, x.size ≤ 1000) (hA : Off A l.length m) (hDA : Off DA D.length m) (hi : i < l.length) :
    Calls Try.prog 145 #[.pointer (some ⟨q, 0, none⟩), .int .i64 i] w (MPathPost w b t m n T S D l[i] i) := by
  have HBK := Lib.hid (hb.alloc (.cells #[.int .i64 0, .string ⟨#[]⟩, .string ⟨#[]⟩, .slice none 0 0] 179))
  have HX := Lib.hid (hx.alloc (.cells #[.int .i64 0, .string ⟨#[]⟩, .string ⟨#[]⟩, .slice none 0 0] 179))
  have hbl := (Below.refl w.heap.size w).alloc (Nat.le_refl _) (.cells #[.int .i64 0, .string ⟨#[]⟩, .string ⟨#[]⟩, .slice none 0 0] 179)
  have HS := Lib.hid (hs.below hbl)
  have HTS := Lib.hid (hD.below hbl)
  have HR := Lib.hid (Box.new w #[.int .i64 0, .string ⟨#[]⟩, .string ⟨#[]⟩, .slice none 0 0] 179)
  have HBL := Lib.hid hbl
  have hql := hx.lt
  have HA := Lib.hid hA
  have HDS := Lib.hid hDs
  have HDA := Lib.hid hDA
  have hml := hb.tm.lt
  have HLT := Lib.hid hb.all_lt
  have hfit := hs.fits
  obtain ⟨a, rfl, e0, e1⟩ := HS.out.elem i hi
  have hA0 : a.block < w.heap.size := hs.row_lt (by omega) _ rfl
  obtain ⟨x, hx1⟩ : ∃ x, x = l[i] := ⟨_, rfl⟩
  rw [← hx1] at e0 e1 ⊢
  clear hx1 hb hx hbl hs hD hA hDs hDA
  obtain ⟨key, val⟩ := x
  simp only at e0 e1
  have hi0 : (0 : Int) ≤ (i : Int) := by omega
  have hi1 : (i : Int) < (l.length : Int) := by omega
  go_enter Try.func145, Try.ntmps145
  go_wp2_with fail
  have hst := HTS.out.drew
  have hbk := HBK.out.drew
  obtain ⟨k0, k1, k2, f0, f1, f2⟩ := Box.facts3 (HX.out.drew)
  have r0 := HR.out.drew
  have hal : a.block < w.heap.size := hA0
  have han : (a.add (i * 2)).block ≠ w.heap.size := by rw [Sl.add_block]; omega
  have e0d : (w.alloc (.cells #[.int .i64 0, .string ⟨#[]⟩, .string ⟨#[]⟩, .slice none 0 0] 179)).drew.cell? (a.add (i * 2)) = some (.string key) := e0
  have e1d : (w.alloc (.cells #[.int .i64 0, .string ⟨#[]⟩, .string ⟨#[]⟩, .slice none 0 0] 179)).drew.cell? ⟨(a.add (i * 2)).block, (a.add (i * 2)).off + 1, none⟩ = some (.string val) := e1
  have hab := World.block_lt_of_cell? _ _ e0d
  have ham := HA.out (by omega) a.block rfl
  have hqn : q ≠ w.heap.size := by omega
  have HABK := Lib.hid (show (a.add (i * 2)).block = a.block from Sl.add_block _ _)
  go_region_held3 (fun w' => w'.cell? ⟨q, 0, none⟩ = some (.pointer (some ⟨b, 0, none⟩)) ∧ w'.cell? ⟨q, 1, none⟩ = some (.slice (some a) l.length c) ∧ w'.cell? ⟨q, 2, none⟩ = some (.slice DA D.length dc) ∧ w'.cell? (a.add (i * 2)) = some (.string key) ∧ w'.cell? ⟨(a.add (i * 2)).block, (a.add (i * 2)).off + 1, none⟩ = some (.string val)) (first | exact ⟨k0, k1, k2, e0d, e1d⟩ | exact ⟨g0, g1, g2, g3, g4⟩ | exact ⟨keep4 g0 hqn, keep4 g1 hqn, keep4 g2 hqn, keep4 g3 han, keep4 g4 han⟩) (first | (go_at_call 182; refine (sides_calls b t m n S D.length T DA dc D i _ rfl hbk (by omega) hst (by omega) (by omega) (by omega) HDS.out HDA.out).mono ?_; rintro e w2 ⟨T1, A1, c1, L1, rfl, q1, ex1, l1, t1, ch1, kk1, o1⟩; have hz1 : w.heap.size + 1 ≤ w2.heap.size := (by have := ch1.size; simpa using this); have HX2 := Box.ch HX.out.drew ch1 HX.out.drew.lt (by omega); obtain ⟨g0, g1, g2, _⟩ := Box.facts3 HX2; have g3 := (ch1.cell hab (by rw [HABK.out]; exact ham)).trans e0d; have g4 := (ch1.cell (p := ⟨(a.add (i * 2)).block, (a.add (i * 2)).off + 1, none⟩) hab (by rw [HABK.out]; exact ham)).trans e1d; have r2 := Box.ch r0 ch1 r0.lt (by omega); obtain ⟨x0, x1, x2, x3, y0, y1, y2, y3⟩ := Box.facts4 r2))
  all_goals go_wp2
  all_goals
    have hlt := HLT.out
    have hbx := box_fill4 r2 (x := .int .i64 i) (y := .string key) (z := .string val) (t := .slice A1 L1.length c1)
    obtain ⟨d0, d1, d2, d3⟩ := box4 hbx
    refine bodyPost_ret (v := .agg #[.int .i64 i, .string key, .string val, .slice A1 L1.length c1]) (by simp [results, Try.results145, go_sem, d0, d1, d2, d3]) rfl ?_
    have hch : Ch w.heap.size (· = m) w w2 := ((Ch.of_below HBL.out).drew).step ch1 (by simp) (fun _ _ e => e)
    refine ⟨T1, A1, c1, L1, rfl, q1, ex1, by omega, t1, ?_, ?_, ?_⟩
    · exact (((hch.setCell (p := ⟨w.heap.size, 0, none⟩) (.inl (Nat.le_refl _)) _).setCell (p := ⟨w.heap.size, 1, none⟩) (.inl (Nat.le_refl _)) _).setCell (p := ⟨w.heap.size, 2, none⟩) (.inl (Nat.le_refl _)) _).setCell (p := ⟨w.heap.size, 3, none⟩) (.inl (Nat.le_refl _)) _
    · have hf : w.heap.size ≠ b ∧ w.heap.size ≠ t ∧ w.heap.size ≠ m ∧ w.heap.size ≠ n := by omega
      exact (((kk1.setCell (p := ⟨w.heap.size, 0, none⟩) hf _).setCell (p := ⟨w.heap.size, 1, none⟩) hf _).setCell (p := ⟨w.heap.size, 2, none⟩) hf _).setCell (p := ⟨w.heap.size, 3, none⟩) hf _
    · exact own_base (ownsRow_setCell_below (ownsRow_setCell_below (ownsRow_setCell_below (ownsRow_setCell_below o1 (a := ⟨w.heap.size, 0, none⟩) (by simp) _) (a := ⟨w.heap.size, 1, none⟩) (by simp) _) (a := ⟨w.heap.size, 2, none⟩) (by simp) _) (a := ⟨w.heap.size, 3, none⟩) (by simp) _) (by simp)
end Go.Proofs.Ytfgpchffkpomoaa.Kd
