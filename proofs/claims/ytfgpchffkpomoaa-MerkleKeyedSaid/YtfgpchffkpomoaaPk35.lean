/- Texts of this proof, several in one file; each says ahead of it what it proves. -/
import Derived.Test.YtfgpchffkpomoaaPk01
import Derived.Deep.MidRow
import Derived.Deep.Cut
/- SHA-256 and its HMAC, in plain words. -/
namespace Go.Proofs.Ytfgpchffkpomoaa
set_option linter.unusedSimpArgs false
set_option linter.unusedVariables false
open Go.RowKit

abbrev W32 := BitVec 32
def sgA (x : W32) : W32 := x.rotateRight 7 ^^^ x.rotateRight 18 ^^^ (x >>> 3)
def sgB (x : W32) : W32 := x.rotateRight 17 ^^^ x.rotateRight 19 ^^^ (x >>> 10)
def sm0 (x : W32) : W32 := x.rotateRight 2 ^^^ x.rotateRight 13 ^^^ x.rotateRight 22
def sm1 (x : W32) : W32 := x.rotateRight 6 ^^^ x.rotateRight 11 ^^^ x.rotateRight 25
def choi (e f g : W32) : W32 := (e &&& f) ^^^ (~~~e &&& g)
def majo (a b c : W32) : W32 := (a &&& b) ^^^ (a &&& c) ^^^ (b &&& c)
/-- The words of a block, drawn out to 64. -/
def sched (b : Nat → W32) (i : Nat) : W32 :=
  if _h : i < 16 then b i else sched b (i - 16) + sgA (sched b (i - 15)) + sched b (i - 7) + sgB (sched b (i - 2))
  termination_by i
  decreasing_by all_goals omega
theorem sched_lo {b : Nat → W32} {i : Nat} (h : i < 16) : sched b i = b i := by rw [sched, dif_pos h]
theorem sched_hi {b : Nat → W32} {i : Nat} (h : ¬ i < 16) : sched b i = sched b (i - 16) + sgA (sched b (i - 15)) + sched b (i - 7) + sgB (sched b (i - 2)) := by rw [sched, dif_neg h]
/-- Eight words. -/
structure Oct where
  a : W32
  b : W32
  c : W32
  d : W32
  e : W32
  f : W32
  g : W32
  h : W32
def Oct.nth (v : Oct) : Nat → W32
  | 0 => v.a | 1 => v.b | 2 => v.c | 3 => v.d | 4 => v.e | 5 => v.f | 6 => v.g | _ => v.h
def kTab : List Nat := [
  0x428a2f98, 0x71374491, 0xb5c0fbcf, 0xe9b5dba5, 0x3956c25b, 0x59f111f1, 0x923f82a4, 0xab1c5ed5,
  0xd807aa98, 0x12835b01, 0x243185be, 0x550c7dc3, 0x72be5d74, 0x80deb1fe, 0x9bdc06a7, 0xc19bf174,
  0xe49b69c1, 0xefbe4786, 0x0fc19dc6, 0x240ca1cc, 0x2de92c6f, 0x4a7484aa, 0x5cb0a9dc, 0x76f988da,
  0x983e5152, 0xa831c66d, 0xb00327c8, 0xbf597fc7, 0xc6e00bf3, 0xd5a79147, 0x06ca6351, 0x14292967,
  0x27b70a85, 0x2e1b2138, 0x4d2c6dfc, 0x53380d13, 0x650a7354, 0x766a0abb, 0x81c2c92e, 0x92722c85,
  0xa2bfe8a1, 0xa81a664b, 0xc24b8b70, 0xc76c51a3, 0xd192e819, 0xd6990624, 0xf40e3585, 0x106aa070,
  0x19a4c116, 0x1e376c08, 0x2748774c, 0x34b0bcb5, 0x391c0cb3, 0x4ed8aa4a, 0x5b9cca4f, 0x682e6ff3,
  0x748f82ee, 0x78a5636f, 0x84c87814, 0x8cc70208, 0x90befffa, 0xa4506ceb, 0xbef9a3f7, 0xc67178f2]
def kW (i : Nat) : W32 := BitVec.ofNat 32 (kTab.getD i 0)
def oct0 : Oct := ⟨0x6a09e667, 0xbb67ae85, 0x3c6ef372, 0xa54ff53a, 0x510e527f, 0x9b05688c, 0x1f83d9ab, 0x5be0cd19⟩
def tee (v : Oct) (k w : W32) : W32 := v.h + sm1 v.e + choi v.e v.f v.g + k + w
def you (v : Oct) : W32 := sm0 v.a + majo v.a v.b v.c
def stepO (v : Oct) (k w : W32) : Oct := ⟨tee v k w + you v, v.a, v.b, v.c, v.d + tee v k w, v.e, v.f, v.g⟩
def stepsO (b : Nat → W32) (v : Oct) : Nat → Oct
  | 0 => v
  | n + 1 => stepO (stepsO b v n) (kW n) (sched b n)
def addO (v u : Oct) : Oct := ⟨v.a + u.a, v.b + u.b, v.c + u.c, v.d + u.d, v.e + u.e, v.f + u.f, v.g + u.g, v.h + u.h⟩
def mixO (v : Oct) (b : Nat → W32) : Oct := addO v (stepsO b v 64)
/-- Four bytes, the highest first. -/
def quad (a b c d : UInt8) : W32 := BitVec.ofNat 32 (a.toNat * 16777216 + b.toNat * 65536 + c.toNat * 256 + d.toNat)
def byteD (l : List UInt8) (i : Nat) : UInt8 := l.getD i 0
def wordAt (l : List UInt8) (i : Nat) : W32 := quad (byteD l (4 * i)) (byteD l (4 * i + 1)) (byteD l (4 * i + 2)) (byteD l (4 * i + 3))
/-- All whole blocks of some bytes. -/
def foldB (v : Oct) (l : List UInt8) : Oct :=
  if _h : 64 ≤ l.length then foldB (mixO v (wordAt l)) (l.drop 64) else v
  termination_by l.length
  decreasing_by simp; omega
theorem foldB_more {v : Oct} {l : List UInt8} (h : 64 ≤ l.length) : foldB v l = foldB (mixO v (wordAt l)) (l.drop 64) := by rw [foldB, dif_pos h]
theorem foldB_less {v : Oct} {l : List UInt8} (h : ¬ 64 ≤ l.length) : foldB v l = v := by rw [foldB, dif_neg h]
def zerosTo (n : Nat) : Nat := (119 - n % 64) % 64
def size8 (n : Nat) : List UInt8 := (List.range 8).map fun i => UInt8.ofNat (8 * n / 2 ^ (8 * (7 - i)))
def padB (l : List UInt8) (n : Nat) : List UInt8 := l ++ [128] ++ List.replicate (zerosTo l.length) 0 ++ size8 n
def outW (x : W32) : List UInt8 := [UInt8.ofNat (x.toNat / 16777216), UInt8.ofNat (x.toNat / 65536), UInt8.ofNat (x.toNat / 256), UInt8.ofNat x.toNat]
def outO (v : Oct) : List UInt8 := outW v.a ++ outW v.b ++ outW v.c ++ outW v.d ++ outW v.e ++ outW v.f ++ outW v.g ++ outW v.h
def shaP (s : ByteArray) : ByteArray := ⟨⟨outO (foldB oct0 (padB s.data.toList s.data.toList.length))⟩⟩
theorem outO_len (v : Oct) : (outO v).length = 32 := rfl
theorem shaP_size (s : ByteArray) : (shaP s).size = 32 := rfl

/-! Some bytes ahead. -/
theorem byteD_append {l u : List UInt8} {i : Nat} (h : i < l.length) : byteD (l ++ u) i = byteD l i := by
  unfold byteD
  simp [List.getD, List.getElem?_append_left h]
theorem wordAt_take {l u : List UInt8} (h : 64 ≤ l.length) {i : Nat} (hi : i < 16) : wordAt (l ++ u) i = wordAt l i := by
  unfold wordAt
  rw [byteD_append (by omega), byteD_append (by omega), byteD_append (by omega), byteD_append (by omega)]
theorem sched_congr {a b : Nat → W32} (h : ∀ i, i < 16 → a i = b i) : ∀ i, sched a i = sched b i := by
  intro i
  induction i using Nat.strongRecOn with
  | ind i ih =>
    by_cases hi : i < 16
    · rw [sched_lo hi, sched_lo hi, h i hi]
    · rw [sched_hi hi, sched_hi hi, ih _ (by omega), ih _ (by omega), ih _ (by omega), ih _ (by omega)]
theorem steps_congr {a b : Nat → W32} (h : ∀ i, i < 16 → a i = b i) (v : Oct) : ∀ n, stepsO a v n = stepsO b v n
  | 0 => rfl
  | n + 1 => by rw [stepsO, stepsO, steps_congr h v n, sched_congr h n]
theorem mix_congr {a b : Nat → W32} (h : ∀ i, i < 16 → a i = b i) (v : Oct) : mixO v a = mixO v b := by
  unfold mixO
  rw [steps_congr h]
/-- Whole blocks ahead are taken first. -/
theorem foldB_append (l : List UInt8) : ∀ (v : Oct) (u : List UInt8), l.length % 64 = 0 → foldB v (l ++ u) = foldB (foldB v l) u := by
  have H : ∀ n (l : List UInt8), l.length = n → ∀ (v : Oct) (u : List UInt8), l.length % 64 = 0 → foldB v (l ++ u) = foldB (foldB v l) u := by
    intro n
    induction n using Nat.strongRecOn with
    | ind n ih =>
      intro l hl v u hm
      subst hl
      by_cases h : 64 ≤ l.length
      · rw [foldB_more (by simp; omega), foldB_more (l := l) h, List.drop_append_of_le_length h, mix_congr (fun i hi => wordAt_take h hi)]
        exact ih _ (by simp; omega) (l.drop 64) rfl _ u (by simp; omega)
      · obtain rfl : l = [] := List.eq_nil_of_length_eq_zero (by omega)
        rw [foldB_less (l := []) (by simp)]
        rfl
  exact fun v u hm => H _ l rfl v u hm
/-- What is left behind the whole blocks. -/
def restB (l : List UInt8) : List UInt8 := l.drop (l.length / 64 * 64)
theorem rest_len (l : List UInt8) : (restB l).length = l.length % 64 := by
  unfold restB
  rw [List.length_drop]
  omega
theorem foldB_whole (v : Oct) (l : List UInt8) : foldB v (l.take (l.length / 64 * 64)) = foldB v l := by
  have H : ∀ n (l : List UInt8), l.length = n → ∀ v : Oct, foldB v (l.take (l.length / 64 * 64)) = foldB v l := by
    intro n
    induction n using Nat.strongRecOn with
    | ind n ih =>
      intro l hl v
      subst hl
      by_cases h : 64 ≤ l.length
      · have e : l.take (l.length / 64 * 64) = l.take 64 ++ (l.drop 64).take ((l.drop 64).length / 64 * 64) := by
          rw [List.length_drop, show l.length / 64 * 64 = 64 + (l.length - 64) / 64 * 64 by omega, List.take_add]
        rw [e, foldB_append _ _ _ (by simp; omega), ih _ (by simp; omega) (l.drop 64) rfl, foldB_more (l := l) h]
        congr 1
        rw [foldB_more (by simp; omega), foldB_less (by simp)]
        refine mix_congr (fun i hi => ?_) v
        have := wordAt_take (l := l.take 64) (u := l.drop 64) (by simp; omega) hi
        rw [List.take_append_drop] at this
        exact this.symm
      · rw [show l.length / 64 * 64 = 0 by omega, List.take_zero, foldB_less (l := l) h, foldB_less (by simp)]
  exact H _ l rfl v
/-- The sum, blocks first and then the rest. -/
theorem sum_rest (l : List UInt8) : foldB oct0 (padB l l.length) = foldB (foldB oct0 l) (padB (restB l) l.length) := by
  have h1 : padB l l.length = l.take (l.length / 64 * 64) ++ padB (restB l) l.length := by
    unfold padB
    have hz : zerosTo (restB l).length = zerosTo l.length := by unfold zerosTo; rw [rest_len]; omega
    rw [hz]
    unfold restB
    rw [← List.append_assoc, ← List.append_assoc, ← List.append_assoc, List.take_append_drop]
  rw [h1, foldB_append _ _ _ (by rw [List.length_take]; omega), foldB_whole]

/-- The HMAC. -/
def keyP (key : ByteArray) : ByteArray := if 64 < key.size then shaP key else key
def barB (key : ByteArray) (x : UInt8) : List UInt8 := (List.range 64).map fun i => byteD key.data.toList i ^^^ x
def macP (key s : ByteArray) : ByteArray := shaP (⟨⟨barB (keyP key) 92⟩⟩ ++ shaP (⟨⟨barB (keyP key) 54⟩⟩ ++ s))
theorem macP_size (key s : ByteArray) : (macP key s).size = 32 := rfl
end Go.Proofs.Ytfgpchffkpomoaa

/- The bits of SHA-256: what both programs compute on words of 32 bits, in plain words. -/
namespace Go.Proofs.Ytfgpchffkpomoaa
set_option linter.unusedSimpArgs false
set_option linter.unusedVariables false
open Go.RowKit

theorem rot_nat (x : W32) (k : Nat) (_h0 : 0 < k) (h1 : k < 32) : (x.rotateRight k).toNat = (x.toNat / 2 ^ k) ||| (x.toNat * 2 ^ (32 - k) % 4294967296) := by
  rw [BitVec.toNat_rotateRight, Nat.mod_eq_of_lt h1, Nat.shiftRight_eq_div_pow, Nat.shiftLeft_eq]
theorem rot_mod (x : W32) (k : Nat) (h0 : 0 < k) (h1 : k < 32) : ((x.toNat / 2 ^ k) ||| (x.toNat * 2 ^ (32 - k))) % 4294967296 = (x.rotateRight k).toNat := by
  have hx := x.isLt
  rw [rot_nat x k h0 h1, show (4294967296 : Nat) = 2 ^ 32 from rfl, Nat.or_mod_two_pow, Nat.mod_eq_of_lt (a := x.toNat / 2 ^ k)]
  exact Nat.lt_of_le_of_lt (Nat.div_le_self _ _) hx
theorem shr_nat (x : W32) (k : Nat) : (x >>> k).toNat = x.toNat / 2 ^ k := by
  rw [BitVec.toNat_ushiftRight, Nat.shiftRight_eq_div_pow]
/-- Both ways to choose, and both ways to take the most. -/
theorem choi_or (e f g : W32) : (choi e f g).toNat = (e.toNat &&& f.toNat) ||| ((4294967295 - e.toNat) &&& g.toNat) := by
  have h : choi e f g = (e &&& f) ||| (~~~e &&& g) := by
    unfold choi
    ext i hi
    simp only [BitVec.getElem_xor, BitVec.getElem_and, BitVec.getElem_or, BitVec.getElem_not]
    cases e[i] <;> cases f[i] <;> cases g[i] <;> rfl
  rw [h, BitVec.toNat_or, BitVec.toNat_and, BitVec.toNat_and, BitVec.toNat_not]
theorem majo_or (a b c : W32) : (majo a b c).toNat = (a.toNat &&& b.toNat) ||| (a.toNat &&& c.toNat) ||| (b.toNat &&& c.toNat) := by
  have h : majo a b c = (a &&& b) ||| (a &&& c) ||| (b &&& c) := by
    unfold majo
    ext i hi
    simp only [BitVec.getElem_xor, BitVec.getElem_and, BitVec.getElem_or]
    cases a[i] <;> cases b[i] <;> cases c[i] <;> rfl
  rw [h, BitVec.toNat_or, BitVec.toNat_or, BitVec.toNat_and, BitVec.toNat_and, BitVec.toNat_and]

/-! Words of 32 bits as the program has them. -/
def wv (x : W32) : Value := .int .u32 (x.toNat : Int)
def iw (x : W32) : Value := .int .i64 (x.toNat : Int)
theorem w_lt (x : W32) : (0 : Int) ≤ (x.toNat : Int) ∧ (x.toNat : Int) < 4294967296 := by have := x.isLt; omega
theorem w_add (x y : W32) : ((x.toNat : Int) + (y.toNat : Int)) % 4294967296 = ((x + y).toNat : Int) := by
  rw [BitVec.toNat_add]
  omega
theorem w_sum (x : W32) (n : Int) : (n % 4294967296 + (x.toNat : Int)) % 4294967296 = (n + (x.toNat : Int)) % 4294967296 := by omega
theorem u32_wrap (x : W32) : IntKind.u32.wrap (x.toNat : Int) = (x.toNat : Int) := by
  have := x.isLt
  rw [IntKind.wrap_u32]
  omega
theorem w_int (x : W32) : BitVec.ofInt 32 (x.toNat : Int) = x := by simp
theorem w_and (x y : W32) : bits .and .u32 (x.toNat : Int) (y.toNat : Int) = ((x &&& y).toNat : Int) := by
  show IntKind.u32.wrap ((BitVec.ofInt 32 (x.toNat : Int) &&& BitVec.ofInt 32 (y.toNat : Int)).toNat : Int) = _
  rw [w_int, w_int]
  exact u32_wrap _
theorem w_or (x y : W32) : bits .or .u32 (x.toNat : Int) (y.toNat : Int) = ((x ||| y).toNat : Int) := by
  show IntKind.u32.wrap ((BitVec.ofInt 32 (x.toNat : Int) ||| BitVec.ofInt 32 (y.toNat : Int)).toNat : Int) = _
  rw [w_int, w_int]
  exact u32_wrap _
theorem w_xor (x y : W32) : bits .xor .u32 (x.toNat : Int) (y.toNat : Int) = ((x ^^^ y).toNat : Int) := by
  show IntKind.u32.wrap ((BitVec.ofInt 32 (x.toNat : Int) ^^^ BitVec.ofInt 32 (y.toNat : Int)).toNat : Int) = _
  rw [w_int, w_int]
  exact u32_wrap _
/-! And as the document has them. -/
theorem i64_wrap (n : Nat) (h : n < 2 ^ 63) : IntKind.i64.wrap (n : Int) = (n : Int) := by
  rw [IntKind.wrap_i64]
  omega
theorem i_and (a b : Nat) (ha : a < 2 ^ 63) (hb : b < 2 ^ 63) : bits .and .i64 (a : Int) (b : Int) = ((a &&& b : Nat) : Int) := (bits_nat .i64 63 (by decide) (fun n h0 h1 => by rw [IntKind.wrap_i64]; omega) a b ha hb).1
theorem i_or (a b : Nat) (ha : a < 2 ^ 63) (hb : b < 2 ^ 63) : bits .or .i64 (a : Int) (b : Int) = ((a ||| b : Nat) : Int) := (bits_nat .i64 63 (by decide) (fun n h0 h1 => by rw [IntKind.wrap_i64]; omega) a b ha hb).2
theorem i_xor (a b : Nat) (ha : a < 2 ^ 63) (hb : b < 2 ^ 63) : bits .xor .i64 (a : Int) (b : Int) = ((a ^^^ b : Nat) : Int) := by
  have e1 : a % 2 ^ 64 = a := Nat.mod_eq_of_lt (by omega)
  have e2 : b % 2 ^ 64 = b := Nat.mod_eq_of_lt (by omega)
  have h := Nat.xor_lt_two_pow ha hb
  show IntKind.i64.wrap ((BitVec.ofInt 64 (a : Int) ^^^ BitVec.ofInt 64 (b : Int)).toNat : Int) = _
  rw [BitVec.ofInt_natCast, BitVec.ofInt_natCast, BitVec.toNat_xor, BitVec.toNat_ofNat, BitVec.toNat_ofNat, e1, e2]
  exact i64_wrap _ h
theorem mask32 (n : Nat) (h : n < 2 ^ 63) : bits .and .i64 (n : Int) 4294967295 = ((n % 4294967296 : Nat) : Int) := by
  rw [show (4294967295 : Int) = ((4294967295 : Nat) : Int) from rfl, i_and n 4294967295 h (by decide), show (4294967295 : Nat) = 2 ^ 32 - 1 from rfl, Nat.and_two_pow_sub_one_eq_mod]
end Go.Proofs.Ytfgpchffkpomoaa

/- SHA-256's small functions, of the program and of the document: the walks. -/
namespace Go.Proofs.Ytfgpchffkpomoaa
set_option linter.unusedSimpArgs false
set_option linter.unusedVariables false
open Go.RowKit

def Quiet1 (v : Value) (w : World) (e : Ending) (w' : World) : Prop := e = .returned v ∧ ∃ m, w' = w.drewN m
/-- One value, and nothing changed. -/
def Same1 (v : Value) (w : World) (e : Ending) (w' : World) : Prop := e = .returned v ∧ w' = w
def rotR (x : W32) (k : Nat) : W32 := x.rotateRight k
theorem rot_bits (x : W32) (k j : Nat) (h0 : 0 < k) (h1 : k < 32) (hj : j + k = 32) : bits .or .u32 ((x.toNat : Int) * 2 ^ j % 4294967296) ((x.toNat : Int) / 2 ^ k) = ((rotR x k).toNat : Int) := by
  have hx := x.isLt
  obtain rfl : j = 32 - k := by omega
  unfold rotR
  rw [rot_nat x k h0 h1, Nat.or_comm]
  have e1 : (x.toNat : Int) * 2 ^ (32 - k) % 4294967296 = ((x.toNat * 2 ^ (32 - k) % 4294967296 : Nat) : Int) := by
    rw [Int.natCast_emod, Int.natCast_mul, Int.natCast_pow]; rfl
  have e2 : (x.toNat : Int) / 2 ^ k = ((x.toNat / 2 ^ k : Nat) : Int) := by
    rw [Int.natCast_ediv, Int.natCast_pow]; rfl
  rw [e1, e2]
  exact (bits_nat .u32 32 (by decide) (fun n h0 h1 => by rw [IntKind.wrap_u32]; omega) _ _ (Nat.mod_lt _ (by decide)) (Nat.lt_of_le_of_lt (Nat.div_le_self _ _) hx)).2
theorem rot_amount (k j : Nat) (h0 : 0 < k) (hj : j + k = 32) : bits .and .u64 (IntKind.u64.wrap (-(k : Int))) 31 = (j : Int) := by
  have : ∀ k : Fin 32, 0 < k.val → bits .and .u64 (IntKind.u64.wrap (-(k.val : Int))) 31 = ((32 - k.val : Nat) : Int) := by decide +kernel
  rcases Nat.lt_or_ge k 32 with h | h
  · have h2 := this ⟨k, h⟩ h0
    simp only at h2
    rw [h2]
    omega
  · obtain rfl : k = 32 := by omega
    obtain rfl : j = 0 := by omega
    decide +kernel
set_option maxRecDepth 100000 in
theorem rot_calls (x : W32) (z : Int) (k : Nat) (hz : z = -(k : Int)) (h0 : 0 < k) (h1 : k < 32) (w : World) : Calls Try.prog 227 #[wv x, .int .i64 z] w (Same1 (wv (rotR x k)) w) := by
  obtain ⟨j, hj⟩ : ∃ j, j + k = 32 := ⟨32 - k, by omega⟩
  have HR := Lib.hid (rot_bits x k j h0 h1 hj)
  have hu : bits .and .u64 (IntKind.u64.wrap (-(k : Int))) 31 = (j : Int) := rot_amount k j h0 hj
  have hw : IntKind.u64.wrap (32 - (j : Int)) = (k : Int) := by simp [IntKind.wrap, IntKind.bits, IntKind.signed]; omega
  subst hz
  unfold wv
  obtain ⟨Y, hY⟩ : ∃ Y, Y = (rotR x k).toNat := ⟨_, rfl⟩
  obtain ⟨X, hX⟩ : ∃ X, X = x.toNat := ⟨_, rfl⟩
  rw [← hY] at HR ⊢
  rw [← hX] at HR ⊢
  clear hX hY
  go_enter Try.func227, Try.ntmps227
  go_wp2
  go_ret
  exact ⟨congrArg (fun z => Ending.returned (Value.int .u32 z)) HR.out, rfl⟩
set_option maxRecDepth 100000 in
theorem word_calls (n : Nat) (h : n < 2 ^ 63) (w : World) : Calls Try.prog 129 #[.int .i64 (n : Int)] w (Same1 (.int .i64 ((n % 4294967296 : Nat) : Int)) w) := by
  have hm := mask32 n h
  go_enter Try.func129, Try.ntmps129
  go_wp2
  go_ret
  exact ⟨rfl, rfl⟩
set_option maxRecDepth 100000 in
theorem turn_calls (x : W32) (k : Nat) (h0 : 1 < k) (h1 : k < 32) (w : World) : Calls Try.prog 128 #[iw x, .int .i64 (k : Int)] w (Quiet1 (iw (rotR x k)) w) := by
  obtain ⟨j, hj⟩ : ∃ j, j + k = 32 := ⟨32 - k, by omega⟩
  obtain ⟨r, hr⟩ : ∃ r, r = rotR x k := ⟨_, rfl⟩
  rw [← hr]
  have hw : IntKind.i64.wrap (32 - (k : Int)) = (j : Int) := by rw [IntKind.wrap_i64]; omega
  have hx := x.isLt
  have hp : x.toNat * 2 ^ j < 2 ^ 62 := by
    have h2 : 2 ^ j ≤ 2 ^ 30 := Nat.pow_le_pow_right (by omega) (by omega)
    calc x.toNat * 2 ^ j ≤ x.toNat * 2 ^ 30 := Nat.mul_le_mul_left _ h2
      _ < 2 ^ 32 * 2 ^ 30 := Nat.mul_lt_mul_of_pos_right hx (by decide)
      _ = 2 ^ 62 := by decide
  have hq : x.toNat / 2 ^ k < 2 ^ 62 := by have := Nat.div_le_self x.toNat (2 ^ k); omega
  have hwp : wrap64 ((x.toNat : Int) * 2 ^ j) = ((x.toNat * 2 ^ j : Nat) : Int) := by
    rw [show (x.toNat : Int) * 2 ^ j = ((x.toNat * 2 ^ j : Nat) : Int) by rw [Int.natCast_mul, Int.natCast_pow]; rfl]
    unfold wrap64
    omega
  have hqq : (x.toNat : Int) / 2 ^ k = ((x.toNat / 2 ^ k : Nat) : Int) := by rw [Int.natCast_ediv, Int.natCast_pow]; rfl
  have hor : bits .or .i64 ((x.toNat : Int) / 2 ^ k) (wrap64 ((x.toNat : Int) * 2 ^ j)) = ((x.toNat / 2 ^ k ||| x.toNat * 2 ^ j : Nat) : Int) := by
    rw [hwp, hqq, i64_or_nat _ _ hq hp]
  have hmod : (x.toNat / 2 ^ k ||| x.toNat * 2 ^ j) % 4294967296 = (rotR x k).toNat := by
    obtain rfl : j = 32 - k := by omega
    exact rot_mod x k (by omega) h1
  have HW := Lib.hid (fun w => word_calls (x.toNat / 2 ^ k ||| x.toNat * 2 ^ j) (Nat.lt_of_lt_of_le (Nat.or_lt_two_pow hq hp) (by decide)) w)
  rw [hmod] at HW
  rw [← hor, ← hr] at HW
  unfold Same1 at HW
  unfold iw
  clear hor hmod hq hp hwp hqq hr
  obtain ⟨X, hX⟩ : ∃ X, X = x.toNat := ⟨_, rfl⟩
  obtain ⟨Y, hY⟩ : ∃ Y, Y = r.toNat := ⟨_, rfl⟩
  rw [← hX] at HW ⊢
  rw [← hY] at HW ⊢
  clear hX hY hx
  go_enter Try.func128, Try.ntmps128
  go_wp2_with fail
  go_quiet (first | (go_at_call 129; exact Calls.quiet_of_same (HW.out _)))
  go_wp2
  go_ret
  exact ⟨rfl, _, rfl⟩
end Go.Proofs.Ytfgpchffkpomoaa

/- SHA-256's table of numbers, of the program: the walk. -/
namespace Go.Proofs.Ytfgpchffkpomoaa
set_option linter.unusedSimpArgs false
set_option linter.unusedVariables false
open Go.RowKit

def kArr : Array Value := #[.int .u32 1116352408, .int .u32 1899447441, .int .u32 3049323471, .int .u32 3921009573, .int .u32 961987163, .int .u32 1508970993, .int .u32 2453635748, .int .u32 2870763221, .int .u32 3624381080, .int .u32 310598401, .int .u32 607225278, .int .u32 1426881987, .int .u32 1925078388, .int .u32 2162078206, .int .u32 2614888103, .int .u32 3248222580, .int .u32 3835390401, .int .u32 4022224774, .int .u32 264347078, .int .u32 604807628, .int .u32 770255983, .int .u32 1249150122, .int .u32 1555081692, .int .u32 1996064986, .int .u32 2554220882, .int .u32 2821834349, .int .u32 2952996808, .int .u32 3210313671, .int .u32 3336571891, .int .u32 3584528711, .int .u32 113926993, .int .u32 338241895, .int .u32 666307205, .int .u32 773529912, .int .u32 1294757372, .int .u32 1396182291, .int .u32 1695183700, .int .u32 1986661051, .int .u32 2177026350, .int .u32 2456956037, .int .u32 2730485921, .int .u32 2820302411, .int .u32 3259730800, .int .u32 3345764771, .int .u32 3516065817, .int .u32 3600352804, .int .u32 4094571909, .int .u32 275423344, .int .u32 430227734, .int .u32 506948616, .int .u32 659060556, .int .u32 883997877, .int .u32 958139571, .int .u32 1322822218, .int .u32 1537002063, .int .u32 1747873779, .int .u32 1955562222, .int .u32 2024104815, .int .u32 2227730452, .int .u32 2361852424, .int .u32 2428436474, .int .u32 2756734187, .int .u32 3204031479, .int .u32 3329325298]
theorem kTab_small (i : Nat) (hi : i < 64) : kTab.getD i 0 % 4294967296 = kTab.getD i 0 := by
  have : ∀ i : Fin 64, kTab.getD i.val 0 % 4294967296 = kTab.getD i.val 0 := by decide +kernel
  exact this ⟨i, hi⟩
theorem kArr_get (i : Nat) (hi : i < 64) : kArr[i]? = some (wv (kW i)) := by
  have h : kArr = (kTab.map (fun n : Nat => Value.int .u32 (n : Int))).toArray := rfl
  rw [h, List.getElem?_toArray, List.getElem?_map, List.getElem?_eq_getElem (by show i < 64; exact hi)]
  show some (Value.int .u32 ((kTab[i]'(by show i < 64; exact hi) : Nat) : Int)) = some (Value.int .u32 (((kW i).toNat : Nat) : Int))
  unfold kW
  rw [BitVec.toNat_ofNat, show (2 : Nat) ^ 32 = 4294967296 from rfl, kTab_small i hi, List.getD_eq_getElem?_getD, List.getElem?_eq_getElem (by show i < 64; exact hi)]
  rfl
/-- A block that is filled whole. -/
theorem Box.setCells {w : World} {k : Nat} {T : TypeId} : ∀ (vs : List Value) (o : Nat) (cs : Array Value), Box w k cs T → o + vs.length ≤ cs.size → ∃ ds : Array Value, Box (w.setCells k o vs) k ds T ∧ ds.size = cs.size ∧ (∀ i, i < o → ds[i]? = cs[i]?) ∧ ∀ i, i < vs.length → ds[o + i]? = vs[i]? := by
  intro vs
  induction vs generalizing w with
  | nil => exact fun o cs h _ => ⟨cs, h, rfl, fun _ _ => rfl, fun i hi => by simp at hi⟩
  | cons v vs ih =>
    intro o cs h hl
    simp only [List.length_cons] at hl
    obtain ⟨ds, h1, h2, h3, h4⟩ := ih (o + 1) (cs.setIfInBounds o v) (h.set o v) (by rw [Array.size_setIfInBounds]; omega)
    refine ⟨ds, h1, by rw [h2, Array.size_setIfInBounds], fun i hi => ?_, fun i hi => ?_⟩
    · rw [h3 i (by omega), Array.getElem?_setIfInBounds, if_neg (by omega)]
    · cases i with
      | zero =>
        rw [Nat.add_zero, h3 o (by omega), Array.getElem?_setIfInBounds, if_pos rfl, if_pos (by omega)]
        rfl
      | succ i =>
        have := h4 i (by simpa using hi)
        rw [show o + 1 + i = o + (i + 1) by omega] at this
        rw [this]
        rfl
theorem Box.fill {w : World} {k : Nat} {T : TypeId} {cs : Array Value} (h : Box w k cs T) (vs : Array Value) (hs : vs.size = cs.size) : Box (w.setCells k 0 vs.toList) k vs T := by
  obtain ⟨ds, h1, h2, -, h4⟩ := Box.setCells vs.toList 0 cs h (by simp; omega)
  have e : ds = vs := by
    refine Array.ext_getElem? fun i => ?_
    rcases Nat.lt_or_ge i vs.size with hi | hi
    · have := h4 i (by simpa using hi)
      rw [Nat.zero_add] at this
      rw [this]
      simp
    · rw [Array.getElem?_eq_none (by omega), Array.getElem?_eq_none hi]
  rw [← e]
  rw [← e] at h1
  exact h1
theorem Box.there {w : World} {k : Nat} {T : TypeId} {cs : Array Value} (h : Box w k cs T) : w.there k 0 cs.size := fun j hj => by
  rw [Nat.zero_add, h.cell j, h.free j]
  exact ⟨by simp [hj], rfl⟩
theorem Box.range {w : World} {k : Nat} {T : TypeId} {cs : Array Value} (h : Box w k cs T) : w.rangeAt k 0 cs.toList := fun j v hj => by
  rw [Nat.zero_add, h.cell j]
  simpa using hj
theorem below_setCells {B k : Nat} (hB : B ≤ k) : ∀ (vs : List Value) (o : Nat) (w : World), Below B w (w.setCells k o vs)
  | [], _, w => Below.refl _ _
  | v :: vs, o, w => ((Below.refl B w).setCell (p := ⟨k, o, none⟩) hB v).trans (below_setCells hB vs (o + 1) _)
theorem kArr_size : kArr.size = 64 := rfl
theorem kArr_one : kArr.all (·.oneCell') = true := by decide +kernel
theorem wp_of_yield {P : Program} {o : Oper} {a : Act} {w : World} {K : Act → World → Prop} {Q : Exit → Act → World → Prop} {v : Value} (h : (execOp a.eval o).run P w = .ok (.value v) w) (hk : K (a.put o.dst v) w) : o.wp P a w K Q := by
  unfold Oper.wp
  rw [h]
  exact hk
theorem size64 : (Try.prog.info? 292).map (·.size) = some 64 := by kernel_rfl
set_option maxHeartbeats 4000000 in
set_option maxRecDepth 100000 in
theorem rounds_calls (w : World) : Calls Try.prog 228 #[] w fun e w' => e = .returned (.agg kArr) ∧ Below w.heap.size w w' := by
  go_enter Try.func228, Try.ntmps228
  go_upto_region 1 with fail
  obtain ⟨W, hW⟩ : ∃ W, W = w.alloc (.cells #[.int .u32 0, .int .u32 0, .int .u32 0, .int .u32 0, .int .u32 0, .int .u32 0, .int .u32 0, .int .u32 0, .int .u32 0, .int .u32 0, .int .u32 0, .int .u32 0, .int .u32 0, .int .u32 0, .int .u32 0, .int .u32 0, .int .u32 0, .int .u32 0, .int .u32 0, .int .u32 0, .int .u32 0, .int .u32 0, .int .u32 0, .int .u32 0, .int .u32 0, .int .u32 0, .int .u32 0, .int .u32 0, .int .u32 0, .int .u32 0, .int .u32 0, .int .u32 0, .int .u32 0, .int .u32 0, .int .u32 0, .int .u32 0, .int .u32 0, .int .u32 0, .int .u32 0, .int .u32 0, .int .u32 0, .int .u32 0, .int .u32 0, .int .u32 0, .int .u32 0, .int .u32 0, .int .u32 0, .int .u32 0, .int .u32 0, .int .u32 0, .int .u32 0, .int .u32 0, .int .u32 0, .int .u32 0, .int .u32 0, .int .u32 0, .int .u32 0, .int .u32 0, .int .u32 0, .int .u32 0, .int .u32 0, .int .u32 0, .int .u32 0, .int .u32 0] 292) := ⟨_, rfl⟩
  have HB := Lib.hid (show Box W w.heap.size #[.int .u32 0, .int .u32 0, .int .u32 0, .int .u32 0, .int .u32 0, .int .u32 0, .int .u32 0, .int .u32 0, .int .u32 0, .int .u32 0, .int .u32 0, .int .u32 0, .int .u32 0, .int .u32 0, .int .u32 0, .int .u32 0, .int .u32 0, .int .u32 0, .int .u32 0, .int .u32 0, .int .u32 0, .int .u32 0, .int .u32 0, .int .u32 0, .int .u32 0, .int .u32 0, .int .u32 0, .int .u32 0, .int .u32 0, .int .u32 0, .int .u32 0, .int .u32 0, .int .u32 0, .int .u32 0, .int .u32 0, .int .u32 0, .int .u32 0, .int .u32 0, .int .u32 0, .int .u32 0, .int .u32 0, .int .u32 0, .int .u32 0, .int .u32 0, .int .u32 0, .int .u32 0, .int .u32 0, .int .u32 0, .int .u32 0, .int .u32 0, .int .u32 0, .int .u32 0, .int .u32 0, .int .u32 0, .int .u32 0, .int .u32 0, .int .u32 0, .int .u32 0, .int .u32 0, .int .u32 0, .int .u32 0, .int .u32 0, .int .u32 0, .int .u32 0] 292 by rw [hW]; exact Box.new w _ _)
  have HA := Lib.hid (show Below w.heap.size w W by rw [hW]; exact (Below.refl _ _).alloc (Nat.le_refl _) _)
  rw [← hW]
  clear hW
  refine wp_region_list ?_
  refine wpList_plain rfl (fun K hK => ?_)
  refine wp_of_yield (v := .agg kArr) (by kernel_rfl) (hK _ _ ?_)
  clear hK
  simp only [Act.put, List.setIfInBounds_toArray, List.set_cons_zero, List.set_cons_succ]
  refine wpList_store_mid rfl _ _ _ rfl w.heap.size 0 kArr rfl rfl (by rw [kArr_size]; exact HB.out.there) (by rw [kArr_size]; exact size64) kArr_one ?_
  have HF := Lib.hid (HB.out.fill kArr rfl)
  have HA2 := Lib.hid (show Below w.heap.size w (W.setCells w.heap.size 0 kArr.toList) from HA.out.trans (below_setCells (Nat.le_refl _) _ _ _))
  simp only [Act.put]
  obtain ⟨W2, hW2⟩ : ∃ W2, W2 = W.setCells w.heap.size 0 kArr.toList := ⟨_, rfl⟩
  rw [← hW2] at HF HA2 ⊢
  clear hW2 HB HA
  go_wp2_with (with_reducible refine stop_ret ?_)
  refine bodyPost_ret (v := .agg kArr) ?_ rfl ⟨rfl, HA2.out⟩
  have hr := run_loadVar_mid (P := Try.prog) W2 w.heap.size 0 292 kArr.toList _ HF.out.range Try.underlying292 rfl size64
  simp [results, Try.results228, asAddr, hr]
end Go.Proofs.Ytfgpchffkpomoaa
