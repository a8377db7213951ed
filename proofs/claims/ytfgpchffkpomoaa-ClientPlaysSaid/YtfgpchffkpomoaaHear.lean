/- A rightly signed reply is laid and taken: both calls; the consortium of an example: the walks. -/
import Derived.Test.YtfgpchffkpomoaaRecv
import Derived.Test.YtfgpchffkpomoaaReq
import Derived.Test.YtfgpchffkpomoaaCliNew
import Derived.Test.YtfgpchffkpomoaaRound
namespace Go.Proofs.Ytfgpchffkpomoaa
set_option linter.unusedSimpArgs false
set_option linter.unusedVariables false
open Go.RowKit

/-- What a client does with a rightly signed reply. -/
def hears (y : Cl) (who client stamp : Int) (text : ByteArray) : Bool × Cl :=
  if y.waits = false ∨ 3 * y.F < who then (false, y) else hearE y who (cliB 10 client stamp text)
theorem hear_both (x g K b t m n : Nat) (T : List ByteArray) (S : List Wd) (y : Cl) (AA : Option Addr) (ac : Nat) (who client stamp : Int) (text : ByteArray) (f : Nat) (w : World) (h : CS w x g K b t m n T S y AA ac) (hS : S.length ≤ 100000000) (hw : 0 ≤ who ∧ who ≤ 255) (hc : 0 ≤ client ∧ client ≤ 15) (hs : 1 ≤ stamp ∧ stamp ≤ 1099511627776) (ht : text.size ≤ 256) (hf : y.F = (f : Int)) (hf4 : f ≤ 4) (htl : y.told.length ≤ 1000) (hal : y.ans.length ≤ 100000) :
    ∃ s S', S'.length ≤ S.length + 1 ∧
      Calls Try.prog 70 #[.pointer (some ⟨b, 0, none⟩), .int .i64 who, .int .i64 client, .int .i64 stamp, .string text] w (fun e w1 => e = .returned (.string s) ∧ CS w1 x g K b t m n T S' y AA ac ∧ Ch w.heap.size (· = n) w w1) ∧
      ∀ w1, CS w1 x g K b t m n T S' y AA ac → Calls Try.prog 69 #[.pointer (some ⟨x, 0, none⟩), .string s] w1 (RecvPost w1 x g K b t m n T S' AA (hears y who client stamp text)) := by
  obtain ⟨sg, S', he, hsd, hl⟩ := reply_said (S := S) hw hc hs ht
  have hpl := putSg_len hsd.fits
  have hfb := (fitsB_iff sg).1 hsd.fits
  refine ⟨bs (putSg sg), S', hl, ?_, fun w1 h1 => ?_⟩
  · refine (reply_calls b t m n T S who client stamp text sg S' w h.bk (by omega) he hsd.fits).mono ?_
    rintro e w1 ⟨rfl, hc1, hk1⟩
    have h1 := h.ne
    have h2 := h.lt
    exact ⟨rfl, h.sign hc1 (Nat.le_refl _) ⟨by omega, by omega, fun k h3 h4 => by omega⟩ hk1, hc1⟩
  · have := recv_calls x g K b t m n T S' y AA ac (bs (putSg sg)) f w1 h1 (by omega) (by rw [bs_size]; simp only [maxLen]; omega) hf hf4 htl hal
    rw [recv_said hsd y] at this
    exact this

/-- A consortium with so many faults. -/
def faultsN (n : Int) : Nat := 1 + rnd n 4
theorem faultsN_le (n : Int) : 1 ≤ faultsN n ∧ faultsN n ≤ 4 := by have := rnd_lt n (m := 4) (by decide); unfold faultsN; omega
set_option maxRecDepth 100000 in
theorem config_calls (n : Int) (w : World) : Calls Try.prog 65 #[.int .i64 n] w (fun e w' => e = .returned (.agg #[.int .i64 (faultsN n : Int), .int .i64 3, .int .i64 2, .int .i64 5]) ∧ Below w.heap.size w w') := by
  have hr := rnd_lt n (m := 4) (by decide)
  have HA := Lib.hid (fun w => around12_calls n 4 w (by decide) (by decide))
  unfold RndPost at HA
  have HF := Lib.hid (show ((faultsN n : Nat) : Int) = 1 + (rnd n 4 : Int) by unfold faultsN; omega)
  obtain ⟨r, hrr⟩ : ∃ r, r = rnd n 4 := ⟨_, rfl⟩
  rw [← hrr] at HA hr HF
  have hwr : IntKind.i64.wrap (1 + (r : Int)) = 1 + (r : Int) := wrap_near _ (by omega) (by omega)
  have HX := Lib.hid (Box.new w #[.int .i64 0, .int .i64 0, .int .i64 0, .int .i64 0] 104)
  obtain ⟨k0, k1, k2, k3, f0, f1, f2, f3⟩ := Box.facts4 HX.out
  rw [HF.out]
  clear hrr
  go_enter Try.func65, Try.ntmps65
  go_wp2_with fail
  refine (HA.out _).mono ?_
  rintro e wx ⟨rfl, hwx⟩
  obtain rfl := hwx.symm
  go_wp2
  obtain ⟨j0, j1, j2, j3, -⟩ := Box.facts4 (Box.new w #[.int .i64 (1 + (r : Int)), .int .i64 3, .int .i64 2, .int .i64 5] 104)
  refine bodyPost_ret (v := .agg #[.int .i64 (1 + (r : Int)), .int .i64 3, .int .i64 2, .int .i64 5]) (by simp [results, Try.results65, go_sem, j0, j1, j2, j3]) rfl ?_
  exact ⟨rfl, (Below.refl _ _).alloc (Nat.le_refl _) _⟩
theorem fits_config (n : Int) {id : Int} (h : 0 ≤ id ∧ id ≤ 2) : (fitsC (faultsN n : Int) 3 2 5 && (decide (0 ≤ id) && decide (id < 3))) = true := by
  have := faultsN_le n
  unfold fitsC
  simp
  omega
theorem own_some {w : World} {base n : Nat} {e : TypeId} {size : Nat} {A : Option Addr} {c : Nat} {xs : List Value} (h : w.ownsRow base e size (.slice A n c) n xs) (hn : 0 < n) : ∃ g, A = some ⟨g, 0, none⟩ := by
  rcases h.2 with ⟨_, h0⟩ | ⟨g, cap, cur, hv, _⟩
  · omega
  · exact ⟨g, (show A = some ⟨g, 0, none⟩ ∧ c = cap by simpa using hv).1⟩
theorem eqAn (a b : Int) (x y : ByteArray) (w : World) : (Op.equalIn 10000 118 (.agg #[.int .i64 a, .string x]) (.agg #[.int .i64 b, .string y])).run Try.prog w = .ok (a == b && x.toList == y.toList) w := by
  rw [show (10000 : Nat) = 9999 + 1 from rfl, run_equalIn_struct (P := Try.prog) w 9999 118 _ _ (by kernel_rfl) (by kernel_rfl)]
  simp only [Program.fieldsOf, Try.underlying118]
  simp [Op.eqFields, go_sem]
  by_cases h1 : a = b <;> by_cases h2 : x.toList = y.toList <;> simp [h1, h2]
end Go.Proofs.Ytfgpchffkpomoaa
