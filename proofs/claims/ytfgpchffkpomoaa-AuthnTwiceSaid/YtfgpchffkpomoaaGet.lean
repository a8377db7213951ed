/- A number or a text is read at a place: GetInt, GetText. -/
import Derived.Test.YtfgpchffkpomoaaCatch
import Derived.RegionTactic
namespace Go.Proofs.Ytfgpchffkpomoaa
set_option linter.unusedSimpArgs false
set_option linter.unusedVariables false
open Go.RowKit

theorem Rd.new (w : World) (s : ByteArray) (p : Nat) : Rd (w.alloc (.cells #[.string s, .int .i64 p] 241)) w.heap.size s p := ⟨by simp, by simp, by simp⟩

def getInt (s : ByteArray) (at_ : Int) : Int × Int × Int :=
  if 0 ≤ at_ ∧ at_ ≤ s.size then (match num s at_.toNat with | .ok (n, q) => (n, q, 0) | .error c => (0, 0, c)) else (0, 0, 1)
def GetIntPost (r : Int × Int × Int) (w : World) (e : Ending) (w' : World) : Prop := e = .returned (.tuple #[.int .i64 r.1, .int .i64 r.2.1, .int .i64 r.2.2]) ∧ Below w.heap.size w w'


def getText (s : ByteArray) (at_ : Int) : ByteArray × Int × Int :=
  if 0 ≤ at_ ∧ at_ ≤ s.size then (match text s at_.toNat with | .ok (n, q) => (n, q, 0) | .error c => (⟨#[]⟩, 0, c)) else (⟨#[]⟩, 0, 1)
def GetTextPost (r : ByteArray × Int × Int) (w : World) (e : Ending) (w' : World) : Prop := e = .returned (.tuple #[.string r.1, .int .i64 r.2.1, .int .i64 r.2.2]) ∧ Below w.heap.size w w'

end Go.Proofs.Ytfgpchffkpomoaa
