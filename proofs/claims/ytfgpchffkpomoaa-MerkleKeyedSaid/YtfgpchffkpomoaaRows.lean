/-
  No cell of these rows narrows 'for every input' (looked for: loops, veiled, ifaces, maps, wideKeys, modest, calm, conditions, laid).
  DERIVED. THE GIVEN ROWS OF THIS SEAT. 31 by the template 'for every input the law returns true; each argument reads behind the call as it read before'; 0 by the template 'total and deterministic' (their statements: YtfgpchffkpomoaaTotals.lean).
  GIVEN WITH THE SEED: the statements are not yours to turn. If you find one false, say at which input.
  Laid BY PROGRAM, IN A SANDBOX (cutbox-rows.mjs): the forced cells as the released guide's own fill.sh prints them over the translation a58d006265cc282d… (all of the seat's roots in one cut). By AI agents, Wed Nov 11 2026. No macro, syntax, notation, axiom, sorry.
-/
import Derived.Test.YtfgpchffkpomoaaChecked
import GoSem.Claim
import GoSem.ClaimJoined
import GoSem.ClaimMapViews
import Derived.JoinedTies
import Derived.KernelRfl
namespace Go.Proofs.Ytfgpchffkpomoaa
/- THE CELL 'sum', in the pinned program and in every row, IS THE sha256 OF THE DUMP (.gsa) THAT YtfgpchffkpomoaaProg.lean LOADS. Nothing in Lean hashes anything: it is a label: what it is worth is what the hold of that sum in a sandbox is worth. -/
noncomputable def Try.pinned : Pinned := { name := "ytfgpchffkpomoaa", sum := "a58d006265cc282d9159209e4bd14f001ed59a201cdb47b30a637ea0ede69805", checked := Try.checked }
namespace Rows
def none {H : Type} : Left H := { results := [], args := [] }

/-- 'gavellaw04.MerkleRoots': WHATEVER THE INPUT: true; the input reads as it did. -/
def merkleRootsSpec : ChangeSpec := { name := "merkleRoots", fn := fun _ => fun
  | [d] => { results := [.lit (.bool true)], args := [d] }
  | _ => none }
def merkleRootsRow : OpenClaim := { program := "ytfgpchffkpomoaa", sum := "a58d006265cc282d9159209e4bd14f001ed59a201cdb47b30a637ea0ede69805", func := "gavel/gavellaw04.MerkleRoots", spec := "merkleRoots", inPlace := ["internal/bytealg.abigen_runtime_cmpstring"], unfollowed := true, recurses := true, plainKeys := false, apart := false }
def MerkleRootsSaid : Prop := merkleRootsRow.holds Try.pinned (OpenSpec.ofChange merkleRootsSpec)

/-- ITS FALSE NEIGHBOUR: 'it returns false'. Refute it at one input. -/
def merkleRootsWrong : ChangeSpec := { name := "merkleRoots", fn := fun _ => fun
  | [d] => { results := [.lit (.bool false)], args := [d] }
  | _ => none }
def MerkleRootsWrongFalsely : Prop := merkleRootsRow.holds Try.pinned (OpenSpec.ofChange merkleRootsWrong)

/-- 'gavellaw04.MerkleProves': WHATEVER THE INPUT: true; the input reads as it did. -/
def merkleProvesSpec : ChangeSpec := { name := "merkleProves", fn := fun _ => fun
  | [d1, d2] => { results := [.lit (.bool true)], args := [d1, d2] }
  | _ => none }
def merkleProvesRow : OpenClaim := { program := "ytfgpchffkpomoaa", sum := "a58d006265cc282d9159209e4bd14f001ed59a201cdb47b30a637ea0ede69805", func := "gavel/gavellaw04.MerkleProves", spec := "merkleProves", inPlace := ["internal/bytealg.abigen_runtime_cmpstring"], unfollowed := true, recurses := true, plainKeys := false, apart := false }
def MerkleProvesSaid : Prop := merkleProvesRow.holds Try.pinned (OpenSpec.ofChange merkleProvesSpec)

/-- ITS FALSE NEIGHBOUR: 'it returns false'. Refute it at one input. -/
def merkleProvesWrong : ChangeSpec := { name := "merkleProves", fn := fun _ => fun
  | [d1, d2] => { results := [.lit (.bool false)], args := [d1, d2] }
  | _ => none }
def MerkleProvesWrongFalsely : Prop := merkleProvesRow.holds Try.pinned (OpenSpec.ofChange merkleProvesWrong)

/-- 'gavellaw04.MerkleHolds': WHATEVER THE INPUT: true; the input reads as it did. -/
def merkleHoldsSpec : ChangeSpec := { name := "merkleHolds", fn := fun _ => fun
  | [d1, d2] => { results := [.lit (.bool true)], args := [d1, d2] }
  | _ => none }
def merkleHoldsRow : OpenClaim := { program := "ytfgpchffkpomoaa", sum := "a58d006265cc282d9159209e4bd14f001ed59a201cdb47b30a637ea0ede69805", func := "gavel/gavellaw04.MerkleHolds", spec := "merkleHolds", inPlace := ["internal/bytealg.abigen_runtime_cmpstring"], unfollowed := true, recurses := true, plainKeys := false, apart := false }
def MerkleHoldsSaid : Prop := merkleHoldsRow.holds Try.pinned (OpenSpec.ofChange merkleHoldsSpec)

/-- ITS FALSE NEIGHBOUR: 'it returns false'. Refute it at one input. -/
def merkleHoldsWrong : ChangeSpec := { name := "merkleHolds", fn := fun _ => fun
  | [d1, d2] => { results := [.lit (.bool false)], args := [d1, d2] }
  | _ => none }
def MerkleHoldsWrongFalsely : Prop := merkleHoldsRow.holds Try.pinned (OpenSpec.ofChange merkleHoldsWrong)

/-- 'gavellaw04.MerkleSound': WHATEVER THE INPUT: true; the input reads as it did. -/
def merkleSoundSpec : ChangeSpec := { name := "merkleSound", fn := fun _ => fun
  | [d1, d2, d3] => { results := [.lit (.bool true)], args := [d1, d2, d3] }
  | _ => none }
def merkleSoundRow : OpenClaim := { program := "ytfgpchffkpomoaa", sum := "a58d006265cc282d9159209e4bd14f001ed59a201cdb47b30a637ea0ede69805", func := "gavel/gavellaw04.MerkleSound", spec := "merkleSound", inPlace := ["internal/bytealg.abigen_runtime_cmpstring"], unfollowed := true, recurses := true, plainKeys := false, apart := false }
def MerkleSoundSaid : Prop := merkleSoundRow.holds Try.pinned (OpenSpec.ofChange merkleSoundSpec)

/-- ITS FALSE NEIGHBOUR: 'it returns false'. Refute it at one input. -/
def merkleSoundWrong : ChangeSpec := { name := "merkleSound", fn := fun _ => fun
  | [d1, d2, d3] => { results := [.lit (.bool false)], args := [d1, d2, d3] }
  | _ => none }
def MerkleSoundWrongFalsely : Prop := merkleSoundRow.holds Try.pinned (OpenSpec.ofChange merkleSoundWrong)

/-- 'gavellaw04.MerkleBent': WHATEVER THE INPUT: true; the input reads as it did. -/
def merkleBentSpec : ChangeSpec := { name := "merkleBent", fn := fun _ => fun
  | [d1, d2, d3, d4, d5] => { results := [.lit (.bool true)], args := [d1, d2, d3, d4, d5] }
  | _ => none }
def merkleBentRow : OpenClaim := { program := "ytfgpchffkpomoaa", sum := "a58d006265cc282d9159209e4bd14f001ed59a201cdb47b30a637ea0ede69805", func := "gavel/gavellaw04.MerkleBent", spec := "merkleBent", inPlace := ["internal/bytealg.abigen_runtime_cmpstring"], unfollowed := true, recurses := true, plainKeys := false, apart := false }
def MerkleBentSaid : Prop := merkleBentRow.holds Try.pinned (OpenSpec.ofChange merkleBentSpec)

/-- ITS FALSE NEIGHBOUR: 'it returns false'. Refute it at one input. -/
def merkleBentWrong : ChangeSpec := { name := "merkleBent", fn := fun _ => fun
  | [d1, d2, d3, d4, d5] => { results := [.lit (.bool false)], args := [d1, d2, d3, d4, d5] }
  | _ => none }
def MerkleBentWrongFalsely : Prop := merkleBentRow.holds Try.pinned (OpenSpec.ofChange merkleBentWrong)

/-- 'gavellaw04.MerkleApart': WHATEVER THE INPUT: true; the input reads as it did. -/
def merkleApartSpec : ChangeSpec := { name := "merkleApart", fn := fun _ => fun
  | [d1, d2] => { results := [.lit (.bool true)], args := [d1, d2] }
  | _ => none }
def merkleApartRow : OpenClaim := { program := "ytfgpchffkpomoaa", sum := "a58d006265cc282d9159209e4bd14f001ed59a201cdb47b30a637ea0ede69805", func := "gavel/gavellaw04.MerkleApart", spec := "merkleApart", inPlace := ["internal/bytealg.abigen_runtime_cmpstring"], unfollowed := true, recurses := true, plainKeys := false, apart := false }
def MerkleApartSaid : Prop := merkleApartRow.holds Try.pinned (OpenSpec.ofChange merkleApartSpec)

/-- ITS FALSE NEIGHBOUR: 'it returns false'. Refute it at one input. -/
def merkleApartWrong : ChangeSpec := { name := "merkleApart", fn := fun _ => fun
  | [d1, d2] => { results := [.lit (.bool false)], args := [d1, d2] }
  | _ => none }
def MerkleApartWrongFalsely : Prop := merkleApartRow.holds Try.pinned (OpenSpec.ofChange merkleApartWrong)

/-- 'gavellaw04.MerkleKeyed': WHATEVER THE INPUT: true; the input reads as it did. -/
def merkleKeyedSpec : ChangeSpec := { name := "merkleKeyed", fn := fun _ => fun
  | [d1, d2] => { results := [.lit (.bool true)], args := [d1, d2] }
  | _ => none }
def merkleKeyedRow : OpenClaim := { program := "ytfgpchffkpomoaa", sum := "a58d006265cc282d9159209e4bd14f001ed59a201cdb47b30a637ea0ede69805", func := "gavel/gavellaw04.MerkleKeyed", spec := "merkleKeyed", inPlace := ["internal/bytealg.abigen_runtime_cmpstring"], unfollowed := true, recurses := true, plainKeys := false, apart := false }
def MerkleKeyedSaid : Prop := merkleKeyedRow.holds Try.pinned (OpenSpec.ofChange merkleKeyedSpec)

/-- ITS FALSE NEIGHBOUR: 'it returns false'. Refute it at one input. -/
def merkleKeyedWrong : ChangeSpec := { name := "merkleKeyed", fn := fun _ => fun
  | [d1, d2] => { results := [.lit (.bool false)], args := [d1, d2] }
  | _ => none }
def MerkleKeyedWrongFalsely : Prop := merkleKeyedRow.holds Try.pinned (OpenSpec.ofChange merkleKeyedWrong)

/-- 'gavellaw03.AuthnApart': WHATEVER THE INPUT: true; the input reads as it did. -/
def authnApartSpec : ChangeSpec := { name := "authnApart", fn := fun _ => fun
  | [d] => { results := [.lit (.bool true)], args := [d] }
  | _ => none }
def authnApartRow : OpenClaim := { program := "ytfgpchffkpomoaa", sum := "a58d006265cc282d9159209e4bd14f001ed59a201cdb47b30a637ea0ede69805", func := "gavel/gavellaw03.AuthnApart", spec := "authnApart", unfollowed := true, recurses := true, plainKeys := false, apart := false }
def AuthnApartSaid : Prop := authnApartRow.holds Try.pinned (OpenSpec.ofChange authnApartSpec)

/-- ITS FALSE NEIGHBOUR: 'it returns false'. Refute it at one input. -/
def authnApartWrong : ChangeSpec := { name := "authnApart", fn := fun _ => fun
  | [d] => { results := [.lit (.bool false)], args := [d] }
  | _ => none }
def AuthnApartWrongFalsely : Prop := authnApartRow.holds Try.pinned (OpenSpec.ofChange authnApartWrong)

/-- 'gavellaw03.AuthnSeals': WHATEVER THE INPUT: true; the input reads as it did. -/
def authnSealsSpec : ChangeSpec := { name := "authnSeals", fn := fun _ => fun
  | [d1, d2, d3, d4, d5] => { results := [.lit (.bool true)], args := [d1, d2, d3, d4, d5] }
  | _ => none }
def authnSealsRow : OpenClaim := { program := "ytfgpchffkpomoaa", sum := "a58d006265cc282d9159209e4bd14f001ed59a201cdb47b30a637ea0ede69805", func := "gavel/gavellaw03.AuthnSeals", spec := "authnSeals", unfollowed := true, recurses := true, plainKeys := false, apart := false }
def AuthnSealsSaid : Prop := authnSealsRow.holds Try.pinned (OpenSpec.ofChange authnSealsSpec)

/-- ITS FALSE NEIGHBOUR: 'it returns false'. Refute it at one input. -/
def authnSealsWrong : ChangeSpec := { name := "authnSeals", fn := fun _ => fun
  | [d1, d2, d3, d4, d5] => { results := [.lit (.bool false)], args := [d1, d2, d3, d4, d5] }
  | _ => none }
def AuthnSealsWrongFalsely : Prop := authnSealsRow.holds Try.pinned (OpenSpec.ofChange authnSealsWrong)

/-- 'gavellaw03.AuthnOpens': WHATEVER THE INPUT: true; the input reads as it did. -/
def authnOpensSpec : ChangeSpec := { name := "authnOpens", fn := fun _ => fun
  | [d1, d2] => { results := [.lit (.bool true)], args := [d1, d2] }
  | _ => none }
def authnOpensRow : OpenClaim := { program := "ytfgpchffkpomoaa", sum := "a58d006265cc282d9159209e4bd14f001ed59a201cdb47b30a637ea0ede69805", func := "gavel/gavellaw03.AuthnOpens", spec := "authnOpens", unfollowed := true, recurses := true, plainKeys := false, apart := false }
def AuthnOpensSaid : Prop := authnOpensRow.holds Try.pinned (OpenSpec.ofChange authnOpensSpec)

/-- ITS FALSE NEIGHBOUR: 'it returns false'. Refute it at one input. -/
def authnOpensWrong : ChangeSpec := { name := "authnOpens", fn := fun _ => fun
  | [d1, d2] => { results := [.lit (.bool false)], args := [d1, d2] }
  | _ => none }
def AuthnOpensWrongFalsely : Prop := authnOpensRow.holds Try.pinned (OpenSpec.ofChange authnOpensWrong)

/-- 'gavellaw03.AuthnQuorum': WHATEVER THE INPUT: true; the input reads as it did. -/
def authnQuorumSpec : ChangeSpec := { name := "authnQuorum", fn := fun _ => fun
  | [d1, d2, d3, d4, d5, d6] => { results := [.lit (.bool true)], args := [d1, d2, d3, d4, d5, d6] }
  | _ => none }
def authnQuorumRow : OpenClaim := { program := "ytfgpchffkpomoaa", sum := "a58d006265cc282d9159209e4bd14f001ed59a201cdb47b30a637ea0ede69805", func := "gavel/gavellaw03.AuthnQuorum", spec := "authnQuorum", unfollowed := true, recurses := true, plainKeys := false, apart := false }
def AuthnQuorumSaid : Prop := authnQuorumRow.holds Try.pinned (OpenSpec.ofChange authnQuorumSpec)

/-- ITS FALSE NEIGHBOUR: 'it returns false'. Refute it at one input. -/
def authnQuorumWrong : ChangeSpec := { name := "authnQuorum", fn := fun _ => fun
  | [d1, d2, d3, d4, d5, d6] => { results := [.lit (.bool false)], args := [d1, d2, d3, d4, d5, d6] }
  | _ => none }
def AuthnQuorumWrongFalsely : Prop := authnQuorumRow.holds Try.pinned (OpenSpec.ofChange authnQuorumWrong)

/-- 'gavellaw03.AuthnTwice': WHATEVER THE INPUT: true; the input reads as it did. -/
def authnTwiceSpec : ChangeSpec := { name := "authnTwice", fn := fun _ => fun
  | [d1, d2, d3, d4, d5] => { results := [.lit (.bool true)], args := [d1, d2, d3, d4, d5] }
  | _ => none }
def authnTwiceRow : OpenClaim := { program := "ytfgpchffkpomoaa", sum := "a58d006265cc282d9159209e4bd14f001ed59a201cdb47b30a637ea0ede69805", func := "gavel/gavellaw03.AuthnTwice", spec := "authnTwice", unfollowed := true, recurses := true, plainKeys := false, apart := false }
def AuthnTwiceSaid : Prop := authnTwiceRow.holds Try.pinned (OpenSpec.ofChange authnTwiceSpec)

/-- ITS FALSE NEIGHBOUR: 'it returns false'. Refute it at one input. -/
def authnTwiceWrong : ChangeSpec := { name := "authnTwice", fn := fun _ => fun
  | [d1, d2, d3, d4, d5] => { results := [.lit (.bool false)], args := [d1, d2, d3, d4, d5] }
  | _ => none }
def AuthnTwiceWrongFalsely : Prop := authnTwiceRow.holds Try.pinned (OpenSpec.ofChange authnTwiceWrong)

/-- 'gavellaw03.AuthnUnlike': WHATEVER THE INPUT: true; the input reads as it did. -/
def authnUnlikeSpec : ChangeSpec := { name := "authnUnlike", fn := fun _ => fun
  | [d] => { results := [.lit (.bool true)], args := [d] }
  | _ => none }
def authnUnlikeRow : OpenClaim := { program := "ytfgpchffkpomoaa", sum := "a58d006265cc282d9159209e4bd14f001ed59a201cdb47b30a637ea0ede69805", func := "gavel/gavellaw03.AuthnUnlike", spec := "authnUnlike", unfollowed := true, recurses := true, plainKeys := false, apart := false }
def AuthnUnlikeSaid : Prop := authnUnlikeRow.holds Try.pinned (OpenSpec.ofChange authnUnlikeSpec)

/-- ITS FALSE NEIGHBOUR: 'it returns false'. Refute it at one input. -/
def authnUnlikeWrong : ChangeSpec := { name := "authnUnlike", fn := fun _ => fun
  | [d] => { results := [.lit (.bool false)], args := [d] }
  | _ => none }
def AuthnUnlikeWrongFalsely : Prop := authnUnlikeRow.holds Try.pinned (OpenSpec.ofChange authnUnlikeWrong)

/-- 'gavellaw03.AuthnPlays': WHATEVER THE INPUT: true; the input reads as it did. -/
def authnPlaysSpec : ChangeSpec := { name := "authnPlays", fn := fun _ => fun
  | [d] => { results := [.lit (.bool true)], args := [d] }
  | _ => none }
def authnPlaysRow : OpenClaim := { program := "ytfgpchffkpomoaa", sum := "a58d006265cc282d9159209e4bd14f001ed59a201cdb47b30a637ea0ede69805", func := "gavel/gavellaw03.AuthnPlays", spec := "authnPlays", unfollowed := true, recurses := true, plainKeys := false, apart := false }
def AuthnPlaysSaid : Prop := authnPlaysRow.holds Try.pinned (OpenSpec.ofChange authnPlaysSpec)

/-- ITS FALSE NEIGHBOUR: 'it returns false'. Refute it at one input. -/
def authnPlaysWrong : ChangeSpec := { name := "authnPlays", fn := fun _ => fun
  | [d] => { results := [.lit (.bool false)], args := [d] }
  | _ => none }
def AuthnPlaysWrongFalsely : Prop := authnPlaysRow.holds Try.pinned (OpenSpec.ofChange authnPlaysWrong)

/-- 'gavellaw03.AuthnForged': WHATEVER THE INPUT: true; the input reads as it did. -/
def authnForgedSpec : ChangeSpec := { name := "authnForged", fn := fun _ => fun
  | [d1, d2, d3, d4] => { results := [.lit (.bool true)], args := [d1, d2, d3, d4] }
  | _ => none }
def authnForgedRow : OpenClaim := { program := "ytfgpchffkpomoaa", sum := "a58d006265cc282d9159209e4bd14f001ed59a201cdb47b30a637ea0ede69805", func := "gavel/gavellaw03.AuthnForged", spec := "authnForged", unfollowed := true, recurses := true, plainKeys := false, apart := false }
def AuthnForgedSaid : Prop := authnForgedRow.holds Try.pinned (OpenSpec.ofChange authnForgedSpec)

/-- ITS FALSE NEIGHBOUR: 'it returns false'. Refute it at one input. -/
def authnForgedWrong : ChangeSpec := { name := "authnForged", fn := fun _ => fun
  | [d1, d2, d3, d4] => { results := [.lit (.bool false)], args := [d1, d2, d3, d4] }
  | _ => none }
def AuthnForgedWrongFalsely : Prop := authnForgedRow.holds Try.pinned (OpenSpec.ofChange authnForgedWrong)

/-- 'gavellaw03.AuthnNobody': WHATEVER THE INPUT: true; the input reads as it did. -/
def authnNobodySpec : ChangeSpec := { name := "authnNobody", fn := fun _ => fun
  | [d1, d2, d3] => { results := [.lit (.bool true)], args := [d1, d2, d3] }
  | _ => none }
def authnNobodyRow : OpenClaim := { program := "ytfgpchffkpomoaa", sum := "a58d006265cc282d9159209e4bd14f001ed59a201cdb47b30a637ea0ede69805", func := "gavel/gavellaw03.AuthnNobody", spec := "authnNobody", unfollowed := true, recurses := true, plainKeys := false, apart := false }
def AuthnNobodySaid : Prop := authnNobodyRow.holds Try.pinned (OpenSpec.ofChange authnNobodySpec)

/-- ITS FALSE NEIGHBOUR: 'it returns false'. Refute it at one input. -/
def authnNobodyWrong : ChangeSpec := { name := "authnNobody", fn := fun _ => fun
  | [d1, d2, d3] => { results := [.lit (.bool false)], args := [d1, d2, d3] }
  | _ => none }
def AuthnNobodyWrongFalsely : Prop := authnNobodyRow.holds Try.pinned (OpenSpec.ofChange authnNobodyWrong)

/-- 'gavellaw03.AuthnKeyed': WHATEVER THE INPUT: true; the input reads as it did. -/
def authnKeyedSpec : ChangeSpec := { name := "authnKeyed", fn := fun _ => fun
  | [d1, d2, d3, d4] => { results := [.lit (.bool true)], args := [d1, d2, d3, d4] }
  | _ => none }
def authnKeyedRow : OpenClaim := { program := "ytfgpchffkpomoaa", sum := "a58d006265cc282d9159209e4bd14f001ed59a201cdb47b30a637ea0ede69805", func := "gavel/gavellaw03.AuthnKeyed", spec := "authnKeyed", unfollowed := true, recurses := true, plainKeys := false, apart := false }
def AuthnKeyedSaid : Prop := authnKeyedRow.holds Try.pinned (OpenSpec.ofChange authnKeyedSpec)

/-- ITS FALSE NEIGHBOUR: 'it returns false'. Refute it at one input. -/
def authnKeyedWrong : ChangeSpec := { name := "authnKeyed", fn := fun _ => fun
  | [d1, d2, d3, d4] => { results := [.lit (.bool false)], args := [d1, d2, d3, d4] }
  | _ => none }
def AuthnKeyedWrongFalsely : Prop := authnKeyedRow.holds Try.pinned (OpenSpec.ofChange authnKeyedWrong)

/-- 'gavellaw03.AuthnShared': WHATEVER THE INPUT: true; the input reads as it did. -/
def authnSharedSpec : ChangeSpec := { name := "authnShared", fn := fun _ => fun
  | [d1, d2, d3, d4] => { results := [.lit (.bool true)], args := [d1, d2, d3, d4] }
  | _ => none }
def authnSharedRow : OpenClaim := { program := "ytfgpchffkpomoaa", sum := "a58d006265cc282d9159209e4bd14f001ed59a201cdb47b30a637ea0ede69805", func := "gavel/gavellaw03.AuthnShared", spec := "authnShared", unfollowed := true, recurses := true, plainKeys := false, apart := false }
def AuthnSharedSaid : Prop := authnSharedRow.holds Try.pinned (OpenSpec.ofChange authnSharedSpec)

/-- ITS FALSE NEIGHBOUR: 'it returns false'. Refute it at one input. -/
def authnSharedWrong : ChangeSpec := { name := "authnShared", fn := fun _ => fun
  | [d1, d2, d3, d4] => { results := [.lit (.bool false)], args := [d1, d2, d3, d4] }
  | _ => none }
def AuthnSharedWrongFalsely : Prop := authnSharedRow.holds Try.pinned (OpenSpec.ofChange authnSharedWrong)

/-- 'gavellaw12.ClientLies': WHATEVER THE INPUT: true; the input reads as it did. -/
def clientLiesSpec : ChangeSpec := { name := "clientLies", fn := fun _ => fun
  | [d1, d2, d3] => { results := [.lit (.bool true)], args := [d1, d2, d3] }
  | _ => none }
def clientLiesRow : OpenClaim := { program := "ytfgpchffkpomoaa", sum := "a58d006265cc282d9159209e4bd14f001ed59a201cdb47b30a637ea0ede69805", func := "gavel/gavellaw12.ClientLies", spec := "clientLies", unfollowed := true, recurses := true, plainKeys := false, apart := false }
def ClientLiesSaid : Prop := clientLiesRow.holds Try.pinned (OpenSpec.ofChange clientLiesSpec)

/-- ITS FALSE NEIGHBOUR: 'it returns false'. Refute it at one input. -/
def clientLiesWrong : ChangeSpec := { name := "clientLies", fn := fun _ => fun
  | [d1, d2, d3] => { results := [.lit (.bool false)], args := [d1, d2, d3] }
  | _ => none }
def ClientLiesWrongFalsely : Prop := clientLiesRow.holds Try.pinned (OpenSpec.ofChange clientLiesWrong)

/-- 'gavellaw12.ClientStamps': WHATEVER THE INPUT: true; the input reads as it did. -/
def clientStampsSpec : ChangeSpec := { name := "clientStamps", fn := fun _ => fun
  | [d] => { results := [.lit (.bool true)], args := [d] }
  | _ => none }
def clientStampsRow : OpenClaim := { program := "ytfgpchffkpomoaa", sum := "a58d006265cc282d9159209e4bd14f001ed59a201cdb47b30a637ea0ede69805", func := "gavel/gavellaw12.ClientStamps", spec := "clientStamps", unfollowed := true, recurses := true, plainKeys := false, apart := false }
def ClientStampsSaid : Prop := clientStampsRow.holds Try.pinned (OpenSpec.ofChange clientStampsSpec)

/-- ITS FALSE NEIGHBOUR: 'it returns false'. Refute it at one input. -/
def clientStampsWrong : ChangeSpec := { name := "clientStamps", fn := fun _ => fun
  | [d] => { results := [.lit (.bool false)], args := [d] }
  | _ => none }
def ClientStampsWrongFalsely : Prop := clientStampsRow.holds Try.pinned (OpenSpec.ofChange clientStampsWrong)

/-- 'gavellaw12.ClientPlays': WHATEVER THE INPUT: true; the input reads as it did. -/
def clientPlaysSpec : ChangeSpec := { name := "clientPlays", fn := fun _ => fun
  | [d1, d2, d3] => { results := [.lit (.bool true)], args := [d1, d2, d3] }
  | _ => none }
def clientPlaysRow : OpenClaim := { program := "ytfgpchffkpomoaa", sum := "a58d006265cc282d9159209e4bd14f001ed59a201cdb47b30a637ea0ede69805", func := "gavel/gavellaw12.ClientPlays", spec := "clientPlays", unfollowed := true, recurses := true, plainKeys := false, apart := false }
def ClientPlaysSaid : Prop := clientPlaysRow.holds Try.pinned (OpenSpec.ofChange clientPlaysSpec)

/-- ITS FALSE NEIGHBOUR: 'it returns false'. Refute it at one input. -/
def clientPlaysWrong : ChangeSpec := { name := "clientPlays", fn := fun _ => fun
  | [d1, d2, d3] => { results := [.lit (.bool false)], args := [d1, d2, d3] }
  | _ => none }
def ClientPlaysWrongFalsely : Prop := clientPlaysRow.holds Try.pinned (OpenSpec.ofChange clientPlaysWrong)

/-- 'gavellaw12.ClientAsks': WHATEVER THE INPUT: true; the input reads as it did. -/
def clientAsksSpec : ChangeSpec := { name := "clientAsks", fn := fun _ => fun
  | [d1, d2] => { results := [.lit (.bool true)], args := [d1, d2] }
  | _ => none }
def clientAsksRow : OpenClaim := { program := "ytfgpchffkpomoaa", sum := "a58d006265cc282d9159209e4bd14f001ed59a201cdb47b30a637ea0ede69805", func := "gavel/gavellaw12.ClientAsks", spec := "clientAsks", unfollowed := true, recurses := true, plainKeys := false, apart := false }
def ClientAsksSaid : Prop := clientAsksRow.holds Try.pinned (OpenSpec.ofChange clientAsksSpec)

/-- ITS FALSE NEIGHBOUR: 'it returns false'. Refute it at one input. -/
def clientAsksWrong : ChangeSpec := { name := "clientAsks", fn := fun _ => fun
  | [d1, d2] => { results := [.lit (.bool false)], args := [d1, d2] }
  | _ => none }
def ClientAsksWrongFalsely : Prop := clientAsksRow.holds Try.pinned (OpenSpec.ofChange clientAsksWrong)

/-- 'gavellaw04.MerkleOrder': WHATEVER THE INPUT: true; the input reads as it did. -/
def merkleOrderSpec : ChangeSpec := { name := "merkleOrder", fn := fun _ => fun
  | [d] => { results := [.lit (.bool true)], args := [d] }
  | _ => none }
def merkleOrderRow : OpenClaim := { program := "ytfgpchffkpomoaa", sum := "a58d006265cc282d9159209e4bd14f001ed59a201cdb47b30a637ea0ede69805", func := "gavel/gavellaw04.MerkleOrder", spec := "merkleOrder", inPlace := ["internal/bytealg.abigen_runtime_cmpstring", "slices.overlaps[gavel/api.Record]", "slices.overlaps[string]"], unfollowed := true, recurses := true, plainKeys := false, apart := false }
def MerkleOrderSaid : Prop := merkleOrderRow.holds Try.pinned (OpenSpec.ofChange merkleOrderSpec)

/-- ITS FALSE NEIGHBOUR: 'it returns false'. Refute it at one input. -/
def merkleOrderWrong : ChangeSpec := { name := "merkleOrder", fn := fun _ => fun
  | [d] => { results := [.lit (.bool false)], args := [d] }
  | _ => none }
def MerkleOrderWrongFalsely : Prop := merkleOrderRow.holds Try.pinned (OpenSpec.ofChange merkleOrderWrong)

/-- 'gavellaw04.MerkleBack': WHATEVER THE INPUT: true; the input reads as it did. -/
def merkleBackSpec : ChangeSpec := { name := "merkleBack", fn := fun _ => fun
  | [d1, d2, d3] => { results := [.lit (.bool true)], args := [d1, d2, d3] }
  | _ => none }
def merkleBackRow : OpenClaim := { program := "ytfgpchffkpomoaa", sum := "a58d006265cc282d9159209e4bd14f001ed59a201cdb47b30a637ea0ede69805", func := "gavel/gavellaw04.MerkleBack", spec := "merkleBack", inPlace := ["internal/bytealg.abigen_runtime_cmpstring", "slices.overlaps[gavel/api.Record]", "slices.overlaps[string]"], unfollowed := true, recurses := true, plainKeys := false, apart := false }
def MerkleBackSaid : Prop := merkleBackRow.holds Try.pinned (OpenSpec.ofChange merkleBackSpec)

/-- ITS FALSE NEIGHBOUR: 'it returns false'. Refute it at one input. -/
def merkleBackWrong : ChangeSpec := { name := "merkleBack", fn := fun _ => fun
  | [d1, d2, d3] => { results := [.lit (.bool false)], args := [d1, d2, d3] }
  | _ => none }
def MerkleBackWrongFalsely : Prop := merkleBackRow.holds Try.pinned (OpenSpec.ofChange merkleBackWrong)

/-- 'gavellaw04.MerkleGrows': WHATEVER THE INPUT: true; the input reads as it did. -/
def merkleGrowsSpec : ChangeSpec := { name := "merkleGrows", fn := fun _ => fun
  | [d1, d2] => { results := [.lit (.bool true)], args := [d1, d2] }
  | _ => none }
def merkleGrowsRow : OpenClaim := { program := "ytfgpchffkpomoaa", sum := "a58d006265cc282d9159209e4bd14f001ed59a201cdb47b30a637ea0ede69805", func := "gavel/gavellaw04.MerkleGrows", spec := "merkleGrows", inPlace := ["internal/bytealg.abigen_runtime_cmpstring", "slices.overlaps[gavel/api.Record]", "slices.overlaps[string]"], unfollowed := true, recurses := true, plainKeys := false, apart := false }
def MerkleGrowsSaid : Prop := merkleGrowsRow.holds Try.pinned (OpenSpec.ofChange merkleGrowsSpec)

/-- ITS FALSE NEIGHBOUR: 'it returns false'. Refute it at one input. -/
def merkleGrowsWrong : ChangeSpec := { name := "merkleGrows", fn := fun _ => fun
  | [d1, d2] => { results := [.lit (.bool false)], args := [d1, d2] }
  | _ => none }
def MerkleGrowsWrongFalsely : Prop := merkleGrowsRow.holds Try.pinned (OpenSpec.ofChange merkleGrowsWrong)

/-- 'gavellaw04.MerkleNobody': WHATEVER THE INPUT: true; the input reads as it did. -/
def merkleNobodySpec : ChangeSpec := { name := "merkleNobody", fn := fun _ => fun
  | [d1, d2, d3] => { results := [.lit (.bool true)], args := [d1, d2, d3] }
  | _ => none }
def merkleNobodyRow : OpenClaim := { program := "ytfgpchffkpomoaa", sum := "a58d006265cc282d9159209e4bd14f001ed59a201cdb47b30a637ea0ede69805", func := "gavel/gavellaw04.MerkleNobody", spec := "merkleNobody", inPlace := ["internal/bytealg.abigen_runtime_cmpstring", "slices.overlaps[gavel/api.Record]", "slices.overlaps[string]"], unfollowed := true, recurses := true, plainKeys := false, apart := false }
def MerkleNobodySaid : Prop := merkleNobodyRow.holds Try.pinned (OpenSpec.ofChange merkleNobodySpec)

/-- ITS FALSE NEIGHBOUR: 'it returns false'. Refute it at one input. -/
def merkleNobodyWrong : ChangeSpec := { name := "merkleNobody", fn := fun _ => fun
  | [d1, d2, d3] => { results := [.lit (.bool false)], args := [d1, d2, d3] }
  | _ => none }
def MerkleNobodyWrongFalsely : Prop := merkleNobodyRow.holds Try.pinned (OpenSpec.ofChange merkleNobodyWrong)

/-- 'gavellaw12.ClientVerifies': WHATEVER THE INPUT: true; the input reads as it did. -/
def clientVerifiesSpec : ChangeSpec := { name := "clientVerifies", fn := fun _ => fun
  | [d1, d2, d3] => { results := [.lit (.bool true)], args := [d1, d2, d3] }
  | _ => none }
def clientVerifiesRow : OpenClaim := { program := "ytfgpchffkpomoaa", sum := "a58d006265cc282d9159209e4bd14f001ed59a201cdb47b30a637ea0ede69805", func := "gavel/gavellaw12.ClientVerifies", spec := "clientVerifies", unfollowed := true, recurses := true, plainKeys := false, apart := false }
def ClientVerifiesSaid : Prop := clientVerifiesRow.holds Try.pinned (OpenSpec.ofChange clientVerifiesSpec)

/-- ITS FALSE NEIGHBOUR: 'it returns false'. Refute it at one input. -/
def clientVerifiesWrong : ChangeSpec := { name := "clientVerifies", fn := fun _ => fun
  | [d1, d2, d3] => { results := [.lit (.bool false)], args := [d1, d2, d3] }
  | _ => none }
def ClientVerifiesWrongFalsely : Prop := clientVerifiesRow.holds Try.pinned (OpenSpec.ofChange clientVerifiesWrong)

/-- 'gavellaw12.ClientNew': WHATEVER THE INPUT: true; the input reads as it did. -/
def clientNewSpec : ChangeSpec := { name := "clientNew", fn := fun _ => fun
  | [d1, d2, d3] => { results := [.lit (.bool true)], args := [d1, d2, d3] }
  | _ => none }
def clientNewRow : OpenClaim := { program := "ytfgpchffkpomoaa", sum := "a58d006265cc282d9159209e4bd14f001ed59a201cdb47b30a637ea0ede69805", func := "gavel/gavellaw12.ClientNew", spec := "clientNew", unfollowed := true, recurses := true, plainKeys := false, apart := false }
def ClientNewSaid : Prop := clientNewRow.holds Try.pinned (OpenSpec.ofChange clientNewSpec)

/-- ITS FALSE NEIGHBOUR: 'it returns false'. Refute it at one input. -/
def clientNewWrong : ChangeSpec := { name := "clientNew", fn := fun _ => fun
  | [d1, d2, d3] => { results := [.lit (.bool false)], args := [d1, d2, d3] }
  | _ => none }
def ClientNewWrongFalsely : Prop := clientNewRow.holds Try.pinned (OpenSpec.ofChange clientNewWrong)

/-- 'gavellaw12.ClientLight': WHATEVER THE INPUT: true; the input reads as it did. -/
def clientLightSpec : ChangeSpec := { name := "clientLight", fn := fun _ => fun
  | [d1, d2, d3] => { results := [.lit (.bool true)], args := [d1, d2, d3] }
  | _ => none }
def clientLightRow : OpenClaim := { program := "ytfgpchffkpomoaa", sum := "a58d006265cc282d9159209e4bd14f001ed59a201cdb47b30a637ea0ede69805", func := "gavel/gavellaw12.ClientLight", spec := "clientLight", inPlace := ["internal/bytealg.abigen_runtime_cmpstring"], unfollowed := true, recurses := true, plainKeys := false, apart := false }
def ClientLightSaid : Prop := clientLightRow.holds Try.pinned (OpenSpec.ofChange clientLightSpec)

/-- ITS FALSE NEIGHBOUR: 'it returns false'. Refute it at one input. -/
def clientLightWrong : ChangeSpec := { name := "clientLight", fn := fun _ => fun
  | [d1, d2, d3] => { results := [.lit (.bool false)], args := [d1, d2, d3] }
  | _ => none }
def ClientLightWrongFalsely : Prop := clientLightRow.holds Try.pinned (OpenSpec.ofChange clientLightWrong)

/-- 'gavellaw12.ClientOther': WHATEVER THE INPUT: true; the input reads as it did. -/
def clientOtherSpec : ChangeSpec := { name := "clientOther", fn := fun _ => fun
  | [d1, d2, d3, d4, d5] => { results := [.lit (.bool true)], args := [d1, d2, d3, d4, d5] }
  | _ => none }
def clientOtherRow : OpenClaim := { program := "ytfgpchffkpomoaa", sum := "a58d006265cc282d9159209e4bd14f001ed59a201cdb47b30a637ea0ede69805", func := "gavel/gavellaw12.ClientOther", spec := "clientOther", inPlace := ["internal/bytealg.abigen_runtime_cmpstring"], unfollowed := true, recurses := true, plainKeys := false, apart := false }
def ClientOtherSaid : Prop := clientOtherRow.holds Try.pinned (OpenSpec.ofChange clientOtherSpec)

/-- ITS FALSE NEIGHBOUR: 'it returns false'. Refute it at one input. -/
def clientOtherWrong : ChangeSpec := { name := "clientOther", fn := fun _ => fun
  | [d1, d2, d3, d4, d5] => { results := [.lit (.bool false)], args := [d1, d2, d3, d4, d5] }
  | _ => none }
def ClientOtherWrongFalsely : Prop := clientOtherRow.holds Try.pinned (OpenSpec.ofChange clientOtherWrong)

/-- 'gaveltop.WholeProofs': WHATEVER THE INPUT: true; the input reads as it did. -/
def wholeProofsSpec : ChangeSpec := { name := "wholeProofs", fn := fun _ => fun
  | [d1, d2, d3] => { results := [.lit (.bool true)], args := [d1, d2, d3] }
  | _ => none }
def wholeProofsRow : OpenClaim := { program := "ytfgpchffkpomoaa", sum := "a58d006265cc282d9159209e4bd14f001ed59a201cdb47b30a637ea0ede69805", func := "gavel/gaveltop.WholeProofs", spec := "wholeProofs", inPlace := ["internal/bytealg.abigen_runtime_cmpstring"], unfollowed := true, recurses := true, plainKeys := false, apart := false }
def WholeProofsSaid : Prop := wholeProofsRow.holds Try.pinned (OpenSpec.ofChange wholeProofsSpec)

/-- ITS FALSE NEIGHBOUR: 'it returns false'. Refute it at one input. -/
def wholeProofsWrong : ChangeSpec := { name := "wholeProofs", fn := fun _ => fun
  | [d1, d2, d3] => { results := [.lit (.bool false)], args := [d1, d2, d3] }
  | _ => none }
def WholeProofsWrongFalsely : Prop := wholeProofsRow.holds Try.pinned (OpenSpec.ofChange wholeProofsWrong)

/- THE SECOND FORM. 'bulk': how many values and letters a reading holds, each counted each time it is reached (what is shared counts as often as it is met; a slice's spare places count too). A statement '..UptoSaid' is the law's where the arguments, and the package variables that the reading takes, are together of bulk at most 1048576: NARROWER than '..Said'. Prove '..Said' where nothing that the law and all that it calls make is longer than what came in: it says more and counts as full. Else prove '..UptoSaid'. A law counts once. -/
mutual
def uptoBulk {H : Type} : DataW H → Nat
  | .lit (.string bytes) => bytes.length + 1
  | .lit _ => 1
  | .nil => 1
  | .ptr d => uptoBulk d + 1
  | .slice elems spare => uptoBulkAll elems + uptoBulkAll spare + 1
  | .agg parts => uptoBulkAll parts + 1
  | .iface _ d => uptoBulk d + 1
  | .map entries => uptoBulkEntries entries + 1
  | .held _ => 1
def uptoBulkAll {H : Type} : List (DataW H) → Nat
  | [] => 0
  | d :: r => uptoBulk d + uptoBulkAll r
def uptoBulkEntries {H : Type} : List (Lit × DataW H) → Nat
  | [] => 0
  | x :: r => uptoBulkEntry x + uptoBulkEntries r
def uptoBulkEntry {H : Type} : Lit × DataW H → Nat
  | (.string bytes, d) => bytes.length + uptoBulk d + 1
  | (_, d) => uptoBulk d + 1
 end
def uptoSmall : (H : Type) → List (DataW H) → Bool := fun _ ds => decide (uptoBulkAll ds ≤ 1048576)
def OpenSpec.upto (s : _root_.Go.ChangeSpec) : _root_.Go.OpenSpec := { _root_.Go.OpenSpec.ofChange s with cond := some uptoSmall }

/-- 'gavellaw04.MerkleRoots', WHERE WHAT IT READS IS OF BULK AT MOST 1048576: true; the input reads as it did. -/
def merkleRootsUptoRow : OpenClaim := { program := "ytfgpchffkpomoaa", sum := "a58d006265cc282d9159209e4bd14f001ed59a201cdb47b30a637ea0ede69805", func := "gavel/gavellaw04.MerkleRoots", spec := "merkleRoots", inPlace := ["internal/bytealg.abigen_runtime_cmpstring"], unfollowed := true, recurses := true, plainKeys := false, apart := false, narrowed := true }
def MerkleRootsUptoSaid : Prop := merkleRootsUptoRow.holds Try.pinned (OpenSpec.upto merkleRootsSpec)

/-- 'gavellaw04.MerkleProves', WHERE WHAT IT READS IS OF BULK AT MOST 1048576: true; the input reads as it did. -/
def merkleProvesUptoRow : OpenClaim := { program := "ytfgpchffkpomoaa", sum := "a58d006265cc282d9159209e4bd14f001ed59a201cdb47b30a637ea0ede69805", func := "gavel/gavellaw04.MerkleProves", spec := "merkleProves", inPlace := ["internal/bytealg.abigen_runtime_cmpstring"], unfollowed := true, recurses := true, plainKeys := false, apart := false, narrowed := true }
def MerkleProvesUptoSaid : Prop := merkleProvesUptoRow.holds Try.pinned (OpenSpec.upto merkleProvesSpec)

/-- 'gavellaw04.MerkleHolds', WHERE WHAT IT READS IS OF BULK AT MOST 1048576: true; the input reads as it did. -/
def merkleHoldsUptoRow : OpenClaim := { program := "ytfgpchffkpomoaa", sum := "a58d006265cc282d9159209e4bd14f001ed59a201cdb47b30a637ea0ede69805", func := "gavel/gavellaw04.MerkleHolds", spec := "merkleHolds", inPlace := ["internal/bytealg.abigen_runtime_cmpstring"], unfollowed := true, recurses := true, plainKeys := false, apart := false, narrowed := true }
def MerkleHoldsUptoSaid : Prop := merkleHoldsUptoRow.holds Try.pinned (OpenSpec.upto merkleHoldsSpec)

/-- 'gavellaw04.MerkleSound', WHERE WHAT IT READS IS OF BULK AT MOST 1048576: true; the input reads as it did. -/
def merkleSoundUptoRow : OpenClaim := { program := "ytfgpchffkpomoaa", sum := "a58d006265cc282d9159209e4bd14f001ed59a201cdb47b30a637ea0ede69805", func := "gavel/gavellaw04.MerkleSound", spec := "merkleSound", inPlace := ["internal/bytealg.abigen_runtime_cmpstring"], unfollowed := true, recurses := true, plainKeys := false, apart := false, narrowed := true }
def MerkleSoundUptoSaid : Prop := merkleSoundUptoRow.holds Try.pinned (OpenSpec.upto merkleSoundSpec)

/-- 'gavellaw04.MerkleBent', WHERE WHAT IT READS IS OF BULK AT MOST 1048576: true; the input reads as it did. -/
def merkleBentUptoRow : OpenClaim := { program := "ytfgpchffkpomoaa", sum := "a58d006265cc282d9159209e4bd14f001ed59a201cdb47b30a637ea0ede69805", func := "gavel/gavellaw04.MerkleBent", spec := "merkleBent", inPlace := ["internal/bytealg.abigen_runtime_cmpstring"], unfollowed := true, recurses := true, plainKeys := false, apart := false, narrowed := true }
def MerkleBentUptoSaid : Prop := merkleBentUptoRow.holds Try.pinned (OpenSpec.upto merkleBentSpec)

/-- 'gavellaw04.MerkleApart', WHERE WHAT IT READS IS OF BULK AT MOST 1048576: true; the input reads as it did. -/
def merkleApartUptoRow : OpenClaim := { program := "ytfgpchffkpomoaa", sum := "a58d006265cc282d9159209e4bd14f001ed59a201cdb47b30a637ea0ede69805", func := "gavel/gavellaw04.MerkleApart", spec := "merkleApart", inPlace := ["internal/bytealg.abigen_runtime_cmpstring"], unfollowed := true, recurses := true, plainKeys := false, apart := false, narrowed := true }
def MerkleApartUptoSaid : Prop := merkleApartUptoRow.holds Try.pinned (OpenSpec.upto merkleApartSpec)

/-- 'gavellaw04.MerkleKeyed', WHERE WHAT IT READS IS OF BULK AT MOST 1048576: true; the input reads as it did. -/
def merkleKeyedUptoRow : OpenClaim := { program := "ytfgpchffkpomoaa", sum := "a58d006265cc282d9159209e4bd14f001ed59a201cdb47b30a637ea0ede69805", func := "gavel/gavellaw04.MerkleKeyed", spec := "merkleKeyed", inPlace := ["internal/bytealg.abigen_runtime_cmpstring"], unfollowed := true, recurses := true, plainKeys := false, apart := false, narrowed := true }
def MerkleKeyedUptoSaid : Prop := merkleKeyedUptoRow.holds Try.pinned (OpenSpec.upto merkleKeyedSpec)

/-- 'gavellaw03.AuthnApart', WHERE WHAT IT READS IS OF BULK AT MOST 1048576: true; the input reads as it did. -/
def authnApartUptoRow : OpenClaim := { program := "ytfgpchffkpomoaa", sum := "a58d006265cc282d9159209e4bd14f001ed59a201cdb47b30a637ea0ede69805", func := "gavel/gavellaw03.AuthnApart", spec := "authnApart", unfollowed := true, recurses := true, plainKeys := false, apart := false, narrowed := true }
def AuthnApartUptoSaid : Prop := authnApartUptoRow.holds Try.pinned (OpenSpec.upto authnApartSpec)

/-- 'gavellaw03.AuthnSeals', WHERE WHAT IT READS IS OF BULK AT MOST 1048576: true; the input reads as it did. -/
def authnSealsUptoRow : OpenClaim := { program := "ytfgpchffkpomoaa", sum := "a58d006265cc282d9159209e4bd14f001ed59a201cdb47b30a637ea0ede69805", func := "gavel/gavellaw03.AuthnSeals", spec := "authnSeals", unfollowed := true, recurses := true, plainKeys := false, apart := false, narrowed := true }
def AuthnSealsUptoSaid : Prop := authnSealsUptoRow.holds Try.pinned (OpenSpec.upto authnSealsSpec)

/-- 'gavellaw03.AuthnOpens', WHERE WHAT IT READS IS OF BULK AT MOST 1048576: true; the input reads as it did. -/
def authnOpensUptoRow : OpenClaim := { program := "ytfgpchffkpomoaa", sum := "a58d006265cc282d9159209e4bd14f001ed59a201cdb47b30a637ea0ede69805", func := "gavel/gavellaw03.AuthnOpens", spec := "authnOpens", unfollowed := true, recurses := true, plainKeys := false, apart := false, narrowed := true }
def AuthnOpensUptoSaid : Prop := authnOpensUptoRow.holds Try.pinned (OpenSpec.upto authnOpensSpec)

/-- 'gavellaw03.AuthnQuorum', WHERE WHAT IT READS IS OF BULK AT MOST 1048576: true; the input reads as it did. -/
def authnQuorumUptoRow : OpenClaim := { program := "ytfgpchffkpomoaa", sum := "a58d006265cc282d9159209e4bd14f001ed59a201cdb47b30a637ea0ede69805", func := "gavel/gavellaw03.AuthnQuorum", spec := "authnQuorum", unfollowed := true, recurses := true, plainKeys := false, apart := false, narrowed := true }
def AuthnQuorumUptoSaid : Prop := authnQuorumUptoRow.holds Try.pinned (OpenSpec.upto authnQuorumSpec)

/-- 'gavellaw03.AuthnTwice', WHERE WHAT IT READS IS OF BULK AT MOST 1048576: true; the input reads as it did. -/
def authnTwiceUptoRow : OpenClaim := { program := "ytfgpchffkpomoaa", sum := "a58d006265cc282d9159209e4bd14f001ed59a201cdb47b30a637ea0ede69805", func := "gavel/gavellaw03.AuthnTwice", spec := "authnTwice", unfollowed := true, recurses := true, plainKeys := false, apart := false, narrowed := true }
def AuthnTwiceUptoSaid : Prop := authnTwiceUptoRow.holds Try.pinned (OpenSpec.upto authnTwiceSpec)

/-- 'gavellaw03.AuthnUnlike', WHERE WHAT IT READS IS OF BULK AT MOST 1048576: true; the input reads as it did. -/
def authnUnlikeUptoRow : OpenClaim := { program := "ytfgpchffkpomoaa", sum := "a58d006265cc282d9159209e4bd14f001ed59a201cdb47b30a637ea0ede69805", func := "gavel/gavellaw03.AuthnUnlike", spec := "authnUnlike", unfollowed := true, recurses := true, plainKeys := false, apart := false, narrowed := true }
def AuthnUnlikeUptoSaid : Prop := authnUnlikeUptoRow.holds Try.pinned (OpenSpec.upto authnUnlikeSpec)

/-- 'gavellaw03.AuthnPlays', WHERE WHAT IT READS IS OF BULK AT MOST 1048576: true; the input reads as it did. -/
def authnPlaysUptoRow : OpenClaim := { program := "ytfgpchffkpomoaa", sum := "a58d006265cc282d9159209e4bd14f001ed59a201cdb47b30a637ea0ede69805", func := "gavel/gavellaw03.AuthnPlays", spec := "authnPlays", unfollowed := true, recurses := true, plainKeys := false, apart := false, narrowed := true }
def AuthnPlaysUptoSaid : Prop := authnPlaysUptoRow.holds Try.pinned (OpenSpec.upto authnPlaysSpec)

/-- 'gavellaw03.AuthnForged', WHERE WHAT IT READS IS OF BULK AT MOST 1048576: true; the input reads as it did. -/
def authnForgedUptoRow : OpenClaim := { program := "ytfgpchffkpomoaa", sum := "a58d006265cc282d9159209e4bd14f001ed59a201cdb47b30a637ea0ede69805", func := "gavel/gavellaw03.AuthnForged", spec := "authnForged", unfollowed := true, recurses := true, plainKeys := false, apart := false, narrowed := true }
def AuthnForgedUptoSaid : Prop := authnForgedUptoRow.holds Try.pinned (OpenSpec.upto authnForgedSpec)

/-- 'gavellaw03.AuthnNobody', WHERE WHAT IT READS IS OF BULK AT MOST 1048576: true; the input reads as it did. -/
def authnNobodyUptoRow : OpenClaim := { program := "ytfgpchffkpomoaa", sum := "a58d006265cc282d9159209e4bd14f001ed59a201cdb47b30a637ea0ede69805", func := "gavel/gavellaw03.AuthnNobody", spec := "authnNobody", unfollowed := true, recurses := true, plainKeys := false, apart := false, narrowed := true }
def AuthnNobodyUptoSaid : Prop := authnNobodyUptoRow.holds Try.pinned (OpenSpec.upto authnNobodySpec)

/-- 'gavellaw03.AuthnKeyed', WHERE WHAT IT READS IS OF BULK AT MOST 1048576: true; the input reads as it did. -/
def authnKeyedUptoRow : OpenClaim := { program := "ytfgpchffkpomoaa", sum := "a58d006265cc282d9159209e4bd14f001ed59a201cdb47b30a637ea0ede69805", func := "gavel/gavellaw03.AuthnKeyed", spec := "authnKeyed", unfollowed := true, recurses := true, plainKeys := false, apart := false, narrowed := true }
def AuthnKeyedUptoSaid : Prop := authnKeyedUptoRow.holds Try.pinned (OpenSpec.upto authnKeyedSpec)

/-- 'gavellaw03.AuthnShared', WHERE WHAT IT READS IS OF BULK AT MOST 1048576: true; the input reads as it did. -/
def authnSharedUptoRow : OpenClaim := { program := "ytfgpchffkpomoaa", sum := "a58d006265cc282d9159209e4bd14f001ed59a201cdb47b30a637ea0ede69805", func := "gavel/gavellaw03.AuthnShared", spec := "authnShared", unfollowed := true, recurses := true, plainKeys := false, apart := false, narrowed := true }
def AuthnSharedUptoSaid : Prop := authnSharedUptoRow.holds Try.pinned (OpenSpec.upto authnSharedSpec)

/-- 'gavellaw12.ClientLies', WHERE WHAT IT READS IS OF BULK AT MOST 1048576: true; the input reads as it did. -/
def clientLiesUptoRow : OpenClaim := { program := "ytfgpchffkpomoaa", sum := "a58d006265cc282d9159209e4bd14f001ed59a201cdb47b30a637ea0ede69805", func := "gavel/gavellaw12.ClientLies", spec := "clientLies", unfollowed := true, recurses := true, plainKeys := false, apart := false, narrowed := true }
def ClientLiesUptoSaid : Prop := clientLiesUptoRow.holds Try.pinned (OpenSpec.upto clientLiesSpec)

/-- 'gavellaw12.ClientStamps', WHERE WHAT IT READS IS OF BULK AT MOST 1048576: true; the input reads as it did. -/
def clientStampsUptoRow : OpenClaim := { program := "ytfgpchffkpomoaa", sum := "a58d006265cc282d9159209e4bd14f001ed59a201cdb47b30a637ea0ede69805", func := "gavel/gavellaw12.ClientStamps", spec := "clientStamps", unfollowed := true, recurses := true, plainKeys := false, apart := false, narrowed := true }
def ClientStampsUptoSaid : Prop := clientStampsUptoRow.holds Try.pinned (OpenSpec.upto clientStampsSpec)

/-- 'gavellaw12.ClientPlays', WHERE WHAT IT READS IS OF BULK AT MOST 1048576: true; the input reads as it did. -/
def clientPlaysUptoRow : OpenClaim := { program := "ytfgpchffkpomoaa", sum := "a58d006265cc282d9159209e4bd14f001ed59a201cdb47b30a637ea0ede69805", func := "gavel/gavellaw12.ClientPlays", spec := "clientPlays", unfollowed := true, recurses := true, plainKeys := false, apart := false, narrowed := true }
def ClientPlaysUptoSaid : Prop := clientPlaysUptoRow.holds Try.pinned (OpenSpec.upto clientPlaysSpec)

/-- 'gavellaw12.ClientAsks', WHERE WHAT IT READS IS OF BULK AT MOST 1048576: true; the input reads as it did. -/
def clientAsksUptoRow : OpenClaim := { program := "ytfgpchffkpomoaa", sum := "a58d006265cc282d9159209e4bd14f001ed59a201cdb47b30a637ea0ede69805", func := "gavel/gavellaw12.ClientAsks", spec := "clientAsks", unfollowed := true, recurses := true, plainKeys := false, apart := false, narrowed := true }
def ClientAsksUptoSaid : Prop := clientAsksUptoRow.holds Try.pinned (OpenSpec.upto clientAsksSpec)

/-- 'gavellaw04.MerkleOrder', WHERE WHAT IT READS IS OF BULK AT MOST 1048576: true; the input reads as it did. -/
def merkleOrderUptoRow : OpenClaim := { program := "ytfgpchffkpomoaa", sum := "a58d006265cc282d9159209e4bd14f001ed59a201cdb47b30a637ea0ede69805", func := "gavel/gavellaw04.MerkleOrder", spec := "merkleOrder", inPlace := ["internal/bytealg.abigen_runtime_cmpstring", "slices.overlaps[gavel/api.Record]", "slices.overlaps[string]"], unfollowed := true, recurses := true, plainKeys := false, apart := false, narrowed := true }
def MerkleOrderUptoSaid : Prop := merkleOrderUptoRow.holds Try.pinned (OpenSpec.upto merkleOrderSpec)

/-- 'gavellaw04.MerkleBack', WHERE WHAT IT READS IS OF BULK AT MOST 1048576: true; the input reads as it did. -/
def merkleBackUptoRow : OpenClaim := { program := "ytfgpchffkpomoaa", sum := "a58d006265cc282d9159209e4bd14f001ed59a201cdb47b30a637ea0ede69805", func := "gavel/gavellaw04.MerkleBack", spec := "merkleBack", inPlace := ["internal/bytealg.abigen_runtime_cmpstring", "slices.overlaps[gavel/api.Record]", "slices.overlaps[string]"], unfollowed := true, recurses := true, plainKeys := false, apart := false, narrowed := true }
def MerkleBackUptoSaid : Prop := merkleBackUptoRow.holds Try.pinned (OpenSpec.upto merkleBackSpec)

/-- 'gavellaw04.MerkleGrows', WHERE WHAT IT READS IS OF BULK AT MOST 1048576: true; the input reads as it did. -/
def merkleGrowsUptoRow : OpenClaim := { program := "ytfgpchffkpomoaa", sum := "a58d006265cc282d9159209e4bd14f001ed59a201cdb47b30a637ea0ede69805", func := "gavel/gavellaw04.MerkleGrows", spec := "merkleGrows", inPlace := ["internal/bytealg.abigen_runtime_cmpstring", "slices.overlaps[gavel/api.Record]", "slices.overlaps[string]"], unfollowed := true, recurses := true, plainKeys := false, apart := false, narrowed := true }
def MerkleGrowsUptoSaid : Prop := merkleGrowsUptoRow.holds Try.pinned (OpenSpec.upto merkleGrowsSpec)

/-- 'gavellaw04.MerkleNobody', WHERE WHAT IT READS IS OF BULK AT MOST 1048576: true; the input reads as it did. -/
def merkleNobodyUptoRow : OpenClaim := { program := "ytfgpchffkpomoaa", sum := "a58d006265cc282d9159209e4bd14f001ed59a201cdb47b30a637ea0ede69805", func := "gavel/gavellaw04.MerkleNobody", spec := "merkleNobody", inPlace := ["internal/bytealg.abigen_runtime_cmpstring", "slices.overlaps[gavel/api.Record]", "slices.overlaps[string]"], unfollowed := true, recurses := true, plainKeys := false, apart := false, narrowed := true }
def MerkleNobodyUptoSaid : Prop := merkleNobodyUptoRow.holds Try.pinned (OpenSpec.upto merkleNobodySpec)

/-- 'gavellaw12.ClientVerifies', WHERE WHAT IT READS IS OF BULK AT MOST 1048576: true; the input reads as it did. -/
def clientVerifiesUptoRow : OpenClaim := { program := "ytfgpchffkpomoaa", sum := "a58d006265cc282d9159209e4bd14f001ed59a201cdb47b30a637ea0ede69805", func := "gavel/gavellaw12.ClientVerifies", spec := "clientVerifies", unfollowed := true, recurses := true, plainKeys := false, apart := false, narrowed := true }
def ClientVerifiesUptoSaid : Prop := clientVerifiesUptoRow.holds Try.pinned (OpenSpec.upto clientVerifiesSpec)

/-- 'gavellaw12.ClientNew', WHERE WHAT IT READS IS OF BULK AT MOST 1048576: true; the input reads as it did. -/
def clientNewUptoRow : OpenClaim := { program := "ytfgpchffkpomoaa", sum := "a58d006265cc282d9159209e4bd14f001ed59a201cdb47b30a637ea0ede69805", func := "gavel/gavellaw12.ClientNew", spec := "clientNew", unfollowed := true, recurses := true, plainKeys := false, apart := false, narrowed := true }
def ClientNewUptoSaid : Prop := clientNewUptoRow.holds Try.pinned (OpenSpec.upto clientNewSpec)

/-- 'gavellaw12.ClientLight', WHERE WHAT IT READS IS OF BULK AT MOST 1048576: true; the input reads as it did. -/
def clientLightUptoRow : OpenClaim := { program := "ytfgpchffkpomoaa", sum := "a58d006265cc282d9159209e4bd14f001ed59a201cdb47b30a637ea0ede69805", func := "gavel/gavellaw12.ClientLight", spec := "clientLight", inPlace := ["internal/bytealg.abigen_runtime_cmpstring"], unfollowed := true, recurses := true, plainKeys := false, apart := false, narrowed := true }
def ClientLightUptoSaid : Prop := clientLightUptoRow.holds Try.pinned (OpenSpec.upto clientLightSpec)

/-- 'gavellaw12.ClientOther', WHERE WHAT IT READS IS OF BULK AT MOST 1048576: true; the input reads as it did. -/
def clientOtherUptoRow : OpenClaim := { program := "ytfgpchffkpomoaa", sum := "a58d006265cc282d9159209e4bd14f001ed59a201cdb47b30a637ea0ede69805", func := "gavel/gavellaw12.ClientOther", spec := "clientOther", inPlace := ["internal/bytealg.abigen_runtime_cmpstring"], unfollowed := true, recurses := true, plainKeys := false, apart := false, narrowed := true }
def ClientOtherUptoSaid : Prop := clientOtherUptoRow.holds Try.pinned (OpenSpec.upto clientOtherSpec)

/-- 'gaveltop.WholeProofs', WHERE WHAT IT READS IS OF BULK AT MOST 1048576: true; the input reads as it did. -/
def wholeProofsUptoRow : OpenClaim := { program := "ytfgpchffkpomoaa", sum := "a58d006265cc282d9159209e4bd14f001ed59a201cdb47b30a637ea0ede69805", func := "gavel/gaveltop.WholeProofs", spec := "wholeProofs", inPlace := ["internal/bytealg.abigen_runtime_cmpstring"], unfollowed := true, recurses := true, plainKeys := false, apart := false, narrowed := true }
def WholeProofsUptoSaid : Prop := wholeProofsUptoRow.holds Try.pinned (OpenSpec.upto wholeProofsSpec)

end Rows
end Go.Proofs.Ytfgpchffkpomoaa
