/-
  No cell of these rows narrows 'for every input' (looked for: loops, veiled, ifaces, maps, wideKeys, modest, calm, conditions, laid).
  DERIVED. THE GIVEN ROWS OF THIS SEAT. 4 by the template 'for every input the law returns true; each argument reads behind the call as it read before'; 0 by the template 'total and deterministic' (their statements: YtallanlajecmhaaTotals.lean).
  GIVEN WITH THE SEED: the statements are not yours to turn. If you find one false, say at which input.
  Laid BY PROGRAM, IN A SANDBOX (cutbox-rows.mjs): the forced cells as the released guide's own fill.sh prints them over the translation 5df463a9a747ce01… (all of the seat's roots in one cut). By AI agents, Wed Nov 11 2026. No macro, syntax, notation, axiom, sorry.
-/
import Derived.Test.YtallanlajecmhaaChecked
import GoSem.Claim
import GoSem.ClaimJoined
import GoSem.ClaimMapViews
import Derived.JoinedTies
import Derived.KernelRfl
namespace Go.Proofs.Ytallanlajecmhaa
/- THE CELL 'sum', in the pinned program and in every row, IS THE sha256 OF THE DUMP (.gsa) THAT YtallanlajecmhaaProg.lean LOADS. Nothing in Lean hashes anything: it is a label: what it is worth is what the hold of that sum in a sandbox is worth. -/
noncomputable def Try.pinned : Pinned := { name := "ytallanlajecmhaa", sum := "5df463a9a747ce0117d08f12267e4136f6f59817fe5eb32656c944d191127e80", checked := Try.checked }
namespace Rows
def none {H : Type} : Left H := { results := [], args := [] }

/-- 'locketlaw14.GuardGood': WHATEVER THE INPUT: true; the input reads as it did. -/
def guardGoodSpec : ChangeSpec := { name := "guardGood", fn := fun _ => fun
  | [d1, d2, d3] => { results := [.lit (.bool true)], args := [d1, d2, d3] }
  | _ => none }
def guardGoodRow : OpenClaim := { program := "ytallanlajecmhaa", sum := "5df463a9a747ce0117d08f12267e4136f6f59817fe5eb32656c944d191127e80", func := "locket/locketlaw14.GuardGood", spec := "guardGood", unfollowed := true, recurses := true, apart := false }
def GuardGoodSaid : Prop := guardGoodRow.holds Try.pinned (OpenSpec.ofChange guardGoodSpec)

/-- ITS FALSE NEIGHBOUR: 'it returns false'. Refute it at one input. -/
def guardGoodWrong : ChangeSpec := { name := "guardGood", fn := fun _ => fun
  | [d1, d2, d3] => { results := [.lit (.bool false)], args := [d1, d2, d3] }
  | _ => none }
def GuardGoodWrongFalsely : Prop := guardGoodRow.holds Try.pinned (OpenSpec.ofChange guardGoodWrong)

/-- 'locketlaw14.GuardRises': WHATEVER THE INPUT: true; the input reads as it did. -/
def guardRisesSpec : ChangeSpec := { name := "guardRises", fn := fun _ => fun
  | [d1, d2, d3] => { results := [.lit (.bool true)], args := [d1, d2, d3] }
  | _ => none }
def guardRisesRow : OpenClaim := { program := "ytallanlajecmhaa", sum := "5df463a9a747ce0117d08f12267e4136f6f59817fe5eb32656c944d191127e80", func := "locket/locketlaw14.GuardRises", spec := "guardRises", unfollowed := true, recurses := true, apart := false }
def GuardRisesSaid : Prop := guardRisesRow.holds Try.pinned (OpenSpec.ofChange guardRisesSpec)

/-- ITS FALSE NEIGHBOUR: 'it returns false'. Refute it at one input. -/
def guardRisesWrong : ChangeSpec := { name := "guardRises", fn := fun _ => fun
  | [d1, d2, d3] => { results := [.lit (.bool false)], args := [d1, d2, d3] }
  | _ => none }
def GuardRisesWrongFalsely : Prop := guardRisesRow.holds Try.pinned (OpenSpec.ofChange guardRisesWrong)

/-- 'locketlaw14.GuardPlays': WHATEVER THE INPUT: true; the input reads as it did. -/
def guardPlaysSpec : ChangeSpec := { name := "guardPlays", fn := fun _ => fun
  | [d1, d2] => { results := [.lit (.bool true)], args := [d1, d2] }
  | _ => none }
def guardPlaysRow : OpenClaim := { program := "ytallanlajecmhaa", sum := "5df463a9a747ce0117d08f12267e4136f6f59817fe5eb32656c944d191127e80", func := "locket/locketlaw14.GuardPlays", spec := "guardPlays", unfollowed := true, recurses := true, apart := false }
def GuardPlaysSaid : Prop := guardPlaysRow.holds Try.pinned (OpenSpec.ofChange guardPlaysSpec)

/-- ITS FALSE NEIGHBOUR: 'it returns false'. Refute it at one input. -/
def guardPlaysWrong : ChangeSpec := { name := "guardPlays", fn := fun _ => fun
  | [d1, d2] => { results := [.lit (.bool false)], args := [d1, d2] }
  | _ => none }
def GuardPlaysWrongFalsely : Prop := guardPlaysRow.holds Try.pinned (OpenSpec.ofChange guardPlaysWrong)

/-- 'locketlaw14.GuardLoads': WHATEVER THE INPUT: true; the input reads as it did. -/
def guardLoadsSpec : ChangeSpec := { name := "guardLoads", fn := fun _ => fun
  | [d1, d2, d3] => { results := [.lit (.bool true)], args := [d1, d2, d3] }
  | _ => none }
def guardLoadsRow : OpenClaim := { program := "ytallanlajecmhaa", sum := "5df463a9a747ce0117d08f12267e4136f6f59817fe5eb32656c944d191127e80", func := "locket/locketlaw14.GuardLoads", spec := "guardLoads", unfollowed := true, recurses := true, apart := false }
def GuardLoadsSaid : Prop := guardLoadsRow.holds Try.pinned (OpenSpec.ofChange guardLoadsSpec)

/-- ITS FALSE NEIGHBOUR: 'it returns false'. Refute it at one input. -/
def guardLoadsWrong : ChangeSpec := { name := "guardLoads", fn := fun _ => fun
  | [d1, d2, d3] => { results := [.lit (.bool false)], args := [d1, d2, d3] }
  | _ => none }
def GuardLoadsWrongFalsely : Prop := guardLoadsRow.holds Try.pinned (OpenSpec.ofChange guardLoadsWrong)

/- THE SECOND FORM. 'bulk': how many values and letters a reading holds, each counted each time it is reached (what is shared counts as often as it is met; a slice's spare places count too). A statement '..UptoSaid' is the law's where the arguments, and the package variables that the reading takes, are together of bulk at most 1048576: NARROWER than '..Said'. Prove '..Said' where nothing that the law and all that it calls make is longer than what came in: it says more and counts as full. Else prove '..UptoSaid'. A law counts once. -/
mutual
def uptoBulk {H : Type} : DataW H → Nat
  | .lit (.string bytes) => bytes.length + 1
  | .lit _ => 1
  | .nil => 1
  | .ptr d => uptoBulk d + 1
  | .slice elems spare => uptoBulkAll elems + uptoBulkAll spare + 1
  | .agg parts => uptoBulkAll parts + 1
  | .iface _ d => uptoBulk d + 1
  | .map entries => uptoBulkEntries entries + 1
  | .held _ => 1
def uptoBulkAll {H : Type} : List (DataW H) → Nat
  | [] => 0
  | d :: r => uptoBulk d + uptoBulkAll r
def uptoBulkEntries {H : Type} : List (Lit × DataW H) → Nat
  | [] => 0
  | x :: r => uptoBulkEntry x + uptoBulkEntries r
def uptoBulkEntry {H : Type} : Lit × DataW H → Nat
  | (.string bytes, d) => bytes.length + uptoBulk d + 1
  | (_, d) => uptoBulk d + 1
 end
def uptoSmall : (H : Type) → List (DataW H) → Bool := fun _ ds => decide (uptoBulkAll ds ≤ 1048576)
def OpenSpec.upto (s : _root_.Go.ChangeSpec) : _root_.Go.OpenSpec := { _root_.Go.OpenSpec.ofChange s with cond := some uptoSmall }

/-- 'locketlaw14.GuardGood', WHERE WHAT IT READS IS OF BULK AT MOST 1048576: true; the input reads as it did. -/
def guardGoodUptoRow : OpenClaim := { program := "ytallanlajecmhaa", sum := "5df463a9a747ce0117d08f12267e4136f6f59817fe5eb32656c944d191127e80", func := "locket/locketlaw14.GuardGood", spec := "guardGood", unfollowed := true, recurses := true, apart := false, narrowed := true }
def GuardGoodUptoSaid : Prop := guardGoodUptoRow.holds Try.pinned (OpenSpec.upto guardGoodSpec)

/-- 'locketlaw14.GuardRises', WHERE WHAT IT READS IS OF BULK AT MOST 1048576: true; the input reads as it did. -/
def guardRisesUptoRow : OpenClaim := { program := "ytallanlajecmhaa", sum := "5df463a9a747ce0117d08f12267e4136f6f59817fe5eb32656c944d191127e80", func := "locket/locketlaw14.GuardRises", spec := "guardRises", unfollowed := true, recurses := true, apart := false, narrowed := true }
def GuardRisesUptoSaid : Prop := guardRisesUptoRow.holds Try.pinned (OpenSpec.upto guardRisesSpec)

/-- 'locketlaw14.GuardPlays', WHERE WHAT IT READS IS OF BULK AT MOST 1048576: true; the input reads as it did. -/
def guardPlaysUptoRow : OpenClaim := { program := "ytallanlajecmhaa", sum := "5df463a9a747ce0117d08f12267e4136f6f59817fe5eb32656c944d191127e80", func := "locket/locketlaw14.GuardPlays", spec := "guardPlays", unfollowed := true, recurses := true, apart := false, narrowed := true }
def GuardPlaysUptoSaid : Prop := guardPlaysUptoRow.holds Try.pinned (OpenSpec.upto guardPlaysSpec)

/-- 'locketlaw14.GuardLoads', WHERE WHAT IT READS IS OF BULK AT MOST 1048576: true; the input reads as it did. -/
def guardLoadsUptoRow : OpenClaim := { program := "ytallanlajecmhaa", sum := "5df463a9a747ce0117d08f12267e4136f6f59817fe5eb32656c944d191127e80", func := "locket/locketlaw14.GuardLoads", spec := "guardLoads", unfollowed := true, recurses := true, apart := false, narrowed := true }
def GuardLoadsUptoSaid : Prop := guardLoadsUptoRow.holds Try.pinned (OpenSpec.upto guardLoadsSpec)

end Rows
end Go.Proofs.Ytallanlajecmhaa
