/-
  No cell of these rows narrows 'for every input' (looked for: loops, veiled, ifaces, maps, wideKeys, modest, calm, conditions, laid).
  DERIVED. THE GIVEN ROWS OF THIS SEAT. 5 by the template 'for every input the law returns true; each argument reads behind the call as it read before'; 0 by the template 'total and deterministic' (their statements: YtfipmpajdkgffaaTotals.lean).
  GIVEN WITH THE SEED: the statements are not yours to turn. If you find one false, say at which input.
  Laid BY PROGRAM, IN A SANDBOX (cutbox-rows.mjs): the forced cells as the released guide's own fill.sh prints them over the translation af63899db3d0757b… (all of the seat's roots in one cut). By AI agents, Wed Nov 11 2026. No macro, syntax, notation, axiom, sorry.
-/
import Derived.Test.YtfipmpajdkgffaaChecked
import GoSem.Claim
import GoSem.ClaimJoined
import GoSem.ClaimMapViews
import Derived.JoinedTies
import Derived.KernelRfl
namespace Go.Proofs.Ytfipmpajdkgffaa
/- THE CELL 'sum', in the pinned program and in every row, IS THE sha256 OF THE DUMP (.gsa) THAT YtfipmpajdkgffaaProg.lean LOADS. Nothing in Lean hashes anything: it is a label: what it is worth is what the hold of that sum in a sandbox is worth. -/
noncomputable def Try.pinned : Pinned := { name := "ytfipmpajdkgffaa", sum := "af63899db3d0757b929c98c682e3159bb95e67aebe837159203a0c2ad3bfc170", checked := Try.checked }
namespace Rows
def none {H : Type} : Left H := { results := [], args := [] }

/-- 'locketlaw10.MapOrders': WHATEVER THE INPUT: true; the input reads as it did. -/
def mapOrdersSpec : ChangeSpec := { name := "mapOrders", fn := fun _ => fun
  | [d1, d2, d3, d4] => { results := [.lit (.bool true)], args := [d1, d2, d3, d4] }
  | _ => none }
def mapOrdersRow : OpenClaim := { program := "ytfipmpajdkgffaa", sum := "af63899db3d0757b929c98c682e3159bb95e67aebe837159203a0c2ad3bfc170", func := "locket/locketlaw10.MapOrders", spec := "mapOrders", unfollowed := true, recurses := true, apart := false }
def MapOrdersSaid : Prop := mapOrdersRow.holds Try.pinned (OpenSpec.ofChange mapOrdersSpec)

/-- ITS FALSE NEIGHBOUR: 'it returns false'. Refute it at one input. -/
def mapOrdersWrong : ChangeSpec := { name := "mapOrders", fn := fun _ => fun
  | [d1, d2, d3, d4] => { results := [.lit (.bool false)], args := [d1, d2, d3, d4] }
  | _ => none }
def MapOrdersWrongFalsely : Prop := mapOrdersRow.holds Try.pinned (OpenSpec.ofChange mapOrdersWrong)

/-- 'locketlaw10.MapLoads': WHATEVER THE INPUT: true; the input reads as it did. -/
def mapLoadsSpec : ChangeSpec := { name := "mapLoads", fn := fun _ => fun
  | [d1, d2, d3, d4] => { results := [.lit (.bool true)], args := [d1, d2, d3, d4] }
  | _ => none }
def mapLoadsRow : OpenClaim := { program := "ytfipmpajdkgffaa", sum := "af63899db3d0757b929c98c682e3159bb95e67aebe837159203a0c2ad3bfc170", func := "locket/locketlaw10.MapLoads", spec := "mapLoads", unfollowed := true, recurses := true, apart := false }
def MapLoadsSaid : Prop := mapLoadsRow.holds Try.pinned (OpenSpec.ofChange mapLoadsSpec)

/-- ITS FALSE NEIGHBOUR: 'it returns false'. Refute it at one input. -/
def mapLoadsWrong : ChangeSpec := { name := "mapLoads", fn := fun _ => fun
  | [d1, d2, d3, d4] => { results := [.lit (.bool false)], args := [d1, d2, d3, d4] }
  | _ => none }
def MapLoadsWrongFalsely : Prop := mapLoadsRow.holds Try.pinned (OpenSpec.ofChange mapLoadsWrong)

/-- 'locketlaw10.MapPlays': WHATEVER THE INPUT: true; the input reads as it did. -/
def mapPlaysSpec : ChangeSpec := { name := "mapPlays", fn := fun _ => fun
  | [d1, d2, d3, d4] => { results := [.lit (.bool true)], args := [d1, d2, d3, d4] }
  | _ => none }
def mapPlaysRow : OpenClaim := { program := "ytfipmpajdkgffaa", sum := "af63899db3d0757b929c98c682e3159bb95e67aebe837159203a0c2ad3bfc170", func := "locket/locketlaw10.MapPlays", spec := "mapPlays", unfollowed := true, recurses := true, apart := false }
def MapPlaysSaid : Prop := mapPlaysRow.holds Try.pinned (OpenSpec.ofChange mapPlaysSpec)

/-- ITS FALSE NEIGHBOUR: 'it returns false'. Refute it at one input. -/
def mapPlaysWrong : ChangeSpec := { name := "mapPlays", fn := fun _ => fun
  | [d1, d2, d3, d4] => { results := [.lit (.bool false)], args := [d1, d2, d3, d4] }
  | _ => none }
def MapPlaysWrongFalsely : Prop := mapPlaysRow.holds Try.pinned (OpenSpec.ofChange mapPlaysWrong)

/-- 'locketlaw10.MapFull': WHATEVER THE INPUT: true; the input reads as it did. -/
def mapFullSpec : ChangeSpec := { name := "mapFull", fn := fun _ => fun
  | [d1, d2, d3, d4, d5] => { results := [.lit (.bool true)], args := [d1, d2, d3, d4, d5] }
  | _ => none }
def mapFullRow : OpenClaim := { program := "ytfipmpajdkgffaa", sum := "af63899db3d0757b929c98c682e3159bb95e67aebe837159203a0c2ad3bfc170", func := "locket/locketlaw10.MapFull", spec := "mapFull", unfollowed := true, recurses := true, apart := false }
def MapFullSaid : Prop := mapFullRow.holds Try.pinned (OpenSpec.ofChange mapFullSpec)

/-- ITS FALSE NEIGHBOUR: 'it returns false'. Refute it at one input. -/
def mapFullWrong : ChangeSpec := { name := "mapFull", fn := fun _ => fun
  | [d1, d2, d3, d4, d5] => { results := [.lit (.bool false)], args := [d1, d2, d3, d4, d5] }
  | _ => none }
def MapFullWrongFalsely : Prop := mapFullRow.holds Try.pinned (OpenSpec.ofChange mapFullWrong)

/-- 'locketlaw10.MapBad': WHATEVER THE INPUT: true; the input reads as it did. -/
def mapBadSpec : ChangeSpec := { name := "mapBad", fn := fun _ => fun
  | [d1, d2, d3, d4] => { results := [.lit (.bool true)], args := [d1, d2, d3, d4] }
  | _ => none }
def mapBadRow : OpenClaim := { program := "ytfipmpajdkgffaa", sum := "af63899db3d0757b929c98c682e3159bb95e67aebe837159203a0c2ad3bfc170", func := "locket/locketlaw10.MapBad", spec := "mapBad", unfollowed := true, recurses := true, apart := false }
def MapBadSaid : Prop := mapBadRow.holds Try.pinned (OpenSpec.ofChange mapBadSpec)

/-- ITS FALSE NEIGHBOUR: 'it returns false'. Refute it at one input. -/
def mapBadWrong : ChangeSpec := { name := "mapBad", fn := fun _ => fun
  | [d1, d2, d3, d4] => { results := [.lit (.bool false)], args := [d1, d2, d3, d4] }
  | _ => none }
def MapBadWrongFalsely : Prop := mapBadRow.holds Try.pinned (OpenSpec.ofChange mapBadWrong)

/- THE SECOND FORM. 'bulk': how many values and letters a reading holds, each counted each time it is reached (what is shared counts as often as it is met; a slice's spare places count too). A statement '..UptoSaid' is the law's where the arguments, and the package variables that the reading takes, are together of bulk at most 1048576: NARROWER than '..Said'. Prove '..Said' where nothing that the law and all that it calls make is longer than what came in: it says more and counts as full. Else prove '..UptoSaid'. A law counts once. -/
mutual
def uptoBulk {H : Type} : DataW H → Nat
  | .lit (.string bytes) => bytes.length + 1
  | .lit _ => 1
  | .nil => 1
  | .ptr d => uptoBulk d + 1
  | .slice elems spare => uptoBulkAll elems + uptoBulkAll spare + 1
  | .agg parts => uptoBulkAll parts + 1
  | .iface _ d => uptoBulk d + 1
  | .map entries => uptoBulkEntries entries + 1
  | .held _ => 1
def uptoBulkAll {H : Type} : List (DataW H) → Nat
  | [] => 0
  | d :: r => uptoBulk d + uptoBulkAll r
def uptoBulkEntries {H : Type} : List (Lit × DataW H) → Nat
  | [] => 0
  | x :: r => uptoBulkEntry x + uptoBulkEntries r
def uptoBulkEntry {H : Type} : Lit × DataW H → Nat
  | (.string bytes, d) => bytes.length + uptoBulk d + 1
  | (_, d) => uptoBulk d + 1
 end
def uptoSmall : (H : Type) → List (DataW H) → Bool := fun _ ds => decide (uptoBulkAll ds ≤ 1048576)
def OpenSpec.upto (s : _root_.Go.ChangeSpec) : _root_.Go.OpenSpec := { _root_.Go.OpenSpec.ofChange s with cond := some uptoSmall }

/-- 'locketlaw10.MapOrders', WHERE WHAT IT READS IS OF BULK AT MOST 1048576: true; the input reads as it did. -/
def mapOrdersUptoRow : OpenClaim := { program := "ytfipmpajdkgffaa", sum := "af63899db3d0757b929c98c682e3159bb95e67aebe837159203a0c2ad3bfc170", func := "locket/locketlaw10.MapOrders", spec := "mapOrders", unfollowed := true, recurses := true, apart := false, narrowed := true }
def MapOrdersUptoSaid : Prop := mapOrdersUptoRow.holds Try.pinned (OpenSpec.upto mapOrdersSpec)

/-- 'locketlaw10.MapLoads', WHERE WHAT IT READS IS OF BULK AT MOST 1048576: true; the input reads as it did. -/
def mapLoadsUptoRow : OpenClaim := { program := "ytfipmpajdkgffaa", sum := "af63899db3d0757b929c98c682e3159bb95e67aebe837159203a0c2ad3bfc170", func := "locket/locketlaw10.MapLoads", spec := "mapLoads", unfollowed := true, recurses := true, apart := false, narrowed := true }
def MapLoadsUptoSaid : Prop := mapLoadsUptoRow.holds Try.pinned (OpenSpec.upto mapLoadsSpec)

/-- 'locketlaw10.MapPlays', WHERE WHAT IT READS IS OF BULK AT MOST 1048576: true; the input reads as it did. -/
def mapPlaysUptoRow : OpenClaim := { program := "ytfipmpajdkgffaa", sum := "af63899db3d0757b929c98c682e3159bb95e67aebe837159203a0c2ad3bfc170", func := "locket/locketlaw10.MapPlays", spec := "mapPlays", unfollowed := true, recurses := true, apart := false, narrowed := true }
def MapPlaysUptoSaid : Prop := mapPlaysUptoRow.holds Try.pinned (OpenSpec.upto mapPlaysSpec)

/-- 'locketlaw10.MapFull', WHERE WHAT IT READS IS OF BULK AT MOST 1048576: true; the input reads as it did. -/
def mapFullUptoRow : OpenClaim := { program := "ytfipmpajdkgffaa", sum := "af63899db3d0757b929c98c682e3159bb95e67aebe837159203a0c2ad3bfc170", func := "locket/locketlaw10.MapFull", spec := "mapFull", unfollowed := true, recurses := true, apart := false, narrowed := true }
def MapFullUptoSaid : Prop := mapFullUptoRow.holds Try.pinned (OpenSpec.upto mapFullSpec)

/-- 'locketlaw10.MapBad', WHERE WHAT IT READS IS OF BULK AT MOST 1048576: true; the input reads as it did. -/
def mapBadUptoRow : OpenClaim := { program := "ytfipmpajdkgffaa", sum := "af63899db3d0757b929c98c682e3159bb95e67aebe837159203a0c2ad3bfc170", func := "locket/locketlaw10.MapBad", spec := "mapBad", unfollowed := true, recurses := true, apart := false, narrowed := true }
def MapBadUptoSaid : Prop := mapBadUptoRow.holds Try.pinned (OpenSpec.upto mapBadSpec)

end Rows
end Go.Proofs.Ytfipmpajdkgffaa
