/-
  NARROWER THAN 'FOR EVERY INPUT', by the rows' own cells (each row's printed sentence says how): SlotsLong: laid · SlotsFull: laid · SlotsPlays: laid · SlotsEach: laid · SlotsApart: laid.
  DERIVED. THE GIVEN ROWS OF THIS SEAT. 5 by the template 'for every input the law returns true; each argument reads behind the call as it read before'; 0 by the template 'total and deterministic' (their statements: YthjomnaejhehoaaGreatDoorTotals.lean).
  GIVEN WITH THE SEED: the statements are not yours to turn. If you find one false, say at which input.
  Laid BY PROGRAM, IN A SANDBOX (cutbox-rows.mjs): the forced cells as the released guide's own fill.sh prints them over the translation 0a9d02d3f1fea756… (all of the seat's roots in one cut). By AI agents, Wed Nov 11 2026. No macro, syntax, notation, axiom, sorry.
-/
import Derived.Test.YthjomnaejhehoaaGreatDoorChecked
import GoSem.Claim
import GoSem.ClaimJoined
import GoSem.ClaimMapViews
import Derived.JoinedTies
import Derived.KernelRfl
namespace Go.Proofs.YthjomnaejhehoaaGreatDoor
/- THE CELL 'sum', in the pinned program and in every row, IS THE sha256 OF THE DUMP (.gsa) THAT YthjomnaejhehoaaGreatDoorProg.lean LOADS. Nothing in Lean hashes anything: it is a label: what it is worth is what the hold of that sum in a sandbox is worth. -/
noncomputable def Tryz.pinned : Pinned := { name := "ythjomnaejhehoaagreatdoor", sum := "0a9d02d3f1fea7561faea9f9af9d13190f389810742ccddd989cf344c46f4ba2", checked := Tryz.checked }
namespace Rows
def none {H : Type} : Left H := { results := [], args := [] }

/- WHAT THE LISTED PACKAGE-LEVEL VARIABLES READ AS WHEN THE CALL BEGINS. Each datum BY PROGRAM (the guide's laid-datum.mjs) off the statement by which the dump's own 'gosem.cut.vars' lays the variable. In a bare row this is a premise. The card (YthjomnaejhehoaaGreatDoorCards.lean) ties it to the program's text. -/
def laid_math_bits_deBruijn64tab {H : Type} : DataW H := .agg [.lit (.int .u8 0), .lit (.int .u8 1), .lit (.int .u8 56), .lit (.int .u8 2), .lit (.int .u8 57), .lit (.int .u8 49), .lit (.int .u8 28), .lit (.int .u8 3), .lit (.int .u8 61), .lit (.int .u8 58), .lit (.int .u8 42), .lit (.int .u8 50), .lit (.int .u8 38), .lit (.int .u8 29), .lit (.int .u8 17), .lit (.int .u8 4), .lit (.int .u8 62), .lit (.int .u8 47), .lit (.int .u8 59), .lit (.int .u8 36), .lit (.int .u8 45), .lit (.int .u8 43), .lit (.int .u8 51), .lit (.int .u8 22), .lit (.int .u8 53), .lit (.int .u8 39), .lit (.int .u8 33), .lit (.int .u8 30), .lit (.int .u8 24), .lit (.int .u8 18), .lit (.int .u8 12), .lit (.int .u8 5), .lit (.int .u8 63), .lit (.int .u8 55), .lit (.int .u8 48), .lit (.int .u8 27), .lit (.int .u8 60), .lit (.int .u8 41), .lit (.int .u8 37), .lit (.int .u8 16), .lit (.int .u8 46), .lit (.int .u8 35), .lit (.int .u8 44), .lit (.int .u8 21), .lit (.int .u8 52), .lit (.int .u8 32), .lit (.int .u8 23), .lit (.int .u8 11), .lit (.int .u8 54), .lit (.int .u8 26), .lit (.int .u8 40), .lit (.int .u8 15), .lit (.int .u8 34), .lit (.int .u8 20), .lit (.int .u8 31), .lit (.int .u8 10), .lit (.int .u8 25), .lit (.int .u8 14), .lit (.int .u8 19), .lit (.int .u8 9), .lit (.int .u8 13), .lit (.int .u8 8), .lit (.int .u8 7), .lit (.int .u8 6)]

/-- 'locketlaw9.SlotsLong': WHATEVER THE INPUT: true; the input reads as it did. -/
def slotsLongSpec : ChangeSpec := { name := "slotsLong", fn := fun _ => fun
  | [d1, d2, d3] => { results := [.lit (.bool true)], args := [d1, d2, d3] }
  | _ => none }
def slotsLongRow : OpenClaim := { program := "ythjomnaejhehoaagreatdoor", sum := "0a9d02d3f1fea7561faea9f9af9d13190f389810742ccddd989cf344c46f4ba2", func := "locket/locketlaw9.SlotsLong", spec := "slotsLong", inPlace := ["sync/atomic.AddInt64", "maps.clone", "internal/reflectlite.TypeOf", "sync/atomic.LoadInt64"], unfollowed := true, recurses := true, named := ["math/bits.deBruijn64tab"], apart := false, laid := [("math/bits.deBruijn64tab", laid_math_bits_deBruijn64tab)] }
def SlotsLongSaid : Prop := slotsLongRow.holds Tryz.pinned (OpenSpec.ofChange slotsLongSpec)

/-- ITS FALSE NEIGHBOUR: 'it returns false'. Refute it at one input. -/
def slotsLongWrong : ChangeSpec := { name := "slotsLong", fn := fun _ => fun
  | [d1, d2, d3] => { results := [.lit (.bool false)], args := [d1, d2, d3] }
  | _ => none }
def SlotsLongWrongFalsely : Prop := slotsLongRow.holds Tryz.pinned (OpenSpec.ofChange slotsLongWrong)

/-- 'locketlaw9.SlotsFull': WHATEVER THE INPUT: true; the input reads as it did. -/
def slotsFullSpec : ChangeSpec := { name := "slotsFull", fn := fun _ => fun
  | [d1, d2] => { results := [.lit (.bool true)], args := [d1, d2] }
  | _ => none }
def slotsFullRow : OpenClaim := { program := "ythjomnaejhehoaagreatdoor", sum := "0a9d02d3f1fea7561faea9f9af9d13190f389810742ccddd989cf344c46f4ba2", func := "locket/locketlaw9.SlotsFull", spec := "slotsFull", inPlace := ["sync/atomic.AddInt64", "maps.clone", "internal/reflectlite.TypeOf", "sync/atomic.LoadInt64"], unfollowed := true, recurses := true, named := ["math/bits.deBruijn64tab"], apart := false, laid := [("math/bits.deBruijn64tab", laid_math_bits_deBruijn64tab)] }
def SlotsFullSaid : Prop := slotsFullRow.holds Tryz.pinned (OpenSpec.ofChange slotsFullSpec)

/-- ITS FALSE NEIGHBOUR: 'it returns false'. Refute it at one input. -/
def slotsFullWrong : ChangeSpec := { name := "slotsFull", fn := fun _ => fun
  | [d1, d2] => { results := [.lit (.bool false)], args := [d1, d2] }
  | _ => none }
def SlotsFullWrongFalsely : Prop := slotsFullRow.holds Tryz.pinned (OpenSpec.ofChange slotsFullWrong)

/-- 'locketlaw9.SlotsPlays': WHATEVER THE INPUT: true; the input reads as it did. -/
def slotsPlaysSpec : ChangeSpec := { name := "slotsPlays", fn := fun _ => fun
  | [d1, d2] => { results := [.lit (.bool true)], args := [d1, d2] }
  | _ => none }
def slotsPlaysRow : OpenClaim := { program := "ythjomnaejhehoaagreatdoor", sum := "0a9d02d3f1fea7561faea9f9af9d13190f389810742ccddd989cf344c46f4ba2", func := "locket/locketlaw9.SlotsPlays", spec := "slotsPlays", inPlace := ["sync/atomic.AddInt64", "maps.clone", "internal/reflectlite.TypeOf", "sync/atomic.LoadInt64"], unfollowed := true, recurses := true, named := ["math/bits.deBruijn64tab"], apart := false, laid := [("math/bits.deBruijn64tab", laid_math_bits_deBruijn64tab)] }
def SlotsPlaysSaid : Prop := slotsPlaysRow.holds Tryz.pinned (OpenSpec.ofChange slotsPlaysSpec)

/-- ITS FALSE NEIGHBOUR: 'it returns false'. Refute it at one input. -/
def slotsPlaysWrong : ChangeSpec := { name := "slotsPlays", fn := fun _ => fun
  | [d1, d2] => { results := [.lit (.bool false)], args := [d1, d2] }
  | _ => none }
def SlotsPlaysWrongFalsely : Prop := slotsPlaysRow.holds Tryz.pinned (OpenSpec.ofChange slotsPlaysWrong)

/-- 'locketlaw9.SlotsEach': WHATEVER THE INPUT: true; the input reads as it did. -/
def slotsEachSpec : ChangeSpec := { name := "slotsEach", fn := fun _ => fun
  | [d1, d2, d3] => { results := [.lit (.bool true)], args := [d1, d2, d3] }
  | _ => none }
def slotsEachRow : OpenClaim := { program := "ythjomnaejhehoaagreatdoor", sum := "0a9d02d3f1fea7561faea9f9af9d13190f389810742ccddd989cf344c46f4ba2", func := "locket/locketlaw9.SlotsEach", spec := "slotsEach", inPlace := ["sync/atomic.AddInt64", "maps.clone", "internal/reflectlite.TypeOf", "sync/atomic.LoadInt64"], unfollowed := true, recurses := true, named := ["math/bits.deBruijn64tab"], apart := false, laid := [("math/bits.deBruijn64tab", laid_math_bits_deBruijn64tab)] }
def SlotsEachSaid : Prop := slotsEachRow.holds Tryz.pinned (OpenSpec.ofChange slotsEachSpec)

/-- ITS FALSE NEIGHBOUR: 'it returns false'. Refute it at one input. -/
def slotsEachWrong : ChangeSpec := { name := "slotsEach", fn := fun _ => fun
  | [d1, d2, d3] => { results := [.lit (.bool false)], args := [d1, d2, d3] }
  | _ => none }
def SlotsEachWrongFalsely : Prop := slotsEachRow.holds Tryz.pinned (OpenSpec.ofChange slotsEachWrong)

/-- 'locketlaw9.SlotsApart': WHATEVER THE INPUT: true; the input reads as it did. -/
def slotsApartSpec : ChangeSpec := { name := "slotsApart", fn := fun _ => fun
  | [d1, d2] => { results := [.lit (.bool true)], args := [d1, d2] }
  | _ => none }
def slotsApartRow : OpenClaim := { program := "ythjomnaejhehoaagreatdoor", sum := "0a9d02d3f1fea7561faea9f9af9d13190f389810742ccddd989cf344c46f4ba2", func := "locket/locketlaw9.SlotsApart", spec := "slotsApart", inPlace := ["sync/atomic.AddInt64", "maps.clone", "internal/reflectlite.TypeOf", "sync/atomic.LoadInt64"], unfollowed := true, recurses := true, named := ["math/bits.deBruijn64tab"], apart := false, laid := [("math/bits.deBruijn64tab", laid_math_bits_deBruijn64tab)] }
def SlotsApartSaid : Prop := slotsApartRow.holds Tryz.pinned (OpenSpec.ofChange slotsApartSpec)

/-- ITS FALSE NEIGHBOUR: 'it returns false'. Refute it at one input. -/
def slotsApartWrong : ChangeSpec := { name := "slotsApart", fn := fun _ => fun
  | [d1, d2] => { results := [.lit (.bool false)], args := [d1, d2] }
  | _ => none }
def SlotsApartWrongFalsely : Prop := slotsApartRow.holds Tryz.pinned (OpenSpec.ofChange slotsApartWrong)

/- THE SECOND FORM. 'bulk': how many values and letters a reading holds, each counted each time it is reached (what is shared counts as often as it is met; a slice's spare places count too). A statement '..UptoSaid' is the law's where the arguments, and the package variables that the reading takes, are together of bulk at most 1048576: NARROWER than '..Said'. Prove '..Said' where nothing that the law and all that it calls make is longer than what came in: it says more and counts as full. Else prove '..UptoSaid'. A law counts once. -/
mutual
def uptoBulk {H : Type} : DataW H → Nat
  | .lit (.string bytes) => bytes.length + 1
  | .lit _ => 1
  | .nil => 1
  | .ptr d => uptoBulk d + 1
  | .slice elems spare => uptoBulkAll elems + uptoBulkAll spare + 1
  | .agg parts => uptoBulkAll parts + 1
  | .iface _ d => uptoBulk d + 1
  | .map entries => uptoBulkEntries entries + 1
  | .held _ => 1
def uptoBulkAll {H : Type} : List (DataW H) → Nat
  | [] => 0
  | d :: r => uptoBulk d + uptoBulkAll r
def uptoBulkEntries {H : Type} : List (Lit × DataW H) → Nat
  | [] => 0
  | x :: r => uptoBulkEntry x + uptoBulkEntries r
def uptoBulkEntry {H : Type} : Lit × DataW H → Nat
  | (.string bytes, d) => bytes.length + uptoBulk d + 1
  | (_, d) => uptoBulk d + 1
 end
def uptoSmall : (H : Type) → List (DataW H) → Bool := fun _ ds => decide (uptoBulkAll ds ≤ 1048576)
def OpenSpec.upto (s : _root_.Go.ChangeSpec) : _root_.Go.OpenSpec := { _root_.Go.OpenSpec.ofChange s with cond := some uptoSmall }

/-- 'locketlaw9.SlotsLong', WHERE WHAT IT READS IS OF BULK AT MOST 1048576: true; the input reads as it did. -/
def slotsLongUptoRow : OpenClaim := { program := "ythjomnaejhehoaagreatdoor", sum := "0a9d02d3f1fea7561faea9f9af9d13190f389810742ccddd989cf344c46f4ba2", func := "locket/locketlaw9.SlotsLong", spec := "slotsLong", inPlace := ["sync/atomic.AddInt64", "maps.clone", "internal/reflectlite.TypeOf", "sync/atomic.LoadInt64"], unfollowed := true, recurses := true, named := ["math/bits.deBruijn64tab"], apart := false, laid := [("math/bits.deBruijn64tab", laid_math_bits_deBruijn64tab)], narrowed := true }
def SlotsLongUptoSaid : Prop := slotsLongUptoRow.holds Tryz.pinned (OpenSpec.upto slotsLongSpec)

/-- 'locketlaw9.SlotsFull', WHERE WHAT IT READS IS OF BULK AT MOST 1048576: true; the input reads as it did. -/
def slotsFullUptoRow : OpenClaim := { program := "ythjomnaejhehoaagreatdoor", sum := "0a9d02d3f1fea7561faea9f9af9d13190f389810742ccddd989cf344c46f4ba2", func := "locket/locketlaw9.SlotsFull", spec := "slotsFull", inPlace := ["sync/atomic.AddInt64", "maps.clone", "internal/reflectlite.TypeOf", "sync/atomic.LoadInt64"], unfollowed := true, recurses := true, named := ["math/bits.deBruijn64tab"], apart := false, laid := [("math/bits.deBruijn64tab", laid_math_bits_deBruijn64tab)], narrowed := true }
def SlotsFullUptoSaid : Prop := slotsFullUptoRow.holds Tryz.pinned (OpenSpec.upto slotsFullSpec)

/-- 'locketlaw9.SlotsPlays', WHERE WHAT IT READS IS OF BULK AT MOST 1048576: true; the input reads as it did. -/
def slotsPlaysUptoRow : OpenClaim := { program := "ythjomnaejhehoaagreatdoor", sum := "0a9d02d3f1fea7561faea9f9af9d13190f389810742ccddd989cf344c46f4ba2", func := "locket/locketlaw9.SlotsPlays", spec := "slotsPlays", inPlace := ["sync/atomic.AddInt64", "maps.clone", "internal/reflectlite.TypeOf", "sync/atomic.LoadInt64"], unfollowed := true, recurses := true, named := ["math/bits.deBruijn64tab"], apart := false, laid := [("math/bits.deBruijn64tab", laid_math_bits_deBruijn64tab)], narrowed := true }
def SlotsPlaysUptoSaid : Prop := slotsPlaysUptoRow.holds Tryz.pinned (OpenSpec.upto slotsPlaysSpec)

/-- 'locketlaw9.SlotsEach', WHERE WHAT IT READS IS OF BULK AT MOST 1048576: true; the input reads as it did. -/
def slotsEachUptoRow : OpenClaim := { program := "ythjomnaejhehoaagreatdoor", sum := "0a9d02d3f1fea7561faea9f9af9d13190f389810742ccddd989cf344c46f4ba2", func := "locket/locketlaw9.SlotsEach", spec := "slotsEach", inPlace := ["sync/atomic.AddInt64", "maps.clone", "internal/reflectlite.TypeOf", "sync/atomic.LoadInt64"], unfollowed := true, recurses := true, named := ["math/bits.deBruijn64tab"], apart := false, laid := [("math/bits.deBruijn64tab", laid_math_bits_deBruijn64tab)], narrowed := true }
def SlotsEachUptoSaid : Prop := slotsEachUptoRow.holds Tryz.pinned (OpenSpec.upto slotsEachSpec)

/-- 'locketlaw9.SlotsApart', WHERE WHAT IT READS IS OF BULK AT MOST 1048576: true; the input reads as it did. -/
def slotsApartUptoRow : OpenClaim := { program := "ythjomnaejhehoaagreatdoor", sum := "0a9d02d3f1fea7561faea9f9af9d13190f389810742ccddd989cf344c46f4ba2", func := "locket/locketlaw9.SlotsApart", spec := "slotsApart", inPlace := ["sync/atomic.AddInt64", "maps.clone", "internal/reflectlite.TypeOf", "sync/atomic.LoadInt64"], unfollowed := true, recurses := true, named := ["math/bits.deBruijn64tab"], apart := false, laid := [("math/bits.deBruijn64tab", laid_math_bits_deBruijn64tab)], narrowed := true }
def SlotsApartUptoSaid : Prop := slotsApartUptoRow.holds Tryz.pinned (OpenSpec.upto slotsApartSpec)

end Rows
end Go.Proofs.YthjomnaejhehoaaGreatDoor
