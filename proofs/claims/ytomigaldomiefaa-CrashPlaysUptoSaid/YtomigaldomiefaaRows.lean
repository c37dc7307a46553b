/-
  No cell of these rows narrows 'for every input' (looked for: loops, veiled, ifaces, maps, wideKeys, modest, calm, conditions, laid).
  DERIVED. THE GIVEN ROWS OF THIS SEAT. 5 by the template 'for every input the law returns true; each argument reads behind the call as it read before'; 0 by the template 'total and deterministic' (their statements: YtomigaldomiefaaTotals.lean).
  GIVEN WITH THE SEED: the statements are not yours to turn. If you find one false, say at which input.
  Laid BY PROGRAM, IN A SANDBOX (cutbox-rows.mjs): the forced cells as the released guide's own fill.sh prints them over the translation c2b7039aed310253… (all of the seat's roots in one cut). By AI agents, Wed Nov 11 2026. No macro, syntax, notation, axiom, sorry.
-/
import Derived.Test.YtomigaldomiefaaChecked
import GoSem.Claim
import GoSem.ClaimJoined
import GoSem.ClaimMapViews
import Derived.JoinedTies
import Derived.KernelRfl
namespace Go.Proofs.Ytomigaldomiefaa
/- THE CELL 'sum', in the pinned program and in every row, IS THE sha256 OF THE DUMP (.gsa) THAT YtomigaldomiefaaProg.lean LOADS. Nothing in Lean hashes anything: it is a label: what it is worth is what the hold of that sum in a sandbox is worth. -/
noncomputable def Try.pinned : Pinned := { name := "ytomigaldomiefaa", sum := "c2b7039aed310253e3a68429d099f08bf8dac4f70f613347e269bf9f292712e0", checked := Try.checked }
namespace Rows
def none {H : Type} : Left H := { results := [], args := [] }

/-- 'locketlaw21.CrashStrict': WHATEVER THE INPUT: true; the input reads as it did. -/
def crashStrictSpec : ChangeSpec := { name := "crashStrict", fn := fun _ => fun
  | [d1, d2, d3, d4, d5] => { results := [.lit (.bool true)], args := [d1, d2, d3, d4, d5] }
  | _ => none }
def crashStrictRow : OpenClaim := { program := "ytomigaldomiefaa", sum := "c2b7039aed310253e3a68429d099f08bf8dac4f70f613347e269bf9f292712e0", func := "locket/locketlaw21.CrashStrict", spec := "crashStrict", unfollowed := true, recurses := true, plainKeys := false, apart := false }
def CrashStrictSaid : Prop := crashStrictRow.holds Try.pinned (OpenSpec.ofChange crashStrictSpec)

/-- ITS FALSE NEIGHBOUR: 'it returns false'. Refute it at one input. -/
def crashStrictWrong : ChangeSpec := { name := "crashStrict", fn := fun _ => fun
  | [d1, d2, d3, d4, d5] => { results := [.lit (.bool false)], args := [d1, d2, d3, d4, d5] }
  | _ => none }
def CrashStrictWrongFalsely : Prop := crashStrictRow.holds Try.pinned (OpenSpec.ofChange crashStrictWrong)

/-- 'locketlaw21.CrashHonest': WHATEVER THE INPUT: true; the input reads as it did. -/
def crashHonestSpec : ChangeSpec := { name := "crashHonest", fn := fun _ => fun
  | [d1, d2, d3, d4, d5, d6, d7] => { results := [.lit (.bool true)], args := [d1, d2, d3, d4, d5, d6, d7] }
  | _ => none }
def crashHonestRow : OpenClaim := { program := "ytomigaldomiefaa", sum := "c2b7039aed310253e3a68429d099f08bf8dac4f70f613347e269bf9f292712e0", func := "locket/locketlaw21.CrashHonest", spec := "crashHonest", unfollowed := true, recurses := true, plainKeys := false, apart := false }
def CrashHonestSaid : Prop := crashHonestRow.holds Try.pinned (OpenSpec.ofChange crashHonestSpec)

/-- ITS FALSE NEIGHBOUR: 'it returns false'. Refute it at one input. -/
def crashHonestWrong : ChangeSpec := { name := "crashHonest", fn := fun _ => fun
  | [d1, d2, d3, d4, d5, d6, d7] => { results := [.lit (.bool false)], args := [d1, d2, d3, d4, d5, d6, d7] }
  | _ => none }
def CrashHonestWrongFalsely : Prop := crashHonestRow.holds Try.pinned (OpenSpec.ofChange crashHonestWrong)

/-- 'locketlaw21.CrashWhole': WHATEVER THE INPUT: true; the input reads as it did. -/
def crashWholeSpec : ChangeSpec := { name := "crashWhole", fn := fun _ => fun
  | [d1, d2, d3, d4] => { results := [.lit (.bool true)], args := [d1, d2, d3, d4] }
  | _ => none }
def crashWholeRow : OpenClaim := { program := "ytomigaldomiefaa", sum := "c2b7039aed310253e3a68429d099f08bf8dac4f70f613347e269bf9f292712e0", func := "locket/locketlaw21.CrashWhole", spec := "crashWhole", unfollowed := true, recurses := true, plainKeys := false, apart := false }
def CrashWholeSaid : Prop := crashWholeRow.holds Try.pinned (OpenSpec.ofChange crashWholeSpec)

/-- ITS FALSE NEIGHBOUR: 'it returns false'. Refute it at one input. -/
def crashWholeWrong : ChangeSpec := { name := "crashWhole", fn := fun _ => fun
  | [d1, d2, d3, d4] => { results := [.lit (.bool false)], args := [d1, d2, d3, d4] }
  | _ => none }
def CrashWholeWrongFalsely : Prop := crashWholeRow.holds Try.pinned (OpenSpec.ofChange crashWholeWrong)

/-- 'locketlaw21.CrashMore': WHATEVER THE INPUT: true; the input reads as it did. -/
def crashMoreSpec : ChangeSpec := { name := "crashMore", fn := fun _ => fun
  | [d1, d2, d3, d4, d5] => { results := [.lit (.bool true)], args := [d1, d2, d3, d4, d5] }
  | _ => none }
def crashMoreRow : OpenClaim := { program := "ytomigaldomiefaa", sum := "c2b7039aed310253e3a68429d099f08bf8dac4f70f613347e269bf9f292712e0", func := "locket/locketlaw21.CrashMore", spec := "crashMore", unfollowed := true, recurses := true, plainKeys := false, apart := false }
def CrashMoreSaid : Prop := crashMoreRow.holds Try.pinned (OpenSpec.ofChange crashMoreSpec)

/-- ITS FALSE NEIGHBOUR: 'it returns false'. Refute it at one input. -/
def crashMoreWrong : ChangeSpec := { name := "crashMore", fn := fun _ => fun
  | [d1, d2, d3, d4, d5] => { results := [.lit (.bool false)], args := [d1, d2, d3, d4, d5] }
  | _ => none }
def CrashMoreWrongFalsely : Prop := crashMoreRow.holds Try.pinned (OpenSpec.ofChange crashMoreWrong)

/-- 'locketlaw21.CrashPlays': WHATEVER THE INPUT: true; the input reads as it did. -/
def crashPlaysSpec : ChangeSpec := { name := "crashPlays", fn := fun _ => fun
  | [d1, d2, d3] => { results := [.lit (.bool true)], args := [d1, d2, d3] }
  | _ => none }
def crashPlaysRow : OpenClaim := { program := "ytomigaldomiefaa", sum := "c2b7039aed310253e3a68429d099f08bf8dac4f70f613347e269bf9f292712e0", func := "locket/locketlaw21.CrashPlays", spec := "crashPlays", unfollowed := true, recurses := true, plainKeys := false, apart := false }
def CrashPlaysSaid : Prop := crashPlaysRow.holds Try.pinned (OpenSpec.ofChange crashPlaysSpec)

/-- ITS FALSE NEIGHBOUR: 'it returns false'. Refute it at one input. -/
def crashPlaysWrong : ChangeSpec := { name := "crashPlays", fn := fun _ => fun
  | [d1, d2, d3] => { results := [.lit (.bool false)], args := [d1, d2, d3] }
  | _ => none }
def CrashPlaysWrongFalsely : Prop := crashPlaysRow.holds Try.pinned (OpenSpec.ofChange crashPlaysWrong)

/- THE SECOND FORM. 'bulk': how many values and letters a reading holds, each counted each time it is reached (what is shared counts as often as it is met; a slice's spare places count too). A statement '..UptoSaid' is the law's where the arguments, and the package variables that the reading takes, are together of bulk at most 1048576: NARROWER than '..Said'. Prove '..Said' where nothing that the law and all that it calls make is longer than what came in: it says more and counts as full. Else prove '..UptoSaid'. A law counts once. -/
mutual
def uptoBulk {H : Type} : DataW H → Nat
  | .lit (.string bytes) => bytes.length + 1
  | .lit _ => 1
  | .nil => 1
  | .ptr d => uptoBulk d + 1
  | .slice elems spare => uptoBulkAll elems + uptoBulkAll spare + 1
  | .agg parts => uptoBulkAll parts + 1
  | .iface _ d => uptoBulk d + 1
  | .map entries => uptoBulkEntries entries + 1
  | .held _ => 1
def uptoBulkAll {H : Type} : List (DataW H) → Nat
  | [] => 0
  | d :: r => uptoBulk d + uptoBulkAll r
def uptoBulkEntries {H : Type} : List (Lit × DataW H) → Nat
  | [] => 0
  | x :: r => uptoBulkEntry x + uptoBulkEntries r
def uptoBulkEntry {H : Type} : Lit × DataW H → Nat
  | (.string bytes, d) => bytes.length + uptoBulk d + 1
  | (_, d) => uptoBulk d + 1
 end
def uptoSmall : (H : Type) → List (DataW H) → Bool := fun _ ds => decide (uptoBulkAll ds ≤ 1048576)
def OpenSpec.upto (s : _root_.Go.ChangeSpec) : _root_.Go.OpenSpec := { _root_.Go.OpenSpec.ofChange s with cond := some uptoSmall }

/-- 'locketlaw21.CrashStrict', WHERE WHAT IT READS IS OF BULK AT MOST 1048576: true; the input reads as it did. -/
def crashStrictUptoRow : OpenClaim := { program := "ytomigaldomiefaa", sum := "c2b7039aed310253e3a68429d099f08bf8dac4f70f613347e269bf9f292712e0", func := "locket/locketlaw21.CrashStrict", spec := "crashStrict", unfollowed := true, recurses := true, plainKeys := false, apart := false, narrowed := true }
def CrashStrictUptoSaid : Prop := crashStrictUptoRow.holds Try.pinned (OpenSpec.upto crashStrictSpec)

/-- 'locketlaw21.CrashHonest', WHERE WHAT IT READS IS OF BULK AT MOST 1048576: true; the input reads as it did. -/
def crashHonestUptoRow : OpenClaim := { program := "ytomigaldomiefaa", sum := "c2b7039aed310253e3a68429d099f08bf8dac4f70f613347e269bf9f292712e0", func := "locket/locketlaw21.CrashHonest", spec := "crashHonest", unfollowed := true, recurses := true, plainKeys := false, apart := false, narrowed := true }
def CrashHonestUptoSaid : Prop := crashHonestUptoRow.holds Try.pinned (OpenSpec.upto crashHonestSpec)

/-- 'locketlaw21.CrashWhole', WHERE WHAT IT READS IS OF BULK AT MOST 1048576: true; the input reads as it did. -/
def crashWholeUptoRow : OpenClaim := { program := "ytomigaldomiefaa", sum := "c2b7039aed310253e3a68429d099f08bf8dac4f70f613347e269bf9f292712e0", func := "locket/locketlaw21.CrashWhole", spec := "crashWhole", unfollowed := true, recurses := true, plainKeys := false, apart := false, narrowed := true }
def CrashWholeUptoSaid : Prop := crashWholeUptoRow.holds Try.pinned (OpenSpec.upto crashWholeSpec)

/-- 'locketlaw21.CrashMore', WHERE WHAT IT READS IS OF BULK AT MOST 1048576: true; the input reads as it did. -/
def crashMoreUptoRow : OpenClaim := { program := "ytomigaldomiefaa", sum := "c2b7039aed310253e3a68429d099f08bf8dac4f70f613347e269bf9f292712e0", func := "locket/locketlaw21.CrashMore", spec := "crashMore", unfollowed := true, recurses := true, plainKeys := false, apart := false, narrowed := true }
def CrashMoreUptoSaid : Prop := crashMoreUptoRow.holds Try.pinned (OpenSpec.upto crashMoreSpec)

/-- 'locketlaw21.CrashPlays', WHERE WHAT IT READS IS OF BULK AT MOST 1048576: true; the input reads as it did. -/
def crashPlaysUptoRow : OpenClaim := { program := "ytomigaldomiefaa", sum := "c2b7039aed310253e3a68429d099f08bf8dac4f70f613347e269bf9f292712e0", func := "locket/locketlaw21.CrashPlays", spec := "crashPlays", unfollowed := true, recurses := true, plainKeys := false, apart := false, narrowed := true }
def CrashPlaysUptoSaid : Prop := crashPlaysUptoRow.holds Try.pinned (OpenSpec.upto crashPlaysSpec)

end Rows
end Go.Proofs.Ytomigaldomiefaa
