/- A function's regions, and its code from a region on, found by number: so that a lemma of its own can walk them. -/
import Derived.Test.YtomigaldomiefaaSeqIn
namespace Go.Proofs.Ytomigaldomiefaa
/-- The operations of region 'id' in a piece of code. -/
def regOps (id : Nat) : Code → Option (List Oper)
  | .region i ops _ => if i = id then some ops.toList else none
  | .seq a b => (regOps id a).or (regOps id b)
  | .cond _ a b => (regOps id a).or (regOps id b)
  | .block _ a => regOps id a
  | .loop a => regOps id a
  | .rangeFunc _ _ a b => (regOps id a).or (regOps id b)
  | .scope a => regOps id a
  | _ => none
def opsOf (id : Nat) (f : Func) : Option (List Oper) := f.body.bind (regOps id)
/-- The code from region 'id' on, in the sequence in which it stands. -/
def codeFrom (id : Nat) : Code → Option Code
  | .region i ops d => if i = id then some (.region i ops d) else none
  | .seq (.region i ops d) b => if i = id then some (.seq (.region i ops d) b) else codeFrom id b
  | .seq a b => (codeFrom id a).or (codeFrom id b)
  | .cond _ a b => (codeFrom id a).or (codeFrom id b)
  | .block _ a => codeFrom id a
  | .loop a => codeFrom id a
  | .rangeFunc _ _ a b => (codeFrom id a).or (codeFrom id b)
  | .scope a => codeFrom id a
  | _ => none
def fromOf (id : Nat) (f : Func) : Option Code := f.body.bind (codeFrom id)
/-- A loop of a function, by the number of the first region in it. -/
def codeLoop (id : Nat) : Code → Option Code
  | .seq a b => (codeLoop id a).or (codeLoop id b)
  | .cond _ a b => (codeLoop id a).or (codeLoop id b)
  | .block _ a => codeLoop id a
  | .loop a => match codeLoop id a with | some c => some c | none => match regOps id a with | some _ => some (.loop a) | none => none
  | .rangeFunc _ _ a b => (codeLoop id a).or (codeLoop id b)
  | .scope a => codeLoop id a
  | _ => none
def loopOf (id : Nat) (f : Func) : Option Code := f.body.bind (codeLoop id)
end Go.Proofs.Ytomigaldomiefaa
