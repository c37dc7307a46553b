/- The builtin copy into a block that is known whole: which block has turned, and nothing else. -/
import Derived.Test.YtlidbkofjchnnaaDoorTurns
namespace Go.Proofs.YtlidbkofjchnnaaDoor
open Go.RowKit
set_option linter.unusedVariables false
set_option linter.unusedSimpArgs false

theorem grown_setRow {w : World} {g : Nat} (cs : Array Value) : w.grownBy (w.setRow g cs) (some g) := ⟨rfl, rfl, rfl, by simp, fun k _ hk => setRow_other w g k _ (fun e => hk (by rw [e]))⟩
theorem grown_self (w : World) (r : Option Nat) : w.grownBy w r := ⟨rfl, rfl, rfl, Nat.le_refl _, fun _ _ _ => rfl⟩
theorem wpList_copy_grown {P : Program} {w : World} {ops : Array Oper} {rest : List Oper} {o : Oper} {a : Act} {Q : Exit → Act → World → Prop} (hgd : o.guard = none) (d s : Operand) (dT sT : TypeId)
    (ho : o.op = .call { callee := .builtin .copy, args := #[d, s], argTypes := #[dT, sT] }) (elem : TypeId) (hu : P.underlying dT = some (.slice elem)) (hsz : (P.info? elem).map (·.size) = some 1)
    (A : Option Addr) (dLen dCap m mc : Nat) (g off : Nat) (hd : a.eval d = .slice (some ⟨g, off, none⟩) dLen dCap) (hx : a.eval s = .slice A m mc)
    (cur : List Value) (t : TypeId) (hg : Row w g t cur.toArray) (news : List Value) (hs : Src w 1 A m news) (h1 : ∀ u ∈ news, u.oneCell' = true)
    (hfit : off + min m dLen ≤ cur.length)
    (h : ∀ w', Hid (Row w' g t (splice cur off (news.take dLen)).toArray) → Hid (w.grownBy w' (some g)) → wpList P ops Q rest (a.put o.dst (goInt ((min m dLen : Nat) : Int))) w') :
    wpList P ops Q (o :: rest) a w := by
  have hl : news.length = m := by simpa using hs.len
  have hcl : (news.take dLen).length = min m dLen := by rw [List.length_take, hl, Nat.min_comm]
  by_cases h0 : (news.take dLen).length = 0
  · have e0 := List.eq_nil_of_length_eq_zero h0
    refine wpList_copy_nothing hgd d s dT sT ho elem hu hsz (some ⟨g, off, none⟩) A dLen dCap m mc hd hx (by rw [← h0, hcl]) ?_
    have := h w (show _ = _ by rw [e0]; simpa [splice] using (show w.heap[g]? = _ from hg)) (grown_self w _)
    rw [← hcl, h0] at this
    exact this
  · obtain ⟨ad, rfl, hc⟩ := hs.lies (by omega)
    have := wpList_copy_own (P := P) (ops := ops) (rest := rest) (Q := Q) (a := a) (w := w) hgd d s dT sT ho elem hu hsz g off dLen dCap ad m mc hd hx cur.toArray t hg (news.take dLen) (by rw [hcl]) (fun j v hv => hc j v (by
      rw [List.getElem?_take] at hv
      split at hv
      · exact hv
      · cases hv)) (by rw [hcl]; simpa using hfit) (fun v hv => h1 v (List.mem_of_mem_take hv)) (by
      have := h _ (show _ = _ from setRow_heap w g cur.toArray (splice cur off (news.take dLen)).toArray t _ hg) (grown_setRow _)
      rw [← hcl] at this
      exact this)
    exact this
end Go.Proofs.YtlidbkofjchnnaaDoor
