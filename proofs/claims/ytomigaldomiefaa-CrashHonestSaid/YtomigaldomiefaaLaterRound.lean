/- In a round of a range over a function: a drawn region whose operations read, and call what makes memory. -/
import Derived.Test.YtomigaldomiefaaQuietRound
import Derived.Test.YtomigaldomiefaaGrow
namespace Go.Proofs.Ytomigaldomiefaa
open Go.RowKit
set_option linter.unusedVariables false
set_option linter.unusedSimpArgs false
theorem wpIn_region_later_round {F : Fence} {n : Nat} {P : Program} {id : Nat} {Q : Exit → Act → World → Prop} {a : Act} {w : World} {l : List Oper} (hnd : l.toArray.all notDefer = true) (hm : P.follows .mixedOrders = true) (hB : Region.lexB .any l.toArray = true)
    (h : wpQuietIn F n P l.toArray (fun u => ∃ t : Later w, u = t.u) (fun a' => ∀ t : Later w, Q .normal a' t.u) l a) : (Code.region id l.toArray true).wpIn F n P Q a w :=
  wpIn_region_quiet_round (C := fun u => ∃ t : Later w, u = t.u) hnd hm hB ⟨⟨_, (Below.refl _ _).drew⟩, rfl⟩ (by
    have e : (fun a' => ∀ t : Later w, Q .normal a' t.u) = (fun a' => ∀ w', (∃ t : Later w, w' = t.u) → Q .normal a' w') := by
      funext a'; apply propext
      exact ⟨fun h w' ⟨t, e⟩ => by subst e; exact h t, fun h t => h _ ⟨t, rfl⟩⟩
    rw [e] at h
    simpa using h)
theorem Later.callIn {F : Fence} {n : Nat} {P : Program} {f : FuncId} {args : Array Value} {w : World} {t : Later w} {v : Value} (h : CallsIn F n P f args t.u fun e u' => e = .returned v ∧ Below t.u.heap.size t.u u') :
    CallsIn F n P f args t.u fun e w'' => e = .returned v ∧ ∃ t' : Later w, w'' = t'.u :=
  h.mono fun e u' ⟨he, hb⟩ => ⟨he, ⟨u', t.h.trans (hb.mono t.h.size)⟩, rfl⟩
end Go.Proofs.Ytomigaldomiefaa
