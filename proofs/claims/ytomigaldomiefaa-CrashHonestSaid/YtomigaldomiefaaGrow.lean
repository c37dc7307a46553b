/- A region that draws its order, whose operations read, and call what makes memory: one walk in the order of the text, over all worlds that have only grown since. -/
import Derived.Test.YtomigaldomiefaaMem
namespace Go.Proofs.Ytomigaldomiefaa
open Go.RowKit
set_option linter.unusedVariables false
set_option linter.unusedSimpArgs false

/-- A world that has only grown since w. -/
structure Later (w : World) where
  u : World
  h : Below w.heap.size w u
instance (w : World) : Nonempty (Later w) := ⟨⟨w, Below.refl _ _⟩⟩
theorem region_later {P : Program} {id : Nat} {Q : Exit → Act → World → Prop} {a : Act} {w : World} {l : List Oper} (hm : P.follows .mixedOrders = true) (hB : Region.lexB .any l.toArray = true)
    (h : wpQuiet P l.toArray (fun u => ∃ t : Later w, u = t.u) (fun a' => ∀ t : Later w, Q .normal a' t.u) l a) : (Code.region id l.toArray true).wp P Q a w :=
  wp_region_quiet (C := fun u => ∃ t : Later w, u = t.u) hm hB ⟨⟨_, (Below.refl _ _).drew⟩, rfl⟩ (by
    have e : (fun a' => ∀ t : Later w, Q .normal a' t.u) = (fun a' => ∀ w', (∃ t : Later w, w' = t.u) → Q .normal a' w') := by
      funext a'; apply propext
      exact ⟨fun h w' ⟨t, e⟩ => by subst e; exact h t, fun h t => h _ ⟨t, rfl⟩⟩
    rw [e] at h
    exact h)
theorem Later.call {P : Program} {f : FuncId} {args : Array Value} {w : World} {t : Later w} {v : Value} (h : Calls P f args t.u fun e u' => e = .returned v ∧ Below t.u.heap.size t.u u') :
    Calls P f args t.u fun e w'' => e = .returned v ∧ ∃ t' : Later w, w'' = t'.u :=
  h.mono fun e u' ⟨he, hb⟩ => ⟨he, ⟨u', t.h.trans (hb.mono t.h.size)⟩, rfl⟩
theorem Later.same {P : Program} {f : FuncId} {args : Array Value} {w : World} {t : Later w} {v : Value} (h : Calls P f args t.u fun e u' => e = .returned v ∧ t.u = u') :
    Calls P f args t.u fun e w'' => e = .returned v ∧ ∃ t' : Later w, w'' = t'.u :=
  h.mono fun e u' ⟨he, hb⟩ => ⟨he, t, hb.symm⟩
theorem Later.drew {P : Program} {f : FuncId} {args : Array Value} {w : World} {t : Later w} {v : Value} (h : Calls P f args t.u fun e u' => e = .returned v ∧ ∃ n, u' = t.u.drewN n) :
    Calls P f args t.u fun e w'' => e = .returned v ∧ ∃ t' : Later w, w'' = t'.u :=
  h.mono fun e u' ⟨he, n, hb⟩ => ⟨he, ⟨t.u.drewN n, below_drewN0 t.h n⟩, hb⟩
end Go.Proofs.Ytomigaldomiefaa
