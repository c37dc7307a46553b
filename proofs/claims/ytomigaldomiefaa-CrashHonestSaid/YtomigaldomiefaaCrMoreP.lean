/- CrashMore, in plain Lean; one state kept while another turns. -/
import Derived.Test.YtomigaldomiefaaCrVals
namespace Go.Proofs.Ytomigaldomiefaa
open Go.RowKit
set_option linter.unusedVariables false
set_option linter.unusedSimpArgs false

/-- The like, with more in flight, or loose. -/
structure AsMore (S S' : Cr) : Prop where
  n : S'.n = S.n
  sz : S'.sz = S.sz
  has : S'.has = S.has
  groups : S'.groups = S.groups
  fly : S.fly = []
  loose : ∀ p, S.loose p = false
section
variable {S S' : Cr} (h : AsMore S S')
include h
theorem more_level (k p : Nat) : ∀ x ∈ S.level k p, x ∈ S'.level k p := fun x hx => by
  have hb : S'.base k p = S.base k p := by
    unfold Cr.base Cr.base0 Cr.ahead
    rw [h.groups, h.has, h.sz]
  unfold Cr.level at hx ⊢
  rw [h.loose p, h.fly] at hx
  rw [hb, h.groups]
  simp only [Bool.false_and, ofP, List.filterMap_nil, List.nil_append, List.mem_cons, List.mem_append] at hx ⊢
  rcases hx with hx | hx
  · exact .inl hx
  · refine .inr (.inr (.inr ?_))
    simpa [ofP] using hx
theorem more_may (rd : Nat → List Nat) (hm : S.may rd = true) : S'.may rd = true := by
  rw [Cr.may_iff] at hm ⊢
  obtain ⟨k, hk, hp⟩ := hm
  refine ⟨k, by rw [h.groups]; exact hk, fun p hpn => ?_⟩
  have := hp p (by rw [← h.n]; exact hpn)
  unfold Cr.at at this ⊢
  rw [Bool.or_eq_true, List.contains_iff_mem] at this ⊢
  rcases this with h1 | h1
  · exact .inl (more_level h k p _ h1)
  · exact .inr h1
theorem more_vals (p j : Nat) : ∀ x ∈ S.vals p j, x ∈ S'.vals p j := fun x hx => by
  unfold Cr.vals at hx ⊢
  obtain ⟨k, hk, hx⟩ := List.mem_flatMap.1 hx
  exact List.mem_flatMap.2 ⟨k, hk, more_level h k p x hx⟩
end
theorem CrIs.other {w w' : World} {B C H L : Nat} {v4 v5 : Value} {S : Cr} {T : List Nat} (h : CrIs w B C H L v4 v5 S) (ht : Turns w w' T) (hT : Lone w T) (hC : C ∉ T) (hH : H ∉ T) (hL : L ∉ T) : CrIs w' B C H L v4 v5 S :=
  ⟨ht.row h.row hC, h.has.turns ht hH, h.loose.turns ht hL, h.grs.lone ht hT, h.fly.lone ht hT, h.low, h.ne, h.n, h.sz, h.okG, h.okF, h.few⟩
theorem Lone.sub {w : World} {T T' : List Nat} (h : Lone w T) (hs : ∀ x ∈ T', x ∈ T) : Lone w T' := fun g ty cs hr hne hm => h g ty cs hr hne (hs g hm)
/-- Two states, one laid behind the other. -/
structure TwoIs (w : World) (B C H L B' C' H' L' : Nat) (S S' : Cr) : Prop where
  a : ∃ v4 v5, CrIs w B C H L v4 v5 S
  b : ∃ v4 v5, CrIs w B' C' H' L' v4 v5 S'
  sep : C < B' ∧ H < B' ∧ L < B'
section
variable {w w' : World} {B C H L B' C' H' L' : Nat} {S S' S2 : Cr}
theorem TwoIs.turnA (h : TwoIs w B C H L B' C' H' L' S S') (ht : Turns w w' [C, H, L]) (ha : ∃ v4 v5, CrIs w' B C H L v4 v5 S2) : TwoIs w' B C H L B' C' H' L' S2 S' := by
  obtain ⟨v4, v5, h1⟩ := h.a
  obtain ⟨u4, u5, h2⟩ := h.b
  have hs := h.sep
  have hl := h2.low
  exact ⟨ha, ⟨u4, u5, h2.other ht h1.lone (by simp; omega) (by simp; omega) (by simp; omega)⟩, hs⟩
theorem TwoIs.turnB (h : TwoIs w B C H L B' C' H' L' S S') (ht : Turns w w' [C', H', L']) (hb : ∃ v4 v5, CrIs w' B' C' H' L' v4 v5 S2) : TwoIs w' B C H L B' C' H' L' S S2 := by
  obtain ⟨v4, v5, h1⟩ := h.a
  obtain ⟨u4, u5, h2⟩ := h.b
  have hs := h.sep
  have hl := h2.low
  exact ⟨⟨v4, v5, h1.other ht h2.lone (by simp; omega) (by simp; omega) (by simp; omega)⟩, hb, hs⟩
theorem TwoIs.below (h : TwoIs w B C H L B' C' H' L' S S') (hb : Below w.heap.size w w') : TwoIs w' B C H L B' C' H' L' S S' := by
  obtain ⟨v4, v5, h1⟩ := h.a
  obtain ⟨u4, u5, h2⟩ := h.b
  exact ⟨⟨v4, v5, h1.below hb⟩, ⟨u4, u5, h2.below hb⟩, h.sep⟩
end
theorem turns_sub {w w' : World} {T T' : List Nat} (h : Turns w w' T) (hs : ∀ x ∈ T, x ∈ T') : Turns w w' T' := ⟨h.os, h.tape, h.output, h.size, fun k hk hn => h.block k hk (fun hm => hn (hs k hm))⟩
end Go.Proofs.Ytomigaldomiefaa
