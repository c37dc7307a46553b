/- What a call has turned: some named blocks, and new ones; all else is as it was. -/
import Derived.Test.YtomigaldomiefaaGrow
namespace Go.Proofs.Ytomigaldomiefaa
open Go.RowKit
set_option linter.unusedVariables false
set_option linter.unusedSimpArgs false

structure Turns (w w' : World) (S : List Nat) : Prop where
  os : w'.os = w.os
  tape : w'.tape = w.tape
  output : w'.output = w.output
  size : w.heap.size ≤ w'.heap.size
  block : ∀ k, k < w.heap.size → k ∉ S → w'.heap[k]? = w.heap[k]?
theorem Turns.refl (w : World) (S : List Nat) : Turns w w S := ⟨rfl, rfl, rfl, Nat.le_refl _, fun _ _ _ => rfl⟩
theorem Turns.of_below {w w' : World} (h : Below w.heap.size w w') (S : List Nat) : Turns w w' S := ⟨h.os, h.tape, h.output, h.size, fun k hk _ => h.block k hk⟩
theorem Turns.trans {a b c : World} {S S' : List Nat} (h : Turns a b S) (h' : Turns b c S') (hS : ∀ k ∈ S', k ∈ S ∨ a.heap.size ≤ k) : Turns a c S :=
  ⟨h'.os.trans h.os, h'.tape.trans h.tape, h'.output.trans h.output, Nat.le_trans h.size h'.size, fun k hk hn =>
    (h'.block k (Nat.lt_of_lt_of_le hk h.size) (fun hm => (hS k hm).elim (fun x => hn x) (fun x => by omega))).trans (h.block k hk hn)⟩
theorem Turns.then_below {a b c : World} {S : List Nat} (h : Turns a b S) (h' : Below b.heap.size b c) : Turns a c S := h.trans (Turns.of_below h' []) (by simp)
theorem Turns.setCell {a w : World} {S : List Nat} (h : Turns a w S) {p : Addr} (hp : p.block ∈ S ∨ a.heap.size ≤ p.block) (u : Value) : Turns a (w.setCell p u) S :=
  ⟨h.os, h.tape, h.output, by simpa [World.setCell] using h.size, fun k hk hn => (Below.heap_setCell w p u k (fun e => by subst e; exact hp.elim hn (fun x => by omega))).trans (h.block k hk hn)⟩
theorem Turns.alloc {a w : World} {S : List Nat} (h : Turns a w S) (o : Obj) : Turns a (w.alloc o) S :=
  ⟨h.os, h.tape, h.output, Nat.le_trans h.size (by simp), fun k hk hn => (Below.heap_alloc w o k (Nat.lt_of_lt_of_le hk h.size)).trans (h.block k hk hn)⟩
theorem Turns.drewN {a w : World} {S : List Nat} (h : Turns a w S) (n : Nat) : Turns a (w.drewN n) S := ⟨h.os, h.tape, h.output, h.size, h.block⟩
theorem Turns.drew {a w : World} {S : List Nat} (h : Turns a w S) : Turns a w.drew S := ⟨h.os, h.tape, h.output, h.size, h.block⟩
theorem Turns.row {w w' : World} {S : List Nat} (h : Turns w w' S) {g : Nat} {t : TypeId} {cs : Array Value} (hr : Row w g t cs) (hn : g ∉ S) : Row w' g t cs := (h.block g hr.lt hn).trans hr
theorem Turns.cell {w w' : World} {S : List Nat} (h : Turns w w' S) {p : Addr} {v : Value} (hc : w.cell? p = some v) (hn : p.block ∉ S) : w'.cell? p = some v :=
  (World.cell?_of_block (h.block p.block (World.block_lt_of_cell? w p hc) hn)).trans hc
theorem Turns.own {w w' : World} {S : List Nat} (h : Turns w w' S) {base : Nat} {e : TypeId} {size : Nat} {v : Value} {n : Nat} {xs : List Value} (ho : w.ownsRow base e size v n xs) (hn : ∀ g, v.ownBlock = some g → g ∉ S) : w'.ownsRow base e size v n xs := by
  refine ⟨ho.1, ?_⟩
  rcases ho.2 with h1 | ⟨g, cap, cur, rfl, hb, hg, rest⟩
  · exact .inl h1
  · exact .inr ⟨g, cap, cur, rfl, hb, (h.block g (Array.getElem?_eq_some_iff.1 hg).1 (hn g rfl)).trans hg, rest⟩
theorem Turns.below {B : Nat} {a w w' : World} {S : List Nat} (h : Turns w w' S) (hb : Below B a w) (hB : B ≤ w.heap.size) (hS : ∀ k ∈ S, B ≤ k) : Below B a w' :=
  hb.trans ⟨h.os, h.tape, h.output, h.size, fun k hk => h.block k (by omega) (fun hm => by have := hS k hm; omega)⟩
theorem Row.ne_type {w : World} {g g' : Nat} {t t' : TypeId} {cs cs' : Array Value} (h : Row w g t cs) (h' : Row w g' t' cs') (hne : t ≠ t') : g ≠ g' := by
  rintro rfl
  unfold Row at h h'
  rw [h] at h'
  injection h' with h'
  injection h' with _ ht
  exact hne ht
/-- The block of an owned row, as a row. -/
theorem own_row {w : World} {base : Nat} {e : TypeId} {size : Nat} {g n c : Nat} {xs : List Value} (h : w.ownsRow base e size (.slice (some ⟨g, 0, none⟩) n c) n xs) : base ≤ g ∧ ∃ cur, Row w g e cur ∧ cur.size = c * size ∧ n ≤ c ∧ c ≤ maxLen ∧ cur.toList.take (n * size) = xs := by
  rcases h.2 with ⟨h1, _⟩ | ⟨g', cap, cur, hv, hb, hg, h1, h2, h3, h4⟩
  · cases h1
  · injection hv with hv _ hc
    injection hv with hv
    injection hv with hv
    subst hv; subst hc
    exact ⟨hb, cur, hg, h3, h1, h2, h4⟩
theorem Turns.of_grown {w w' : World} {g : Nat} (h : w.grownBy w' (some g)) : Turns w w' [g] := ⟨h.os, h.tape, h.output, h.size, fun k hk hn => h.block k hk (by simpa using hn)⟩
theorem Turns.mono {w w' : World} {S S' : List Nat} (h : Turns w w' S) (hS : ∀ k ∈ S, k ∈ S') : Turns w w' S' := ⟨h.os, h.tape, h.output, h.size, fun k hk hn => h.block k hk (fun hm => hn (hS k hm))⟩
end Go.Proofs.Ytomigaldomiefaa
