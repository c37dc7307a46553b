/- An object with one field, a slice of integers, behind a pointer: what lies, and what a write turns. -/
import Derived.Test.YtomigaldomiefaaTurns
namespace Go.Proofs.Ytomigaldomiefaa
open Go.RowKit
set_option linter.unusedVariables false
set_option linter.unusedSimpArgs false

/-- Integers as cells. -/
def intsV (k : IntKind) (l : List Nat) : List Value := l.map fun (x : Nat) => Value.int k (x : Int)
theorem intsV_get (k : IntKind) (l : List Nat) (i : Nat) (hi : i < l.length) : (intsV k l)[i]? = some (.int k (l.getD i 0 : Nat)) := by simp [intsV, List.getD, hi]
theorem intsV_length (k : IntKind) (l : List Nat) : (intsV k l).length = l.length := by simp [intsV]
theorem intsV_one (k : IntKind) (l : List Nat) : ∀ u ∈ intsV k l, u.oneCell' = true := by
  intro u hu; obtain ⟨x, _, rfl⟩ := List.mem_map.1 hu; rfl
theorem intsV_append (k : IntKind) (l l' : List Nat) : intsV k (l ++ l') = intsV k l ++ intsV k l' := by simp [intsV]
theorem intsV_set (k : IntKind) (l : List Nat) (i x : Nat) : intsV k (l.set i x) = (intsV k l).set i (.int k (x : Int)) := by simp [intsV, List.map_set]

/-- An owned row at a block: its cell i. -/
theorem own_cell {w : World} {B : Nat} {t : TypeId} {k : IntKind} {L n c : Nat} {l : List Nat} (h : w.ownsRow B t 1 (.slice (some ⟨L, 0, none⟩) n c) n (intsV k l)) (i : Nat) (hi : i < l.length) : w.cell? ⟨L, i, none⟩ = some (.int k (l.getD i 0 : Nat)) := by
  have := h.cells (g := L) rfl i _ (intsV_get k l i hi)
  rw [addr_add, Nat.zero_add] at this
  exact this
theorem own_thaw {w : World} {B : Nat} {t : TypeId} {L n c : Nat} {xs : List Value} (h : w.ownsRow B t 1 (.slice (some ⟨L, 0, none⟩) n c) n xs) (i : Nat) : w.frozen? ⟨L, i, none⟩ = false := by
  obtain ⟨_, cur, hr, _⟩ := own_row h
  exact hr.frozen i
theorem own_put {w : World} {B : Nat} {t : TypeId} {k : IntKind} {L n c : Nat} {l : List Nat} (h : w.ownsRow B t 1 (.slice (some ⟨L, 0, none⟩) n c) n (intsV k l)) (i x : Nat) (hi : i < l.length) : (w.setCell ⟨L, i, none⟩ (.int k (x : Int))).ownsRow B t 1 (.slice (some ⟨L, 0, none⟩) n c) n (intsV k (l.set i x)) := by
  obtain ⟨hB, cur, hr, hs, hn, hm, ht⟩ := own_row h
  have hl := h.1
  rw [intsV_length] at hl
  refine ⟨by rw [intsV_length, List.length_set]; exact hl, .inr ⟨L, c, cur.setIfInBounds i (.int k (x : Int)), rfl, hB, hr.put i _, hn, hm, by simpa using hs, ?_⟩⟩
  rw [intsV_set, ← ht, Array.toList_setIfInBounds, List.take_set]
theorem own_far {w : World} {B : Nat} {t : TypeId} {size L n c : Nat} {xs : List Value} (h : w.ownsRow B t size (.slice (some ⟨L, 0, none⟩) n c) n xs) {p : Addr} (hp : p.block ≠ L) (u : Value) : (w.setCell p u).ownsRow B t size (.slice (some ⟨L, 0, none⟩) n c) n xs :=
  (Turns.refl w [p.block]).setCell (by simp) u |>.own h (fun g hg => by injection hg with hg; subst hg; simpa using fun e => hp e.symm)

/-- The object at G, its slice's row at L. -/
structure Held (tS tE : TypeId) (k : IntKind) (w : World) (B G L c : Nat) (ks : List Nat) : Prop where
  hG : B ≤ G
  row : Row w G tS #[.slice (some ⟨L, 0, none⟩) ks.length c]
  own : w.ownsRow B tE 1 (.slice (some ⟨L, 0, none⟩) ks.length c) ks.length (intsV k ks)
section
variable {tS tE : TypeId} {k : IntKind} {w : World} {B G L c : Nat} {ks : List Nat}
theorem Held.cellG (h : Held tS tE k w B G L c ks) : w.cell? ⟨G, 0, none⟩ = some (.slice (some ⟨L, 0, none⟩) ks.length c) := by rw [h.row.cell]; simp
theorem Held.thawG (h : Held tS tE k w B G L c ks) : w.frozen? ⟨G, 0, none⟩ = false := h.row.frozen 0
theorem Held.cell (h : Held tS tE k w B G L c ks) (i : Nat) (hi : i < ks.length) : w.cell? ⟨L, i, none⟩ = some (.int k (ks.getD i 0 : Nat)) := own_cell h.own i hi
theorem Held.thaw (h : Held tS tE k w B G L c ks) (i : Nat) : w.frozen? ⟨L, i, none⟩ = false := own_thaw h.own i
theorem Held.hL (h : Held tS tE k w B G L c ks) : B ≤ L ∧ L < w.heap.size ∧ ks.length ≤ c ∧ c ≤ maxLen := by
  obtain ⟨h1, cur, hr, _, h2, h3, _⟩ := own_row h.own
  exact ⟨h1, hr.lt, h2, h3⟩
theorem Held.gLt (h : Held tS tE k w B G L c ks) : G < w.heap.size := h.row.lt
theorem Held.ne (h : Held tS tE k w B G L c ks) (ht : tS ≠ tE) : G ≠ L := by
  obtain ⟨_, cur, hr, _⟩ := own_row h.own
  exact h.row.ne_type hr ht
theorem Held.turns {w' : World} {S : List Nat} (h : Held tS tE k w B G L c ks) (ht : Turns w w' S) (hG : G ∉ S) (hL : L ∉ S) : Held tS tE k w' B G L c ks :=
  ⟨h.hG, ht.row h.row hG, ht.own h.own (fun g hg => by injection hg with hg; subst hg; exact hL)⟩
theorem Held.below {w' : World} (h : Held tS tE k w B G L c ks) (hb : Below w.heap.size w w') : Held tS tE k w' B G L c ks := h.turns (Turns.of_below hb []) (by simp) (by simp)
theorem Held.alloc (h : Held tS tE k w B G L c ks) (o : Obj) : Held tS tE k (w.alloc o) B G L c ks := h.below ((Below.refl _ _).alloc (Nat.le_refl _) o)
theorem Held.drewN (h : Held tS tE k w B G L c ks) (n : Nat) : Held tS tE k (w.drewN n) B G L c ks := ⟨h.hG, h.row, h.own⟩
theorem Held.put (h : Held tS tE k w B G L c ks) (ht : tS ≠ tE) (i x : Nat) (hi : i < ks.length) : Held tS tE k (w.setCell ⟨L, i, none⟩ (.int k (x : Int))) B G L c (ks.set i x) :=
  ⟨h.hG, by rw [List.length_set]; exact h.row.far (h.ne ht) _, by rw [List.length_set]; exact own_put h.own i x hi⟩
theorem Held.mono {B' : Nat} (h : Held tS tE k w B G L c ks) (hB : B' ≤ B) : Held tS tE k w B' G L c ks := ⟨Nat.le_trans hB h.hG, h.row, own_mono h.own hB⟩
/-- The field is given another row. -/
theorem Held.field {L' c' : Nat} {ks' : List Nat} (h : Held tS tE k w B G L c ks) (ho : w.ownsRow B tE 1 (.slice (some ⟨L', 0, none⟩) ks'.length c') ks'.length (intsV k ks')) (ht : tS ≠ tE) :
    Held tS tE k (w.setCell ⟨G, 0, none⟩ (.slice (some ⟨L', 0, none⟩) ks'.length c')) B G L' c' ks' := by
  obtain ⟨_, cur, hr, _⟩ := own_row ho
  refine ⟨h.hG, ?_, own_far ho (by simpa using h.row.ne_type hr ht) _⟩
  have := h.row.put 0 (.slice (some ⟨L', 0, none⟩) ks'.length c')
  simpa using this
end
end Go.Proofs.Ytomigaldomiefaa
