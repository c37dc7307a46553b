/- What follows is laid together from several texts of mine, in their order. -/
import Derived.Test.YthjomnaejhehoaaGreatDoorQ11
import Derived.Test.YthjomnaejhehoaaGreatDoorQ10

namespace Go.Proofs.YthjomnaejhehoaaGreatDoor
open Go.RowKit Go.MapKept Go.ChangeMaps
set_option linter.unusedVariables false
set_option linter.unusedSimpArgs false

def updV (V : Vals) (k : Nat) (l : List Nat) : Vals := fun i => if i = k then some l else V i
theorem filter_upd (p : Nat → Bool) (k : Nat) : ∀ n, ((List.range n).filter fun i => i == k || p i).length = ((List.range n).filter p).length + (if k < n ∧ p k = false then 1 else 0)
  | 0 => by simp
  | n + 1 => by
    rw [List.range_succ, List.filter_append, List.filter_append, List.length_append, List.length_append, filter_upd p k n]
    by_cases e : n = k
    · subst e
      cases h : p n <;> simp [h]
    · have e1 : (n == k) = false := by simpa using e
      have e2 : (k < n + 1) ↔ (k < n) := by omega
      simp only [List.filter_cons, List.filter_nil, e1, Bool.false_or, e2]
      cases p n <;> simp <;> omega
theorem keysOf_upd (V : Vals) (k : Nat) (l : List Nat) (hk : k < 32) : (keysOf (updV V k l)).length = if (V k).isSome then (keysOf V).length else (keysOf V).length + 1 := by
  have e : (fun i => (updV V k l i).isSome) = fun i => i == k || (V i).isSome := by
    funext i
    unfold updV
    by_cases h : i = k
    · rw [if_pos h]; simp [h]
    · rw [if_neg h]; simp [h]
  unfold keysOf
  rw [e, filter_upd _ k 32]
  cases h : (V k).isSome <;> simp [hk]
theorem OkV.none : OkV fun _ => none := ⟨fun _ _ => rfl, fun _ _ h => by cases h⟩
theorem OkV.upd {V : Vals} (h : OkV V) {k : Nat} (hk : k < 32) {l : List Nat} (hl : ∀ u ∈ l, u < 256) : OkV (updV V k l) := by
  refine ⟨fun i hi => ?_, fun i x hx => ?_⟩
  · unfold updV; rw [if_neg (by omega)]; exact h.key i hi
  · unfold updV at hx
    by_cases e : i = k
    · rw [if_pos e] at hx; injection hx with hx; subst hx; exact hl
    · rw [if_neg e] at hx; exact h.byte i x hx
theorem nk_inj {a b : Nat} (h : Value.int .i64 (a : Int) = .int .i64 (b : Int)) : a = b := by
  injection h with _ h
  omega
/-- Bytes of its own in memory. -/
def SlIs (w : World) (B : Nat) (v : Value) (l : List Nat) : Prop := w.ownsRow B 5 1 v l.length (intsV .u8 l)
/-- No row of bytes is among these blocks. -/
def NoU8 (w : World) (T : List Nat) : Prop := ∀ g cs, Row w g 5 cs → g ∉ T
theorem SlIs.turns {w w' : World} {B : Nat} {v : Value} {l : List Nat} {T : List Nat} (h : SlIs w B v l) (ht : Turns w w' T) (hT : NoU8 w T) : SlIs w' B v l :=
  ht.own h (fun g hg => by
    rcases h.2 with ⟨rfl, _⟩ | ⟨g2, cap, cur, rfl, _, hr, _⟩
    · cases hg
    · have e : g2 = g := by injection hg
      subst e
      exact hT _ _ hr)
theorem SlIs.low {w : World} {B B' : Nat} {v : Value} {l : List Nat} (h : SlIs w B v l) (hb : B' ≤ B) : SlIs w B' v l := own_mono h hb
/-- Values by key, as a map. -/
def ValsIs (w : World) (B Q : Nat) (V : Vals) : Prop :=
  ∃ f, MapIs Tryz.prog 3 w Q (keysOf V).length f ∧ (∀ key v, f key = some v → ∃ (k : Nat) (l : List Nat), k < 32 ∧ V k = some l ∧ key = .int .i64 k ∧ SlIs w B v l) ∧ ∀ k l, V k = some l → k < 32 ∧ ∃ v, f (.int .i64 k) = some v
theorem NoU8.nil (w : World) : NoU8 w [] := fun _ _ _ => by simp
section
variable {w w' : World} {B Q : Nat} {V : Vals}
theorem ValsIs.lt (h : ValsIs w B Q V) : Q < w.heap.size := by obtain ⟨f, h, _⟩ := h; exact h.lt
theorem ValsIs.turns {T : List Nat} (h : ValsIs w B Q V) (ht : Turns w w' T) (hQ : Q ∉ T) (hT : NoU8 w T) : ValsIs w' B Q V := by
  obtain ⟨f, h1, h2, h3⟩ := h
  exact ⟨f, h1.turns ht hQ, fun key v hf => by
    obtain ⟨k, l, a, b, c, d⟩ := h2 key v hf
    exact ⟨k, l, a, b, c, d.turns ht hT⟩, h3⟩
theorem ValsIs.below (h : ValsIs w B Q V) (hb : Below w.heap.size w w') : ValsIs w' B Q V := h.turns (Turns.of_below hb []) (by simp) (NoU8.nil w)
theorem ValsIs.low {B' : Nat} (h : ValsIs w B Q V) (hb : B' ≤ B) : ValsIs w B' Q V := by
  obtain ⟨f, h1, h2, h3⟩ := h
  exact ⟨f, h1, fun key v hf => by
    obtain ⟨k, l, a, b, c, d⟩ := h2 key v hf
    exact ⟨k, l, a, b, c, d.low hb⟩, h3⟩
theorem ValsIs.fresh (w : World) (B : Nat) : ValsIs (w.alloc (.map #[] 0)) B w.heap.size fun _ => none := ⟨_, MapIs.fresh _ _ w, by simp, by simp⟩
theorem ValsIs.not_row (h : ValsIs w B Q V) (t : TypeId) (cs : Array Value) : ¬ Row w Q t cs := by
  obtain ⟨f, ⟨es, clock, hb, _⟩, _⟩ := h
  intro hr
  unfold Row at hr
  rw [hr] at hb; cases hb
theorem ValsIs.noU8 (h : ValsIs w B Q V) : NoU8 w [Q] := fun g cs hr hm => by
  obtain rfl : g = Q := by simpa using hm
  exact h.not_row _ _ hr
theorem mb_under : Tryz.prog.underlying 101 = some (.map 3 22) := Tryz.underlying101
/-- What is looked up. -/
theorem ValsIs.look (h : ValsIs w B Q V) {k : Nat} (hk : k < 32) : ∃ v, SlIs w B v (valOf V k) ∧ (Instr.lookup 101 (.map (some Q)) (.int .i64 k) false).run Tryz.prog w = .ok v w ∧
    (Instr.lookup 101 (.map (some Q)) (.int .i64 k) true).run Tryz.prog w = .ok (.tuple #[v, .bool (V k).isSome]) w := by
  obtain ⟨f, h1, h2, h3⟩ := h
  have hl := h1.look intKeyed mb_under (zero_bytes w) (int_key (k := k) (by omega))
  unfold valOf
  cases hv : V k with
  | none =>
    have hf : f (.int .i64 k) = none := by
      cases hf : f (.int .i64 k) with
      | none => rfl
      | some v =>
        obtain ⟨k', l, _, h4, h5, _⟩ := h2 _ _ hf
        obtain rfl := nk_inj h5
        rw [hv] at h4; cases h4
    rw [hf] at hl
    exact ⟨.slice none 0 0, World.ownsRow_nil _ _ _ _, hl.1, hl.2⟩
  | some l =>
    obtain ⟨_, v, hf⟩ := h3 k l hv
    obtain ⟨k', l', _, h4, h5, h6⟩ := h2 _ _ hf
    obtain rfl := nk_inj h5
    rw [hv] at h4; injection h4 with h4; subst h4
    rw [hf] at hl
    exact ⟨v, h6, hl.1, hl.2⟩
theorem ValsIs.set (h : ValsIs w B Q V) {k : Nat} (hk : k < 32) {v : Value} {l : List Nat} (hv : SlIs w B v l) :
    ∃ w', (Instr.mapUpdate 101 (.map (some Q)) (.int .i64 k) v).run Tryz.prog w = .ok () w' ∧ ValsIs w' B Q (updV V k l) ∧ Turns w w' [Q] := by
  have hno := h.noU8
  obtain ⟨f, h1, h2, h3⟩ := h
  obtain ⟨w', hr, hm, hg⟩ := h1.update (val := v) intKeyed mb_under (int_key (k := k) (by omega))
  have ht := Turns.of_grown hg
  have hsome : (f (.int .i64 k)).isSome = (V k).isSome := by
    cases hV : V k with
    | none =>
      cases hf : f (.int .i64 k) with
      | none => rfl
      | some u =>
        obtain ⟨k', l', _, h4, h5, _⟩ := h2 _ _ hf
        obtain rfl := nk_inj h5
        rw [hV] at h4; cases h4
    | some l' => obtain ⟨_, u, hu⟩ := h3 k l' hV; rw [hu]; rfl
  have hm : MapIs Tryz.prog 3 w' Q (keysOf (updV V k l)).length (updK f (.int .i64 k) (some v)) := by
    rw [keysOf_upd V k l hk, ← hsome]; exact hm
  refine ⟨w', hr, ⟨_, hm, fun key u hu => ?_, fun i x hx => ?_⟩, ht⟩
  · by_cases he : key = .int .i64 k
    · subst he
      rw [updK_same] at hu; injection hu with hu; subst hu
      exact ⟨k, l, hk, by simp [updV], rfl, hv.turns ht hno⟩
    · rw [updK_ne _ _ _ he] at hu
      obtain ⟨i, x, a, b, rfl, d⟩ := h2 _ _ hu
      have hik : i ≠ k := fun e => he (by rw [e])
      exact ⟨i, x, a, by unfold updV; rw [if_neg hik]; exact b, rfl, d.turns ht hno⟩
  · unfold updV at hx
    by_cases e : i = k
    · subst e; exact ⟨hk, v, updK_same _ _ _⟩
    · rw [if_neg e] at hx
      obtain ⟨h4, u, hu⟩ := h3 i x hx
      refine ⟨h4, u, ?_⟩
      rw [updK_ne _ _ _ (fun h => e (nk_inj h))]
      exact hu
theorem ValsIs.len (h : ValsIs w B Q V) (ty : TypeId) : (Builtin.len_ #[101] ty #[.map (some Q)]).run Tryz.prog w = .ok (goInt (keysOf V).length) w := by
  obtain ⟨f, h1, _⟩ := h
  exact h1.len mb_under
/-- The block of a map is that of another. -/
theorem ValsIs.copy (h : ValsIs w B Q V) {es : Array MapEntry} {clock : Nat} (hb : w.heap[Q]? = some (.map es clock)) : ValsIs (w.alloc (.map es clock)) B w.heap.size V := by
  obtain ⟨f, ⟨es', clock', hb', h1⟩, h2, h3⟩ := h
  rw [hb] at hb'; injection hb' with hb'; injection hb' with e1 e2; subst e1; subst e2
  have hB : Below w.heap.size w (w.alloc (.map es clock)) := (Below.refl _ _).alloc (Nat.le_refl _) _
  exact ⟨f, ⟨es, clock, heap_alloc_new w _, h1⟩, fun key v hf => by
    obtain ⟨k, l, a, b, c, d⟩ := h2 key v hf
    exact ⟨k, l, a, b, c, d.turns (Turns.of_below hB []) (NoU8.nil w)⟩, h3⟩
theorem ValsIs.entries (h : ValsIs w B Q V) : ∃ es clock, w.heap[Q]? = some (.map es clock) := by
  obtain ⟨f, ⟨es, clock, hb, _⟩, _⟩ := h
  exact ⟨es, clock, hb⟩
end
/-- A store's own cells. -/
def stCells (M Bk n c : Nat) (at' : Int) (q Vb : Nat) : Array Value := #[.pointer (some ⟨M, 0, none⟩), .slice (some ⟨Bk, 0, none⟩) n c, .int .i64 at', .int .u64 q, .map (some Vb)]
def natsV (l : List Nat) : List Value := l.map fun (k : Nat) => Value.int .i64 (k : Int)
theorem natsV_length (l : List Nat) : (natsV l).length = l.length := by simp [natsV]
theorem natsV_get (l : List Nat) (i : Nat) (h : i < l.length) : (natsV l)[i]? = some (.int .i64 (l.getD i 0 : Nat)) := by
  simp [natsV, List.getD, List.getElem?_eq_getElem h]
structure StIs (w : World) (B St Bk Vb M : Nat) (l : List Nat) (c : Nat) (at' : Int) (q : Nat) (V : Vals) : Prop where
  hS : B ≤ St
  hV : B ≤ Vb
  row : Row w St 112 (stCells M Bk l.length c at' q Vb)
  bl : w.ownsRow B 3 1 (.slice (some ⟨Bk, 0, none⟩) l.length c) l.length (natsV l)
  vals : ValsIs w B Vb V
  few : l.length ≤ 1024
section
variable {w w' : World} {B St Bk Vb M : Nat} {l : List Nat} {c : Nat} {a : Int} {q : Nat} {V : Vals}
theorem StIs.turns {T : List Nat} (h : StIs w B St Bk Vb M l c a q V) (ht : Turns w w' T) (hS : St ∉ T) (hB : Bk ∉ T) (hV : Vb ∉ T) (hT : NoU8 w T) : StIs w' B St Bk Vb M l c a q V :=
  ⟨h.hS, h.hV, ht.row h.row hS, ht.own h.bl (fun g hg => by injection hg with hg; subst hg; exact hB), h.vals.turns ht hV hT, h.few⟩
theorem StIs.below (h : StIs w B St Bk Vb M l c a q V) (hb : Below w.heap.size w w') : StIs w' B St Bk Vb M l c a q V := h.turns (Turns.of_below hb []) (by simp) (by simp) (by simp) (NoU8.nil w)
theorem StIs.cells (h : StIs w B St Bk Vb M l c a q V) : w.cell? ⟨St, 0, none⟩ = some (.pointer (some ⟨M, 0, none⟩)) ∧ w.cell? ⟨St, 1, none⟩ = some (.slice (some ⟨Bk, 0, none⟩) l.length c) ∧ w.cell? ⟨St, 2, none⟩ = some (.int .i64 a) ∧ w.cell? ⟨St, 3, none⟩ = some (.int .u64 q) ∧ w.cell? ⟨St, 4, none⟩ = some (.map (some Vb)) :=
  ⟨h.row.cell 0, h.row.cell 1, h.row.cell 2, h.row.cell 3, h.row.cell 4⟩
theorem StIs.bl_row (h : StIs w B St Bk Vb M l c a q V) : ∃ cur, Row w Bk 3 cur ∧ l.length ≤ c ∧ c ≤ maxLen ∧ ∀ i, i < l.length → w.cell? ⟨Bk, i, none⟩ = some (.int .i64 (l.getD i 0 : Nat)) := by
  obtain ⟨_, cur, hr, hs, h1, h2, h3⟩ := own_row h.bl
  refine ⟨cur, hr, h1, h2, fun i hi => ?_⟩
  rw [hr.cell]
  have h4 := natsV_get l i hi
  rw [← h3, List.getElem?_take, if_pos (by omega)] at h4
  simpa using h4
end
end Go.Proofs.YthjomnaejhehoaaGreatDoor
