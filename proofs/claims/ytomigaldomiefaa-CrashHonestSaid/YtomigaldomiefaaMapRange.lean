/- Ranging over a map whose rounds do not write it: MapIs' words. -/
import Derived.Test.YtomigaldomiefaaMaps
import Derived.Maps.RangeWalk
namespace Go.Proofs.Ytomigaldomiefaa
open Go.RowKit Go.MapKept Go.ChangeMaps
open Go.Maps (Keyed)
set_option linter.unusedVariables false
set_option linter.unusedSimpArgs false

/-- Block r of w goes over the map at b, which f tells; cnt entries are still to come. -/
def IterIs (P : Program) (k : TypeId) (w : World) (b r n : Nat) (f : Value → Option Value) (cnt : Nat) : Prop :=
  ∃ es clock since seen c0, w.heap[b]? = some (.map es clock) ∧ Stamped es clock ∧ es.size = n ∧ (∀ x ∈ es.toList, ∃ l, keyOf P k x.key = some l) ∧ (∀ key v, f key = some v ↔ ∃ x ∈ es.toList, x.key = key ∧ x.val = v) ∧
    w.heap[r]? = some (.mapIter (some b) since seen c0) ∧ (∀ x ∈ es.toList, x.born < since) ∧ (leftOf es seen).size = cnt ∧ since ≤ c0 ∧ since ≤ clock
section
variable {P : Program} {k : TypeId} {w : World} {b r n cnt : Nat} {f : Value → Option Value}
theorem IterIs.isMap (h : IterIs P k w b r n f cnt) : MapIs P k w b n f := by
  obtain ⟨es, clock, since, seen, c0, hb, hs, hn, hk, hf, _⟩ := h
  exact ⟨es, clock, hb, hs, hn, hk, hf⟩
theorem IterIs.lt (h : IterIs P k w b r n f cnt) : r < w.heap.size := by
  obtain ⟨es, clock, since, seen, c0, hb, hs, hn, hk, hf, hr, _⟩ := h
  exact (Array.getElem?_eq_some_iff.1 hr).1
theorem IterIs.keep {w' : World} (h : IterIs P k w b r n f cnt) (hb : w'.heap[b]? = w.heap[b]?) (hr : w'.heap[r]? = w.heap[r]?) : IterIs P k w' b r n f cnt := by
  obtain ⟨es, clock, since, seen, c0, h1, hs, hn, hk, hf, h2, rest⟩ := h
  exact ⟨es, clock, since, seen, c0, hb.trans h1, hs, hn, hk, hf, hr.trans h2, rest⟩
theorem IterIs.below {w' : World} (h : IterIs P k w b r n f cnt) (hb : Below w.heap.size w w') : IterIs P k w' b r n f cnt :=
  h.keep (hb.block b h.isMap.lt) (hb.block r h.lt)
theorem MapIs.range {t e : TypeId} (h : MapIs P k w b n f) (ht : P.underlying t = some (.map k e)) :
    ∃ w', (Instr.range t (.map (some b))).run P w = .ok (.pointer (some ⟨w.heap.size, 0, none⟩)) w' ∧ IterIs P k w' b w.heap.size n f n ∧ Below w.heap.size w w' := by
  obtain ⟨es, clock, hb, hs, hn, hk, hf⟩ := h
  refine ⟨w.alloc (.mapIter (some b) clock #[] clock), ?_, ⟨es, clock, clock, #[], clock, ?_, hs, hn, hk, hf, heap_alloc_new w _, ?_, ?_, Nat.le_refl _, Nat.le_refl _⟩, (Below.refl _ _).alloc (Nat.le_refl _) _⟩
  · simp [Instr.range, run_underlying ht, MapKept.run_getObj_map hb, Result.andThen]
  · exact (Below.heap_alloc w _ b (Array.getElem?_eq_some_iff.1 hb).1).trans hb
  · exact fun x hx => ((stamped_iff es clock).1 hs).1 x hx
  · rw [← hn]; simp [leftOf]
theorem IterIs.next (h : IterIs P k w b r n f cnt) (ty : TypeId) :
    (cnt = 0 ∧ (Instr.next (.pointer (some ⟨r, 0, none⟩)) false ty).run P w = .ok (.tuple #[.bool false]) w) ∨
    ∃ key v w' cnt', f key = some v ∧ (Instr.next (.pointer (some ⟨r, 0, none⟩)) false ty).run P w = .ok (.tuple #[.bool true, key, v]) w' ∧ IterIs P k w' b r n f cnt' ∧ cnt' < cnt ∧ w.grownBy w' (some r) ∧
      (Instr.entry (.pointer (some ⟨r, 0, none⟩))).run P w' = .ok (.tuple #[key, v]) w' := by
  obtain ⟨es, clock, since, seen, c0, hb, hs, hn, hk, hf, hr, hold, hcnt, hsc, hsk⟩ := h
  have hne : r ≠ b := fun e => by rw [e, hb] at hr; cases hr
  rcases run_next_at (P := P) w ty r b since c0 seen es clock hr hb hold hsc with ⟨h0, hrun⟩ | ⟨e, he, w1, hal, hrun⟩
  · exact .inl ⟨by rw [← hcnt]; exact h0, hrun⟩
  · obtain ⟨hem, hes⟩ := mem_left he
    have hr1 : w1.heap[r]? = some (.mapIter (some b) since seen c0) := by rcases hal with rfl | rfl <;> exact hr
    have hb1 : w1.heap[b]? = some (.map es clock) := by rcases hal with rfl | rfl <;> exact hb
    have hset := heap_set (o' := .mapIter (some b) since (seen.push e.born) clock) hr1
    have hb' : (setBlock w1 r (.mapIter (some b) since (seen.push e.born) clock)).heap[b]? = some (.map es clock) := (hset.2 b (fun e1 => hne e1.symm)).trans hb1
    refine .inr ⟨e.key, e.val, _, _, (hf e.key e.val).2 ⟨e, hem, rfl, rfl⟩, hrun, ⟨es, clock, since, seen.push e.born, clock, hb', hs, hn, hk, hf, hset.1, hold, rfl, hsk, hsk⟩, by rw [← hcnt]; exact left_shrinks es seen e he, ?_,
      run_entry_at _ r b since seen es clock e hset.1 hb' hem ((stamped_iff es clock).1 hs).2.1⟩
    rcases hal with rfl | rfl <;> exact ⟨rfl, rfl, rfl, by simp [setBlock], fun i _ hi => hset.2 i (fun e1 => hi (by rw [e1]))⟩
theorem IterIs.left_eq (h : IterIs P k w b r n f cnt) : w.rangeLeft b r = cnt := by
  obtain ⟨es, clock, since, seen, c0, h1, hs, hn, hk, hf, h2, hold, hcnt, _⟩ := h
  unfold World.rangeLeft
  rw [h1, h2]; exact hcnt
variable {ops : Array Oper} {rest : List Oper} {o : Oper} {a : Act} {Q : Exit → Act → World → Prop}
/-- 'range m'. -/
theorem wpList_range_map (hg : o.guard = none) (m : Operand) (t : TypeId) (hop : o.op = Op.range t m) (k e : TypeId) (ht : P.underlying t = some (.map k e)) (b n : Nat) (f : Value → Option Value)
    (hm : a.eval m = .map (some b)) (h : MapIs P k w b n f)
    (hK : ∀ w', IterIs P k w' b w.heap.size n f n → Below w.heap.size w w' → wpList P ops Q rest (a.put o.dst (.pointer (some ⟨w.heap.size, 0, none⟩))) w') :
    wpList P ops Q (o :: rest) a w := by
  refine wpList_plain hg fun K' hK' => ?_
  obtain ⟨w', hrun, r1, r2⟩ := h.range ht
  unfold Oper.wp
  simp [execOp, hop, hm, hrun, Result.andThen]
  exact hK' _ _ (hK w' r1 r2)
/-- The step. -/
theorem wpList_next_map (hg : o.guard = none) (it : Operand) (hop : o.op = Op.next it false) (k : TypeId) (b r n : Nat) (f : Value → Option Value) (cnt : Nat) (hit : a.eval it = .pointer (some ⟨r, 0, none⟩)) (h : IterIs P k w b r n f cnt)
    (hDone : cnt = 0 → wpList P ops Q rest (a.put o.dst (.tuple #[.bool false])) w)
    (hMore : ∀ (key v : Value) (w' : World) (cnt' : Nat), f key = some v → IterIs P k w' b r n f cnt' → cnt' < cnt → w.grownBy w' (some r) →
      (Instr.entry (.pointer (some ⟨r, 0, none⟩))).run P w' = .ok (.tuple #[key, v]) w' → wpList P ops Q rest (a.put o.dst (.tuple #[.bool true, key, v])) w') :
    wpList P ops Q (o :: rest) a w := by
  refine wpList_plain hg fun K' hK' => ?_
  unfold Oper.wp
  rcases h.next o.type with ⟨h0, hrun⟩ | ⟨key, v, w', cnt', hfk, hrun, hit', hlt, hgr, hen⟩
  · simp [execOp, hop, hit, hrun, Result.andThen]
    exact hK' _ _ (hDone h0)
  · simp [execOp, hop, hit, hrun, Result.andThen]
    exact hK' _ _ (hMore key v w' cnt' hfk hit' hlt hgr hen)
end
/-- Two maps that have the same keys have as many entries. -/
theorem nodup_le {α : Type} : ∀ {l m : List α}, l.Pairwise (· ≠ ·) → (∀ x ∈ l, x ∈ m) → l.length ≤ m.length
  | [], _, _, _ => by simp
  | x :: l, m, hp, hm => by
    obtain ⟨h1, h2⟩ := List.pairwise_cons.1 hp
    obtain ⟨m1, m2, rfl⟩ := List.append_of_mem (hm x (by simp))
    have := nodup_le (l := l) (m := m1 ++ m2) h2 (fun y hy => by
      have := hm y (by simp [hy])
      simp only [List.mem_append, List.mem_cons] at this ⊢
      rcases this with h | rfl | h
      · exact .inl h
      · exact absurd rfl (h1 _ hy)
      · exact .inr h)
    simp only [List.length_append, List.length_cons] at this ⊢
    omega
theorem MapIs.keys_le {P : Program} {k : TypeId} {w w' : World} {b b' n n' : Nat} {f f' : Value → Option Value} (h : MapIs P k w b n f) (h' : MapIs P k w' b' n' f') (hk : ∀ key v, f key = some v → ∃ v', f' key = some v') : n ≤ n' := by
  obtain ⟨es, clock, hb, hs, rfl, _, hf⟩ := h
  obtain ⟨es', clock', hb', hs', rfl, _, hf'⟩ := h'
  have := nodup_le (l := es.toList.map (·.key)) (m := es'.toList.map (·.key)) (List.pairwise_map.2 ((stamped_iff es clock).1 hs).2.2) (fun key hkey => by
    obtain ⟨x, hx, rfl⟩ := List.mem_map.1 hkey
    obtain ⟨v', hv'⟩ := hk x.key x.val ((hf _ _).2 ⟨x, hx, rfl, rfl⟩)
    obtain ⟨y, hy, e, _⟩ := (hf' _ _).1 hv'
    exact List.mem_map.2 ⟨y, hy, e⟩)
  simpa using this
end Go.Proofs.Ytomigaldomiefaa
