/- What follows is laid together from several texts of mine, in their order. -/
import Derived.Shelf.SlMaps.Clone
import Derived.Test.YthjomnaejhehoaaGreatDoorProg
import Derived.Test.YthjomnaejhehoaaGreatDoorQ13
import Derived.Test.YthjomnaejhehoaaGreatDoorQ19

namespace Go.Proofs.YthjomnaejhehoaaGreatDoor
open Go.Shelf
def Tryz.cloneA_ren : Go.Shelf.Ren := ⟨fun | 5 => 54 | 7 => 70 | n => n, fun | 23 => 101 | 25 => 3 | 3 => 22 | 4 => 4 | 20 => 20 | n => n, fun | n => n⟩
theorem Tryz.cloneA : Go.Proofs.SlLaysW.n5 Tryz.prog Tryz.cloneA_ren := {
  mixed := by kernel_rfl
  f5 := ⟨Tryz.f54.name, by decide, Tryz.func54.trans (congrArg some (by kernel_rfl))⟩
  f7 := Tryz.func70.trans (congrArg some (by kernel_rfl))
  t4 := Tryz.underlying4
  a4 := Tryz.isAgg4
  z4 := Tryz.sizeOf4
  v4 := Tryz.zeroValue4
  t20 := Tryz.underlying20
  a20 := Tryz.isAgg20
  z20 := Tryz.sizeOf20
  v20 := Tryz.zeroValue20
  t23 := Tryz.underlying101
  a23 := Tryz.isAgg101
  z23 := Tryz.sizeOf101
  v23 := Tryz.zeroValue101 }
end Go.Proofs.YthjomnaejhehoaaGreatDoor

namespace Go.Proofs.YthjomnaejhehoaaGreatDoor
open Go.RowKit Go.MapKept Go.ChangeMaps
open Go.Maps (Keyed)
set_option linter.unusedVariables false
set_option linter.unusedSimpArgs false

/-- Block r of w goes over the map at b, which f tells; what it has told and what is still there is of K; cnt entries are still to come. -/
def SweepIs (P : Program) (k : TypeId) (w : World) (b r : Nat) (f : Value → Option Value) (K : Value → Prop) (cnt : Nat) : Prop :=
  ∃ es clock since seen c0, w.heap[b]? = some (.map es clock) ∧ Stamped es clock ∧ (∀ x ∈ es.toList, ∃ l, keyOf P k x.key = some l) ∧ (∀ key v, f key = some v ↔ ∃ x ∈ es.toList, x.key = key ∧ x.val = v) ∧
    w.heap[r]? = some (.mapIter (some b) since seen c0) ∧ (∀ x ∈ es.toList, x.born < since) ∧ (leftOf es seen).size = cnt ∧ since ≤ c0 ∧ since ≤ clock ∧ ∀ x ∈ es.toList, seen.contains x.born = true → K x.key
section
variable {P : Program} {k : TypeId} {w : World} {b r cnt : Nat} {f : Value → Option Value} {K : Value → Prop}
theorem SweepIs.isMap (h : SweepIs P k w b r f K cnt) : ∃ n, MapIs P k w b n f := by
  obtain ⟨es, clock, since, seen, c0, hb, hs, hk, hf, _⟩ := h
  exact ⟨_, es, clock, hb, hs, rfl, hk, hf⟩
theorem SweepIs.lt (h : SweepIs P k w b r f K cnt) : r < w.heap.size ∧ b < w.heap.size := by
  obtain ⟨es, clock, since, seen, c0, hb, hs, hk, hf, hr, _⟩ := h
  exact ⟨(Array.getElem?_eq_some_iff.1 hr).1, (Array.getElem?_eq_some_iff.1 hb).1⟩
theorem SweepIs.keep {w' : World} (h : SweepIs P k w b r f K cnt) (hb : w'.heap[b]? = w.heap[b]?) (hr : w'.heap[r]? = w.heap[r]?) : SweepIs P k w' b r f K cnt := by
  obtain ⟨es, clock, since, seen, c0, h1, hs, hk, hf, h2, rest⟩ := h
  exact ⟨es, clock, since, seen, c0, hb.trans h1, hs, hk, hf, hr.trans h2, rest⟩
theorem SweepIs.below {w' : World} (h : SweepIs P k w b r f K cnt) (hb : Below w.heap.size w w') : SweepIs P k w' b r f K cnt :=
  h.keep (hb.block b h.lt.2) (hb.block r h.lt.1)
theorem SweepIs.mono {K' : Value → Prop} (h : SweepIs P k w b r f K cnt) (hK : ∀ y v, f y = some v → K y → K' y) : SweepIs P k w b r f K' cnt := by
  obtain ⟨es, clock, since, seen, c0, h1, hs, hk, hf, h2, h3, h4, h5, h6, h7⟩ := h
  exact ⟨es, clock, since, seen, c0, h1, hs, hk, hf, h2, h3, h4, h5, h6, fun x hx hsn => hK _ _ ((hf x.key x.val).2 ⟨x, hx, rfl, rfl⟩) (h7 x hx hsn)⟩
theorem MapIs.sweep {n : Nat} {t e : TypeId} (h : MapIs P k w b n f) (ht : P.underlying t = some (.map k e)) :
    ∃ w', (Instr.range t (.map (some b))).run P w = .ok (.pointer (some ⟨w.heap.size, 0, none⟩)) w' ∧ SweepIs P k w' b w.heap.size f (fun _ => False) n ∧ Below w.heap.size w w' := by
  obtain ⟨es, clock, hb, hs, hn, hk, hf⟩ := h
  refine ⟨w.alloc (.mapIter (some b) clock #[] clock), ?_, ⟨es, clock, clock, #[], clock, ?_, hs, hk, hf, heap_alloc_new w _, ?_, ?_, Nat.le_refl _, Nat.le_refl _, ?_⟩, (Below.refl _ _).alloc (Nat.le_refl _) _⟩
  · simp [Instr.range, run_underlying ht, MapKept.run_getObj_map hb, Result.andThen]
  · exact (Below.heap_alloc w _ b (Array.getElem?_eq_some_iff.1 hb).1).trans hb
  · exact fun x hx => ((stamped_iff es clock).1 hs).1 x hx
  · rw [← hn]; simp [leftOf]
  · intro x _ h; simp at h
theorem left_none {es : Array MapEntry} {seen : Array Nat} (h : (leftOf es seen).size = 0) : ∀ x ∈ es.toList, seen.contains x.born = true := by
  intro x hx
  cases hc : seen.contains x.born with
  | true => rfl
  | false =>
    have : x ∈ (leftOf es seen).toList := by
      unfold leftOf
      have hx' : x ∈ es := by simpa using hx
      simp at hc
      simp [hx', hc]
    have h0 : (leftOf es seen).toList.length = 0 := by simpa using h
    rw [List.length_eq_zero_iff.1 h0] at this
    simp at this
theorem SweepIs.next (h : SweepIs P k w b r f K cnt) (ty : TypeId) :
    (cnt = 0 ∧ (Instr.next (.pointer (some ⟨r, 0, none⟩)) false ty).run P w = .ok (.tuple #[.bool false]) w ∧ ∀ key v, f key = some v → K key) ∨
    ∃ key v w' cnt', f key = some v ∧ (Instr.next (.pointer (some ⟨r, 0, none⟩)) false ty).run P w = .ok (.tuple #[.bool true, key, v]) w' ∧ SweepIs P k w' b r f (fun y => y = key ∨ K y) cnt' ∧ cnt' < cnt ∧ w.grownBy w' (some r) ∧
      (Instr.entry (.pointer (some ⟨r, 0, none⟩))).run P w' = .ok (.tuple #[key, v]) w' := by
  obtain ⟨es, clock, since, seen, c0, hb, hs, hk, hf, hr, hold, hcnt, hsc, hsk, hK⟩ := h
  have hne : r ≠ b := fun e => by rw [e, hb] at hr; cases hr
  rcases run_next_at (P := P) w ty r b since c0 seen es clock hr hb hold hsc with ⟨h0, hrun⟩ | ⟨e, he, w1, hal, hrun⟩
  · refine .inl ⟨by rw [← hcnt]; exact h0, hrun, fun key v hkv => ?_⟩
    obtain ⟨x, hx, rfl, _⟩ := (hf _ _).1 hkv
    exact hK x hx (left_none h0 x hx)
  · obtain ⟨hem, hes⟩ := mem_left he
    have hr1 : w1.heap[r]? = some (.mapIter (some b) since seen c0) := by rcases hal with rfl | rfl <;> exact hr
    have hb1 : w1.heap[b]? = some (.map es clock) := by rcases hal with rfl | rfl <;> exact hb
    have hset := heap_set (o' := .mapIter (some b) since (seen.push e.born) clock) hr1
    have hb' : (setBlock w1 r (.mapIter (some b) since (seen.push e.born) clock)).heap[b]? = some (.map es clock) := (hset.2 b (fun e1 => hne e1.symm)).trans hb1
    refine .inr ⟨e.key, e.val, _, _, (hf e.key e.val).2 ⟨e, hem, rfl, rfl⟩, hrun, ⟨es, clock, since, seen.push e.born, clock, hb', hs, hk, hf, hset.1, hold, rfl, hsk, hsk, fun x hx hsn => ?_⟩, by rw [← hcnt]; exact left_shrinks es seen e he, ?_,
      run_entry_at _ r b since seen es clock e hset.1 hb' hem ((stamped_iff es clock).1 hs).2.1⟩
    · by_cases hb2 : x.born = e.born
      · refine .inl ?_
        have hnd := ((stamped_iff es clock).1 hs).2.1
        obtain ⟨i, hi, ei⟩ := List.getElem_of_mem hx
        obtain ⟨j, hj, ej⟩ := List.getElem_of_mem hem
        have : i = j := by
          rcases Nat.lt_trichotomy i j with h | h | h
          · have := List.pairwise_iff_getElem.1 hnd i j (by simpa using hi) (by simpa using hj) h
            simp only [List.getElem_map] at this
            rw [ei, ej] at this; exact absurd hb2 this
          · exact h
          · have := List.pairwise_iff_getElem.1 hnd j i (by simpa using hj) (by simpa using hi) h
            simp only [List.getElem_map] at this
            rw [ei, ej] at this; exact absurd hb2.symm this
        subst this
        rw [← ei, ej]
      · refine .inr (hK x hx ?_)
        simp only [Array.contains_push, Bool.or_eq_true] at hsn
        rcases hsn with h | h
        · exact h
        · exact absurd (by simpa using h) hb2
    · rcases hal with rfl | rfl <;> exact ⟨rfl, rfl, rfl, by simp [setBlock], fun i _ hi => hset.2 i (fun e1 => hi (by rw [e1]))⟩
/-- A key that was told is deleted. -/
theorem SweepIs.delete (h : SweepIs P k w b r f K cnt) {t e ty : TypeId} (KK : Keyed P k) (ht : P.underlying t = some (.map k e)) {key : Value} {kl : Lit} (hkey : keyOf P k key = some kl) :
    ∃ w' cnt', (Builtin.delete_ #[t, k] ty #[.map (some b), key]).run P w = .ok (.tuple #[]) w' ∧ SweepIs P k w' b r (updK f key none) (fun y => K y ∧ y ≠ key) cnt' ∧ cnt' ≤ cnt ∧ w.grownBy w' (some b) := by
  obtain ⟨es, clock, since, seen, c0, hb, hs, hk, hf, hr, hold, hcnt, hsc, hsk, hK⟩ := h
  have hne : r ≠ b := fun e => by rw [e, hb] at hr; cases hr
  rcases MapIs.find KK hk hf hkey w with ⟨h0, h1, h2⟩ | ⟨j, e0, h0, h1, h2, h3⟩
  · refine ⟨setBlock w b (.map es clock), cnt, ?_, ⟨es, clock, since, seen, c0, heap_setBlock_same hb _, hs, hk, fun key' v => ?_, (heap_setBlock_other hb _ hne).trans hr, hold, hcnt, hsc, hsk, fun x hx hsn => ⟨hK x hx hsn, h2 x hx⟩⟩, Nat.le_refl _, grown_setBlock hb _⟩
    · simp [Builtin.delete_, run_underlying ht, MapKept.run_getObj_map hb, KK.check w _ hkey, h1, MapKept.run_setObj_map _ hb, Result.andThen, setBlock]
    · by_cases he : key' = key
      · subst he
        rw [updK_same]
        constructor
        · intro h; cases h
        · rintro ⟨x, hx, e1, _⟩; exact absurd e1 (h2 x hx)
      · rw [updK_ne _ _ _ he]; exact hf key' v
  · have hjl : j < es.toList.length := (List.getElem?_eq_some_iff.1 h2).1
    have hjs : j < es.size := by simpa using hjl
    have hsub : (es.eraseIdxIfInBounds j).toList = es.toList.eraseIdx j := by
      unfold Array.eraseIdxIfInBounds
      rw [dif_pos hjs]
      simp
    have hmem : ∀ x, x ∈ es.toList.eraseIdx j ↔ x ∈ es.toList ∧ x.key ≠ key := by
      intro x
      have hn' : es.toList.Pairwise (fun x y => x.key ≠ y.key) := ((stamped_iff es clock).1 hs).2.2
      obtain ⟨_, ej⟩ := List.getElem?_eq_some_iff.1 h2
      constructor
      · intro hx
        obtain ⟨i, hne, hi⟩ := List.mem_eraseIdx_iff_getElem?.1 hx
        obtain ⟨hi', ei⟩ := List.getElem?_eq_some_iff.1 hi
        refine ⟨List.mem_of_getElem? hi, ?_⟩
        rw [← h3, ← ei, ← ej]
        rcases Nat.lt_or_gt_of_ne hne with h | h
        · exact List.pairwise_iff_getElem.1 hn' i j hi' hjl h
        · exact (List.pairwise_iff_getElem.1 hn' j i hjl hi' h).symm
      · rintro ⟨hx, hne⟩
        obtain ⟨i, hi⟩ := List.mem_iff_getElem?.1 hx
        refine List.mem_eraseIdx_iff_getElem?.2 ⟨i, ?_, hi⟩
        rintro rfl
        rw [h2] at hi; injection hi with hi
        exact hne (by rw [← hi]; exact h3)
    refine ⟨setBlock w b (.map (es.eraseIdxIfInBounds j) clock), _, ?_, ⟨_, clock, since, seen, c0, heap_setBlock_same hb _, stamped_erase hs j, ?_, fun key' v => ?_, (heap_setBlock_other hb _ hne).trans hr, ?_, rfl, hsc, hsk, ?_⟩, ?_, grown_setBlock hb _⟩
    · simp [Builtin.delete_, run_underlying ht, MapKept.run_getObj_map hb, KK.check w _ hkey, h1, MapKept.run_setObj_map _ hb, Result.andThen, setBlock]
    · intro x hx
      rw [hsub, hmem] at hx
      exact hk x hx.1
    · rw [hsub]
      by_cases he : key' = key
      · subst he
        rw [updK_same]
        constructor
        · intro h; cases h
        · rintro ⟨x, hx, e1, _⟩
          exact absurd e1 ((hmem x).1 hx).2
      · rw [updK_ne _ _ _ he, hf]
        constructor
        · rintro ⟨x, hx, e1, e2⟩
          exact ⟨x, (hmem x).2 ⟨hx, by rw [e1]; exact he⟩, e1, e2⟩
        · rintro ⟨x, hx, e1, e2⟩
          exact ⟨x, ((hmem x).1 hx).1, e1, e2⟩
    · intro x hx
      rw [hsub, hmem] at hx
      exact hold x hx.1
    · intro x hx hsn
      rw [hsub, hmem] at hx
      exact ⟨hK x hx.1 hsn, hx.2⟩
    · rw [← hcnt]
      have e1 : ∀ a : Array MapEntry, (leftOf a seen).size = (a.toList.filter fun e => !seen.contains e.born).length := fun a => by
        unfold leftOf
        rw [← Array.length_toList, Array.toList_filter]
      rw [e1, e1, hsub]
      exact (List.Sublist.filter _ (List.eraseIdx_sublist _ _)).length_le
theorem SweepIs.left_eq (h : SweepIs P k w b r f K cnt) : w.rangeLeft b r = cnt := by
  obtain ⟨es, clock, since, seen, c0, h1, hs, hk, hf, h2, hold, hcnt, _⟩ := h
  unfold World.rangeLeft
  rw [h1, h2]; exact hcnt
variable {ops : Array Oper} {rest : List Oper} {o : Oper} {a : Act} {Q : Exit → Act → World → Prop}
/-- 'range m'. -/
theorem wpList_range_sweep (hg : o.guard = none) (m : Operand) (t : TypeId) (hop : o.op = Op.range t m) (k e : TypeId) (ht : P.underlying t = some (.map k e)) (b n : Nat) (f : Value → Option Value)
    (hm : a.eval m = .map (some b)) (h : MapIs P k w b n f)
    (hK : ∀ w', SweepIs P k w' b w.heap.size f (fun _ => False) n → Below w.heap.size w w' → wpList P ops Q rest (a.put o.dst (.pointer (some ⟨w.heap.size, 0, none⟩))) w') :
    wpList P ops Q (o :: rest) a w := by
  refine wpList_plain hg fun K' hK' => ?_
  obtain ⟨w', hrun, r1, r2⟩ := h.sweep ht
  unfold Oper.wp
  simp [execOp, hop, hm, hrun, Result.andThen]
  exact hK' _ _ (hK w' r1 r2)
/-- The step. -/
theorem wpList_next_sweep (hg : o.guard = none) (it : Operand) (hop : o.op = Op.next it false) (k : TypeId) (b r : Nat) (f : Value → Option Value) (K : Value → Prop) (cnt : Nat) (hit : a.eval it = .pointer (some ⟨r, 0, none⟩)) (h : SweepIs P k w b r f K cnt)
    (hDone : cnt = 0 → (∀ key v, f key = some v → K key) → wpList P ops Q rest (a.put o.dst (.tuple #[.bool false])) w)
    (hMore : ∀ (key v : Value) (w' : World) (cnt' : Nat), f key = some v → SweepIs P k w' b r f (fun y => y = key ∨ K y) cnt' → cnt' < cnt → w.grownBy w' (some r) →
      (Instr.entry (.pointer (some ⟨r, 0, none⟩))).run P w' = .ok (.tuple #[key, v]) w' → wpList P ops Q rest (a.put o.dst (.tuple #[.bool true, key, v])) w') :
    wpList P ops Q (o :: rest) a w := by
  refine wpList_plain hg fun K' hK' => ?_
  unfold Oper.wp
  rcases h.next o.type with ⟨h0, hrun, hall⟩ | ⟨key, v, w', cnt', hfk, hrun, hit', hlt, hgr, hen⟩
  · simp [execOp, hop, hit, hrun, Result.andThen]
    exact hK' _ _ (hDone h0 hall)
  · simp [execOp, hop, hit, hrun, Result.andThen]
    exact hK' _ _ (hMore key v w' cnt' hfk hit' hlt hgr hen)
end
end Go.Proofs.YthjomnaejhehoaaGreatDoor

namespace Go.Proofs.YthjomnaejhehoaaGreatDoor
open Go.RowKit Go.MapKept Go.ChangeMaps
open Go.Maps (Keyed)
set_option linter.unusedVariables false
set_option linter.unusedSimpArgs false

/-- Block r of w goes over the map at b, which f tells; the keys T have been told; cnt entries are still to come. -/
def ToldIs (P : Program) (k : TypeId) (w : World) (b r : Nat) (f : Value → Option Value) (T : List Value) (cnt : Nat) : Prop :=
  ∃ es clock since seen c0, w.heap[b]? = some (.map es clock) ∧ Stamped es clock ∧ (∀ x ∈ es.toList, ∃ l, keyOf P k x.key = some l) ∧ (∀ key v, f key = some v ↔ ∃ x ∈ es.toList, x.key = key ∧ x.val = v) ∧
    w.heap[r]? = some (.mapIter (some b) since seen c0) ∧ (∀ x ∈ es.toList, x.born < since) ∧ (leftOf es seen).size = cnt ∧ since ≤ c0 ∧ since ≤ clock ∧ ∀ x ∈ es.toList, (seen.contains x.born = true ↔ x.key ∈ T)
section
variable {P : Program} {k : TypeId} {w : World} {b r cnt : Nat} {f : Value → Option Value} {T : List Value}
theorem ToldIs.isMap (h : ToldIs P k w b r f T cnt) : ∃ n, MapIs P k w b n f := by
  obtain ⟨es, clock, since, seen, c0, hb, hs, hk, hf, _⟩ := h
  exact ⟨_, es, clock, hb, hs, rfl, hk, hf⟩
theorem ToldIs.lt (h : ToldIs P k w b r f T cnt) : r < w.heap.size ∧ b < w.heap.size := by
  obtain ⟨es, clock, since, seen, c0, hb, hs, hk, hf, hr, _⟩ := h
  exact ⟨(Array.getElem?_eq_some_iff.1 hr).1, (Array.getElem?_eq_some_iff.1 hb).1⟩
theorem ToldIs.ne (h : ToldIs P k w b r f T cnt) : r ≠ b := by
  obtain ⟨es, clock, since, seen, c0, hb, hs, hk, hf, hr, _⟩ := h
  intro e; rw [e, hb] at hr; cases hr
theorem ToldIs.keep {w' : World} (h : ToldIs P k w b r f T cnt) (hb : w'.heap[b]? = w.heap[b]?) (hr : w'.heap[r]? = w.heap[r]?) : ToldIs P k w' b r f T cnt := by
  obtain ⟨es, clock, since, seen, c0, h1, hs, hk, hf, h2, rest⟩ := h
  exact ⟨es, clock, since, seen, c0, hb.trans h1, hs, hk, hf, hr.trans h2, rest⟩
theorem ToldIs.turns {w' : World} {S : List Nat} (h : ToldIs P k w b r f T cnt) (ht : Turns w w' S) (hb : b ∉ S) (hr : r ∉ S) : ToldIs P k w' b r f T cnt :=
  h.keep (ht.block b h.lt.2 hb) (ht.block r h.lt.1 hr)
theorem MapIs.told {n : Nat} {t e : TypeId} (h : MapIs P k w b n f) (ht : P.underlying t = some (.map k e)) :
    ∃ w', (Instr.range t (.map (some b))).run P w = .ok (.pointer (some ⟨w.heap.size, 0, none⟩)) w' ∧ ToldIs P k w' b w.heap.size f [] n ∧ Below w.heap.size w w' := by
  obtain ⟨es, clock, hb, hs, hn, hk, hf⟩ := h
  refine ⟨w.alloc (.mapIter (some b) clock #[] clock), ?_, ⟨es, clock, clock, #[], clock, ?_, hs, hk, hf, heap_alloc_new w _, ?_, ?_, Nat.le_refl _, Nat.le_refl _, ?_⟩, (Below.refl _ _).alloc (Nat.le_refl _) _⟩
  · simp [Instr.range, run_underlying ht, MapKept.run_getObj_map hb, Result.andThen]
  · exact (Below.heap_alloc w _ b (Array.getElem?_eq_some_iff.1 hb).1).trans hb
  · exact fun x hx => ((stamped_iff es clock).1 hs).1 x hx
  · rw [← hn]; simp [leftOf]
  · intro x _; simp
theorem left_not_seen {es : Array MapEntry} {seen : Array Nat} {e : MapEntry} (h : e ∈ (leftOf es seen)) : seen.contains e.born = false := by
  unfold leftOf at h
  rw [Array.mem_filter] at h
  have := h.2
  simpa using this
theorem ToldIs.next (h : ToldIs P k w b r f T cnt) (ty : TypeId) :
    (cnt = 0 ∧ (Instr.next (.pointer (some ⟨r, 0, none⟩)) false ty).run P w = .ok (.tuple #[.bool false]) w ∧ ∀ key v, f key = some v → key ∈ T) ∨
    ∃ key v w' cnt', f key = some v ∧ key ∉ T ∧ (Instr.next (.pointer (some ⟨r, 0, none⟩)) false ty).run P w = .ok (.tuple #[.bool true, key, v]) w' ∧ ToldIs P k w' b r f (key :: T) cnt' ∧ cnt' < cnt ∧ w.grownBy w' (some r) ∧
      (Instr.entry (.pointer (some ⟨r, 0, none⟩))).run P w' = .ok (.tuple #[key, v]) w' := by
  have hne := h.ne
  obtain ⟨es, clock, since, seen, c0, hb, hs, hk, hf, hr, hold, hcnt, hsc, hsk, hK⟩ := h
  rcases run_next_at (P := P) w ty r b since c0 seen es clock hr hb hold hsc with ⟨h0, hrun⟩ | ⟨e, he, w1, hal, hrun⟩
  · refine .inl ⟨by rw [← hcnt]; exact h0, hrun, fun key v hkv => ?_⟩
    obtain ⟨x, hx, rfl, _⟩ := (hf _ _).1 hkv
    exact (hK x hx).1 (left_none h0 x hx)
  · obtain ⟨hem, hes⟩ := mem_left he
    have hr1 : w1.heap[r]? = some (.mapIter (some b) since seen c0) := by rcases hal with rfl | rfl <;> exact hr
    have hb1 : w1.heap[b]? = some (.map es clock) := by rcases hal with rfl | rfl <;> exact hb
    have hset := heap_set (o' := .mapIter (some b) since (seen.push e.born) clock) hr1
    have hb' : (setBlock w1 r (.mapIter (some b) since (seen.push e.born) clock)).heap[b]? = some (.map es clock) := (hset.2 b (fun e1 => hne e1.symm)).trans hb1
    have hnot : e.key ∉ T := fun hm => by
      have h1 := (hK e hem).2 hm
      have h2 : seen.contains e.born = false := left_not_seen (by simpa using he)
      rw [h1] at h2; cases h2
    refine .inr ⟨e.key, e.val, _, _, (hf e.key e.val).2 ⟨e, hem, rfl, rfl⟩, hnot, hrun, ⟨es, clock, since, seen.push e.born, clock, hb', hs, hk, hf, hset.1, hold, rfl, hsk, hsk, fun x hx => ?_⟩, by rw [← hcnt]; exact left_shrinks es seen e he, ?_,
      run_entry_at _ r b since seen es clock e hset.1 hb' hem ((stamped_iff es clock).1 hs).2.1⟩
    · have hbk : x.born = e.born ↔ x.key = e.key := by
        have hnd := ((stamped_iff es clock).1 hs).2.1
        have hnk := ((stamped_iff es clock).1 hs).2.2
        obtain ⟨i, hi, ei⟩ := List.getElem_of_mem hx
        obtain ⟨j, hj, ej⟩ := List.getElem_of_mem hem
        rcases Nat.lt_trichotomy i j with h | h | h
        · have h1 := List.pairwise_iff_getElem.1 hnd i j (by simpa using hi) (by simpa using hj) h
          have h2 := List.pairwise_iff_getElem.1 hnk i j hi hj h
          simp only [List.getElem_map] at h1
          rw [ei, ej] at h1 h2
          exact ⟨fun e1 => absurd e1 h1, fun e1 => absurd e1 h2⟩
        · subst h
          have e1 : x = e := by rw [← ei, ← ej]
          rw [e1]; exact ⟨fun _ => rfl, fun _ => rfl⟩
        · have h1 := List.pairwise_iff_getElem.1 hnd j i (by simpa using hj) (by simpa using hi) h
          have h2 := List.pairwise_iff_getElem.1 hnk j i hj hi h
          simp only [List.getElem_map] at h1
          rw [ei, ej] at h1 h2
          exact ⟨fun e1 => absurd e1.symm h1, fun e1 => absurd e1.symm h2⟩
      rw [Array.contains_push, Bool.or_eq_true, List.mem_cons, hK x hx]
      have e2 : (e.born == x.born) = true ↔ x.born = e.born := by rw [beq_iff_eq]; exact eq_comm
      have e3 : (x.born == e.born) = true ↔ x.born = e.born := by rw [beq_iff_eq]
      constructor
      · rintro (h | h)
        · exact .inr h
        · exact .inl (hbk.1 (by first | exact e2.1 h | exact e3.1 h))
      · rintro (h | h)
        · exact .inr (by first | exact e2.2 (hbk.2 h) | exact e3.2 (hbk.2 h))
        · exact .inl h
    · rcases hal with rfl | rfl <;> exact ⟨rfl, rfl, rfl, by simp [setBlock], fun i _ hi => hset.2 i (fun e1 => hi (by rw [e1]))⟩
variable {ops : Array Oper} {rest : List Oper} {o : Oper} {a : Act} {Q : Exit → Act → World → Prop}
/-- 'range m'. -/
theorem wpList_range_told (hg : o.guard = none) (m : Operand) (t : TypeId) (hop : o.op = Op.range t m) (k e : TypeId) (ht : P.underlying t = some (.map k e)) (b n : Nat) (f : Value → Option Value)
    (hm : a.eval m = .map (some b)) (h : MapIs P k w b n f)
    (hK : ∀ w', ToldIs P k w' b w.heap.size f [] n → Below w.heap.size w w' → wpList P ops Q rest (a.put o.dst (.pointer (some ⟨w.heap.size, 0, none⟩))) w') :
    wpList P ops Q (o :: rest) a w := by
  refine wpList_plain hg fun K' hK' => ?_
  obtain ⟨w', hrun, r1, r2⟩ := h.told ht
  unfold Oper.wp
  simp [execOp, hop, hm, hrun, Result.andThen]
  exact hK' _ _ (hK w' r1 r2)
/-- The step. -/
theorem wpList_next_told (hg : o.guard = none) (it : Operand) (hop : o.op = Op.next it false) (k : TypeId) (b r : Nat) (f : Value → Option Value) (T : List Value) (cnt : Nat) (hit : a.eval it = .pointer (some ⟨r, 0, none⟩)) (h : ToldIs P k w b r f T cnt)
    (hDone : cnt = 0 → (∀ key v, f key = some v → key ∈ T) → wpList P ops Q rest (a.put o.dst (.tuple #[.bool false])) w)
    (hMore : ∀ (key v : Value) (w' : World) (cnt' : Nat), f key = some v → key ∉ T → ToldIs P k w' b r f (key :: T) cnt' → cnt' < cnt → w.grownBy w' (some r) →
      (Instr.entry (.pointer (some ⟨r, 0, none⟩))).run P w' = .ok (.tuple #[key, v]) w' → wpList P ops Q rest (a.put o.dst (.tuple #[.bool true, key, v])) w') :
    wpList P ops Q (o :: rest) a w := by
  refine wpList_plain hg fun K' hK' => ?_
  unfold Oper.wp
  rcases h.next o.type with ⟨h0, hrun, hall⟩ | ⟨key, v, w', cnt', hfk, hnk, hrun, hit', hlt, hgr, hen⟩
  · simp [execOp, hop, hit, hrun, Result.andThen]
    exact hK' _ _ (hDone h0 hall)
  · simp [execOp, hop, hit, hrun, Result.andThen]
    exact hK' _ _ (hMore key v w' cnt' hfk hnk hit' hlt hgr hen)
end
end Go.Proofs.YthjomnaejhehoaaGreatDoor

namespace Go.Proofs.YthjomnaejhehoaaGreatDoor
open Go.RowKit Go.MapKept Go.ChangeMaps
set_option linter.unusedVariables false
set_option linter.unusedSimpArgs false

/-- What the first j of keys and values make of V. -/
def putV (V : Vals) (ks : List Int) (vss : List (List Nat)) : Nat → Vals
  | 0 => V
  | j + 1 => updV (putV V ks vss j) (ks.getD j 0).toNat (vss.getD j [])
/-- The keys seen. -/
def seenF (ks : List Int) : Nat → Nat → Bool
  | 0 => fun _ => false
  | j + 1 => setBad (seenF ks j) (ks.getD j 0).toNat
/-- The first j keys may be. -/
def OkUp (ks : List Int) (j : Nat) : Prop := (∀ t, t < j → 0 ≤ ks.getD t 0 ∧ ks.getD t 0 < 32) ∧ ∀ t, t < j → ∀ s, s < t → ks.getD s 0 ≠ ks.getD t 0
def okKs (ks : List Int) (nv : Nat) : Prop := ks.length = nv ∧ OkUp ks ks.length
theorem OkUp.zero (ks : List Int) : OkUp ks 0 := ⟨fun _ h => by omega, fun _ h => by omega⟩
theorem OkUp.mono {ks : List Int} {i j : Nat} (h : OkUp ks j) (hi : i ≤ j) : OkUp ks i := ⟨fun t ht => h.1 t (by omega), fun t ht => h.2 t (by omega)⟩
theorem seenF_iff {ks : List Int} : ∀ {j : Nat}, OkUp ks j → ∀ k : Nat, (seenF ks j k = true ↔ ∃ t, t < j ∧ ks.getD t 0 = (k : Int))
  | 0, _, k => by simp [seenF]
  | j + 1, h, k => by
    have h1 := seenF_iff (h.mono (Nat.le_succ j)) k
    have hx := h.1 j (by omega)
    unfold seenF setBad
    rw [Bool.or_eq_true, h1, beq_iff_eq]
    constructor
    · rintro (e | ⟨t, ht, e⟩)
      · exact ⟨j, by omega, by omega⟩
      · exact ⟨t, by omega, e⟩
    · rintro ⟨t, ht, e⟩
      rcases Nat.lt_or_eq_of_le (Nat.le_of_lt_succ ht) with h2 | rfl
      · exact .inr ⟨t, h2, e⟩
      · left; omega
theorem OkUp.step {ks : List Int} {j : Nat} (h : OkUp ks j) (h0 : 0 ≤ ks.getD j 0) (h1 : ks.getD j 0 < 32) (hs : seenF ks j (ks.getD j 0).toNat = false) : OkUp ks (j + 1) := by
  refine ⟨fun t ht => ?_, fun t ht s hst => ?_⟩
  · rcases Nat.lt_or_eq_of_le (Nat.le_of_lt_succ ht) with h2 | rfl
    · exact h.1 t h2
    · exact ⟨h0, h1⟩
  · rcases Nat.lt_or_eq_of_le (Nat.le_of_lt_succ ht) with h2 | rfl
    · exact h.2 t h2 s hst
    · intro e
      have := (seenF_iff h (ks.getD t 0).toNat).2 ⟨s, hst, by rw [e]; omega⟩
      rw [hs] at this; cases this
theorem OkUp.not_seen {ks : List Int} {j : Nat} (h : OkUp ks j) (h' : OkUp ks (j + 1)) : seenF ks j (ks.getD j 0).toNat = false := by
  cases hs : seenF ks j (ks.getD j 0).toNat with
  | false => rfl
  | true =>
    obtain ⟨t, ht, e⟩ := (seenF_iff h _).1 hs
    have := h'.1 j (by omega)
    exact absurd (by omega) (h'.2 j (by omega) t ht)
theorem putV_ok {V : Vals} {ks : List Int} {vss : List (List Nat)} (hV : OkV V) (hb : ∀ l ∈ vss, ∀ u ∈ l, u < 256) : ∀ j, OkUp ks j → OkV (putV V ks vss j)
  | 0, _ => hV
  | j + 1, h => by
    have h1 := h.1 j (by omega)
    refine (putV_ok hV hb j (h.mono (Nat.le_succ j))).upd (by omega) fun u hu => ?_
    by_cases hj : j < vss.length
    · exact hb (vss.getD j []) (by rw [List.getD_eq_getElem?_getD, List.getElem?_eq_getElem hj]; exact List.getElem_mem hj) u hu
    · rw [List.getD_eq_getElem?_getD, List.getElem?_eq_none (by omega)] at hu
      cases hu
theorem putV_size {V : Vals} {ks : List Int} {vss : List (List Nat)} {m : Nat} (hV : ∀ k l, V k = some l → l.length ≤ m) (hb : ∀ l ∈ vss, l.length ≤ m) : ∀ j k l, putV V ks vss j k = some l → l.length ≤ m
  | 0, k, l, h => hV k l h
  | j + 1, k, l, h => by
    unfold putV updV at h
    split at h
    · injection h with h
      subst h
      by_cases hj : j < vss.length
      · exact hb (vss.getD j []) (by rw [List.getD_eq_getElem?_getD, List.getElem?_eq_getElem hj]; exact List.getElem_mem hj)
      · rw [List.getD_eq_getElem?_getD, List.getElem?_eq_none (by omega)]
        simp
    · exact putV_size hV hb j k l h
/-- A row of byte slices. -/
def SvIs (w : World) (A : Option Addr) (vss : List (List Nat)) : Prop := ∀ i, i < vss.length → ∃ b off Ai c, A = some ⟨b, off, none⟩ ∧ w.cell? ⟨b, off + i, none⟩ = some (.slice Ai (vss.getD i []).length c) ∧ Cells8 w Ai (vss.getD i [])
theorem SvIs.below {w w' : World} {A : Option Addr} {vss : List (List Nat)} (h : SvIs w A vss) (hb : Below w.heap.size w w') : SvIs w' A vss := fun i hi => by
  obtain ⟨b, off, Ai, c, h1, h2, h3⟩ := h i hi
  exact ⟨b, off, Ai, c, h1, keep_below hb _ _ h2, fun t ht => by
    obtain ⟨b', off', e, hc⟩ := h3 t ht
    exact ⟨b', off', e, keep_below hb _ _ hc⟩⟩
theorem CellsI.below' {w w' : World} {A : Option Addr} {vs : List Int} (h : CellsI w A vs) (hb : Below w.heap.size w w') : CellsI w' A vs := fun i hi => by
  obtain ⟨b, off, e, hc⟩ := h i hi
  exact ⟨b, off, e, keep_below hb _ _ hc⟩
/-- The sum of those told. -/
def sumOf (V : Vals) (ts : List Nat) : Nat := (ts.map fun k => (valOf V k).length).sum
theorem sumOf_all {V : Vals} {ts : List Nat} (hn : ts.Nodup) (hk : ∀ k ∈ ts, k ∈ keysOf V) (ha : ∀ k ∈ keysOf V, k ∈ ts) : sumOf V ts = lenV V := by
  have hp : ts.Perm (keysOf V) := (List.perm_ext_iff_of_nodup hn ((keysOf_lt V).imp fun h => Nat.ne_of_lt h)).2 fun k => ⟨hk k, ha k⟩
  unfold sumOf lenV
  exact (hp.map _).sum_nat
theorem sumOf_le {V : Vals} {ts : List Nat} {m : Nat} (hV : ∀ k l, V k = some l → l.length ≤ m) : sumOf V ts ≤ m * ts.length := by
  unfold sumOf
  induction ts with
  | nil => simp
  | cons k ts ih =>
    have h1 : (valOf V k).length ≤ m := by
      unfold valOf
      cases h : V k with
      | none => simp
      | some l => exact hV k l h
    simp only [List.map_cons, List.sum_cons, List.length_cons, Nat.mul_add]
    omega
theorem told_le {V : Vals} {ts : List Nat} (hn : ts.Nodup) (hk : ∀ k ∈ ts, k ∈ keysOf V) : ts.length ≤ 32 := by
  have h1 := nodup_le (l := ts) (m := List.range 32) hn (fun k h => List.mem_range.2 ((mem_keysOf V k).1 (hk k h)).1)
  simpa using h1
end Go.Proofs.YthjomnaejhehoaaGreatDoor

namespace Go.Proofs.YthjomnaejhehoaaGreatDoor
open Go.RowKit Go.MapKept Go.ChangeMaps
set_option linter.unusedVariables false
set_option linter.unusedSimpArgs false

/-- What PutAll leaves. -/
def PAPost (w : World) (B M Q F L : Nat) (P : Nat → Nat) (S : Fl) (n : Nat) (St Bk Vb : Nat) (l : List Nat) (c : Nat) (a : Int) (q : Nat) (V : Vals) (ks : List Int) (vss : List (List Nat)) (e : Ending) (w' : World) : Prop :=
  (¬ okKs ks vss.length → e = .returned (.int .i64 1) ∧ Below w.heap.size w w') ∧
  (okKs ks vss.length → ¬ FitV n (putV V ks vss ks.length) → e = .returned (.int .i64 3) ∧ Below w.heap.size w w') ∧
  (okKs ks vss.length → FitV n (putV V ks vss ks.length) → ∃ w1 Nb, Below w.heap.size w w1 ∧ w.heap.size ≤ Nb ∧ Nb ≠ Q ∧ PutPost w1 B M Q F L P S n St Bk Vb Nb l c a q V (putV V ks vss ks.length) e w')
theorem ToldIs.left_eq {P : Program} {k : TypeId} {w : World} {b r cnt : Nat} {f : Value → Option Value} {T : List Value} (h : ToldIs P k w b r f T cnt) : w.rangeLeft b r = cnt := by
  obtain ⟨es, clock, since, seen, c0, h1, hs, hk, hf, h2, hold, hcnt, _⟩ := h
  unfold World.rangeLeft
  rw [h1, h2]; exact hcnt
section
variable {w : World} {B M Q F L n : Nat} {P : Nat → Nat} {S : Fl} {bad : Nat → Bool} {md : Int}
set_option maxRecDepth 100000 in
set_option maxHeartbeats 8000000 in
theorem PutAll_any (h : MedIs w B M Q F L P S n bad md) {St Bk Vb : Nat} {l : List Nat} {c : Nat} {a : Int} {q : Nat} {V : Vals} (st : StIs w B St Bk Vb M l c a q V) (hVQ : Vb ≠ Q)
    (Ak : Option Addr) (ck : Nat) (ks : List Int) (hks : CellsI w Ak ks) (hk20 : ks.length ≤ 100000) (Av : Option Addr) (cv : Nat) (vss : List (List Nat)) (hvs : SvIs w Av vss) (hv20 : vss.length ≤ 100000) (h256 : ∀ x ∈ vss, (∀ u ∈ x, u < 256) ∧ x.length ≤ 1048576)
    (hV : OkV V) (hVm : ∀ k x, V k = some x → x.length ≤ 1048576) (ho : S.off = false) (hbad : ∀ k, bad k = true → (S.b k).failed = true) (hl : ∀ k ∈ l, k < S.nb) (hg : 2 ≤ (good bad l).length) (hq : q + 1 < 9223372036854775808) :
    Calls Tryz.prog 31 #[.pointer (some ⟨St, 0, none⟩), .slice Ak ks.length ck, .slice Av vss.length cv] w (PAPost w B M Q F L P S n St Bk Vb l c a q V ks vss) := by
  obtain ⟨es, clock, hes⟩ := st.vals.entries
  have c4 := st.cells.2.2.2.2
  have HCl := Lib.hid (Go.Proofs.AnyW.maps_Clone Tryz.cloneA Vb es clock w hes)
  obtain ⟨w1, hw1⟩ : ∃ w1, w1 = w.alloc (.map es clock) := ⟨_, rfl⟩
  obtain ⟨Nb, hNb⟩ : ∃ Nb, Nb = w.heap.size := ⟨_, rfl⟩
  obtain ⟨Sn, hSn⟩ : ∃ Sn, Sn = w1.heap.size := ⟨_, rfl⟩
  obtain ⟨w2, hw2⟩ : ∃ w2, w2 = w1.alloc (.map #[] 0) := ⟨_, rfl⟩
  have HB1 : Hid (Below w.heap.size w w1) := by unfold Hid; rw [hw1]; exact (Below.refl _ _).alloc (Nat.le_refl _) _
  have HB12 : Hid (Below w1.heap.size w1 w2) := by unfold Hid; rw [hw2]; exact (Below.refl _ _).alloc (Nat.le_refl _) _
  have HB2 : Hid (Below w.heap.size w w2) := HB1.out.trans (HB12.out.mono HB1.out.size)
  have HV2 : Hid (ValsIs w2 B Nb V) := by
    have := (st.vals.copy hes)
    rw [← hw1, ← hNb] at this
    exact this.below HB12.out
  have HS2 : Hid (BadIs w2 Sn 32 (fun _ => false)) := by unfold Hid; rw [hw2, hSn]; exact BadIs.fresh w1 32
  have HNS : Hid (w.heap.size = Nb ∧ Nb + 1 = Sn ∧ B ≤ Nb ∧ Q < Nb ∧ w2.heap.size = Sn + 1) := ⟨hNb.symm, by rw [hSn, hw1]; simp [hNb], by have := h.hM; have := h.row.lt; omega, by have := h.bad.lt; omega, by rw [hw2, hSn]; simp⟩
  have HW := Lib.hid (And.intro hw1 (And.intro hw2 (And.intro hNb hSn)))
  have HH := Lib.hid h
  have HSt := Lib.hid (And.intro st hVQ)
  have HKs := Lib.hid (And.intro hks hvs)
  have H256 := Lib.hid h256
  have HO := Lib.hid (And.intro ho (And.intro hbad (And.intro hl (And.intro hg hq))))
  have HVo := Lib.hid (And.intro hV hVm)
  obtain ⟨nk, hnk⟩ : ∃ nk, nk = ks.length := ⟨_, rfl⟩
  obtain ⟨nv, hnv⟩ : ∃ nv, nv = vss.length := ⟨_, rfl⟩
  have HN := Lib.hid (And.intro hnk hnv)
  have hmm := @run_makeMap Tryz.prog
  rw [← hnk] at hk20 ⊢
  rw [← hnv] at hv20 ⊢
  rw [← hw1, ← hNb] at HCl
  clear h st hVQ hks hvs h256 hV hVm ho hbad hl hg hq hes hw1 hNb hSn hw2 hnk hnv
  go_enter Tryz.func31, Tryz.ntmps31
  go_wp2_with fail
  refine HCl.out.mono ?_
  rintro e w1' ⟨rfl, rfl⟩
  clear HCl c4
  go_wp2
  rw [← HW.out.2.2.2, ← HW.out.2.1]
  clear hmm
  go_loopw [22] (fun i wr => ∃ (j : Nat), i = .int .i64 j ∧ j ≤ nk ∧ OkUp ks j ∧ (0 < j → nk = nv) ∧ ValsIs wr B Nb (putV V ks vss j) ∧ BadIs wr Sn 32 (seenF ks j) ∧ Turns w2 wr [Nb, Sn]) (fun i _ => nk - (intOf i).toNat)
  case atStart => exact ⟨0, rfl, by omega, OkUp.zero ks, fun h => by omega, HV2.out, HS2.out, Turns.refl _ _⟩
  case round =>
    obtain ⟨j, rfl, hj, hup, hnn, hv, hs, ht⟩ := hrel
    have HUp := Lib.hid (And.intro hup hnn)
    have HVr := Lib.hid hv
    have HSr := Lib.hid hs
    have HTr := Lib.hid ht
    have HBr : Hid (Below w.heap.size w wr) := ht.below HB2.out HB2.out.size (fun g hg => by
      have := HNS.out
      rcases List.mem_cons.1 hg with e | hg
      · omega
      · have := List.mem_singleton.1 hg; omega)
    clear hup hnn hv hs ht HV2 HS2
    by_cases hjn : j < nk
    · obtain ⟨kb, ko, hAk, hkc⟩ := HKs.out.1 j (by rw [← HN.out.1]; exact hjn)
      have ckj := keep_below HBr.out _ _ hkc
      obtain ⟨x, hx⟩ : ∃ x, x = ks.getD j 0 := ⟨_, rfl⟩
      have HX := Lib.hid hx
      rw [← hx] at ckj
      subst hAk
      clear hkc hx
      by_cases hnn : nk = nv
      · by_cases h0 : x < 0
        · have hno : Hid (¬ okKs ks vss.length) := fun hk => by
            have := hk.2.1 j (by rw [← HN.out.1]; exact hjn)
            rw [← HX.out] at this; omega
          subst hnn
          go_wp2
          go_ret
          exact ⟨fun _ => ⟨rfl, HBr.out⟩, fun h => absurd h hno.out, fun h => absurd h hno.out⟩
        · by_cases h32 : x < 32
          · obtain ⟨k, rfl⟩ : ∃ k : Nat, x = (k : Int) := ⟨x.toNat, by omega⟩
            have hk32 : k < 32 := by omega
            have hXk : (ks.getD j 0).toNat = k := by rw [← HX.out]; simp
            have hlook := HSr.out.look (by omega) hk32
            cases hsn : seenF ks j k with
            | true =>
              have hno : Hid (¬ okKs ks vss.length) := fun hk => by
                have := HUp.out.1.not_seen (hk.2.mono (show j + 1 ≤ ks.length by rw [← HN.out.1]; exact hjn))
                rw [hXk, hsn] at this
                cases this
              rw [hsn] at hlook
              subst hnn
              clear hsn hXk
              go_wp2
              go_ret
              exact ⟨fun _ => ⟨rfl, HBr.out⟩, fun h => absurd h hno.out, fun h => absurd h hno.out⟩
            | false =>
              have HUp2 : Hid (OkUp ks (j + 1)) := HUp.out.1.step (by rw [← HX.out]; omega) (by rw [← HX.out]; omega) (by rw [hXk]; exact hsn)
              rw [hsn] at hlook
              obtain ⟨w3, hr3, hs3, ht3⟩ := HSr.out.set (by omega) hk32
              have HS3 : Hid (BadIs w3 Sn 32 (seenF ks (j + 1))) := by unfold Hid seenF; rw [hXk]; exact hs3
              obtain ⟨vb, vo, Ai, ci, hAv, hvc, hv8⟩ := HKs.out.2 j (by rw [← HN.out.2, ← hnn]; exact hjn)
              obtain ⟨y, hy⟩ : ∃ y, y = vss.getD j [] := ⟨_, rfl⟩
              rw [← hy] at hvc hv8
              have hns : ∀ (b : Nat), b < w.heap.size → b ∉ [Sn] := fun b hb hm => by have := List.mem_singleton.1 hm; have := HNS.out; omega
              have ck3 := ht3.cell (keep_below HBr.out _ _ hvc) (hns _ (World.block_lt_of_cell? w _ hvc))
              have hy256 : (∀ u ∈ y, u < 256) ∧ y.length ≤ 1048576 := by
                refine H256.out y ?_
                have hjv : j < vss.length := by rw [← HN.out.2, ← hnn]; exact hjn
                rw [hy, List.getD_eq_getElem?_getD, List.getElem?_eq_getElem hjv]; exact List.getElem_mem hjv
              have HCy : Hid (Cells8 w3 Ai y) := fun t ht => by
                obtain ⟨b', off', e, hc⟩ := hv8 t ht
                exact ⟨b', off', e, ht3.cell (keep_below HBr.out _ _ hc) (hns _ (World.block_lt_of_cell? w _ hc))⟩
              have HVs : Hid (ValsIs w3 B Nb (putV V ks vss j)) := HVr.out.turns ht3 (by have := HNS.out; simp; omega) (fun g cs hr hm => by
                rw [List.mem_singleton.1 hm] at hr
                exact HSr.out.not_row _ _ hr)
              have HT3 : Hid (Turns w2 w3 [Nb, Sn]) := HTr.out.trans ht3 (fun g hg => .inl (List.mem_cons_of_mem _ hg))
              obtain ⟨ym, hym⟩ : ∃ ym, ym = y.length := ⟨_, rfl⟩
              have HYm := Lib.hid (And.intro hym hy)
              have HCln := Lib.hid (CloneB_any Ai y.length ci (intsV .u8 y) (by unfold reachBytes; omega) w3 (Src.bytes HCy.out) (intsV_one .u8 _))
              have hyl : ym ≤ 1048576 := by omega
              rw [← hym] at ck3 HCln
              have HNe := Lib.hid hnn
              have HWz : Hid (w.heap.size ≤ wr.heap.size) := HBr.out.size
              subst hnn hAv
              clear hs3 ht3 hvc hv8 hns hy256 hsn hym hy hXk
              have hXk : Hid ((ks.getD j 0).toNat = k) := by unfold Hid; rw [← HX.out]; simp
              go_wp2_with fail
              refine HCln.out.mono ?_
              rintro e w4 ⟨A', c', rfl, ho4, hb4⟩
              have hz3 := HT3.out.size
              have hnsz := HNS.out
              have hsl : SlIs w4 B (.slice A' ym c') y := by
                unfold SlIs
                rw [← HYm.out.1]
                exact own_mono ho4 (by omega)
              obtain ⟨w5, hr5, hv5, ht5⟩ := (HVs.out.below hb4).set hk32 hsl
              have HV5 : Hid (ValsIs w5 B Nb (putV V ks vss (j + 1))) := by unfold Hid putV; rw [hXk.out, ← HYm.out.2]; exact hv5
              have HS5 : Hid (BadIs w5 Sn 32 (seenF ks (j + 1))) := (HS3.out.turns (Turns.of_below hb4 []) (by simp)).turns ht5 (by simp; omega)
              have HT5 : Hid (Turns w2 w5 [Nb, Sn]) := (HT3.out.then_below hb4).trans ht5 (fun g hg => .inl (by rw [List.mem_singleton.1 hg]; exact List.mem_cons_self))
              clear HCln ho4 hb4 hz3 hnsz hsl hv5 ht5 hr3 hlook ck3
              go_wp2
              go_roundw
              case rel => exact ⟨j + 1, by go_num, by omega, HUp2.out, fun _ => HNe.out, HV5.out, HS5.out, HT5.out⟩
              case measure => simp [intOf]; omega
          · have hno : Hid (¬ okKs ks vss.length) := fun hk => by
              have := hk.2.1 j (by rw [← HN.out.1]; exact hjn)
              rw [← HX.out] at this; omega
            subst hnn
            go_wp2
            go_ret
            exact ⟨fun _ => ⟨rfl, HBr.out⟩, fun h => absurd h hno.out, fun h => absurd h hno.out⟩
      · have hno : Hid (¬ okKs ks vss.length) := fun hk => by
          have := hk.1
          have := HN.out; omega
        go_wp2
        go_ret
        exact ⟨fun _ => ⟨rfl, HBr.out⟩, fun h => absurd h hno.out, fun h => absurd h hno.out⟩
    · obtain rfl : j = nk := by omega
      by_cases hnn : j = nv
      · have HYes : Hid (okKs ks vss.length) := by
          have := HN.out
          refine ⟨by omega, ?_⟩
          rw [← HN.out.1]; exact HUp.out.1
        subst hnn
        clear hjn
        have hvm : ∀ k x, putV V ks vss j k = some x → x.length ≤ 1048576 := putV_size HVo.out.2 (fun x hx => (H256.out x hx).2) j
        have HV' : Hid (OkV (putV V ks vss j) ∧ ∀ k x, putV V ks vss j k = some x → x.length ≤ 1048576) := ⟨putV_ok HVo.out.1 (fun x hx => (H256.out x hx).1) j HUp.out.1, hvm⟩
        have HPost : Hid (∀ (V' : Vals) e w', V' = putV V ks vss j → ((¬ FitV n V' → e = .returned (.int .i64 3) ∧ Below w.heap.size w w') ∧ (FitV n V' → ∃ w1 Nb, Below w.heap.size w w1 ∧ w.heap.size ≤ Nb ∧ Nb ≠ Q ∧ PutPost w1 B M Q F L P S n St Bk Vb Nb l c a q V V' e w')) → PAPost w B M Q F L P S n St Bk Vb l c a q V ks vss e w') := fun V' e w' hV' ⟨h1, h2⟩ => by
          subst hV'
          rw [HN.out.1] at h1 h2
          exact ⟨fun h => absurd HYes.out h, fun _ => h1, fun _ => h2⟩
        obtain ⟨V', hV'⟩ : ∃ V', V' = putV V ks vss j := ⟨_, rfl⟩
        have HVe := Lib.hid hV'
        rw [← hV'] at HVr HV' HPost
        obtain ⟨f, hmap, hf, hf3⟩ := HVr.out
        obtain ⟨cn, hcn⟩ : ∃ cn, cn = (keysOf V').length := ⟨_, rfl⟩
        have HCn := Lib.hid hcn
        have hcn32 : cn ≤ 32 := by
          have := told_le (V := V') (ts := keysOf V') ((keysOf_lt V').imp fun h => Nat.ne_of_lt h) (fun k hk => hk)
          omega
        rw [← hcn] at hmap
        have HMap := Lib.hid hmap
        have HF := Lib.hid (And.intro hf hf3)
        clear hvm hV' hmap hf hf3 hcn
        obtain ⟨W0, hW0⟩ : ∃ W0, W0 = wr := ⟨_, rfl⟩
        subst hW0
        go_wp2_with (at_range; refine wpList_range_told rfl _ 101 rfl 3 22 mb_under Nb cn f rfl HMap.out ?_; intro w7 hit7 hb7)
        have HIt7 := Lib.hid hit7
        have HB7 := Lib.hid hb7
        obtain ⟨r, hr⟩ : ∃ r, r = W0.heap.size := ⟨_, rfl⟩
        have HR := Lib.hid hr
        rw [← hr] at HIt7 ⊢
        clear hr hit7 hb7 HMap
        go_loopw [11] (fun v W => ∃ (ts : List Nat) (cnt : Nat), v = .int .i64 ((sumOf V' ts : Nat) : Int) ∧ ToldIs Tryz.prog 3 W Nb r f (ts.map fun (k : Nat) => Value.int .i64 (k : Int)) cnt ∧ ts.Nodup ∧ (∀ k ∈ ts, k ∈ keysOf V') ∧ Below W0.heap.size W0 W) (fun _ W => W.rangeLeft Nb r)
        case atStart => exact ⟨[], _, rfl, HIt7.out, List.nodup_nil, by simp, HB7.out⟩
        case round =>
          obtain ⟨ts, cnt, rfl, hit, hnd, hin, hb⟩ := hrel
          have HIt := Lib.hid hit
          have HTs := Lib.hid (And.intro hnd hin)
          have HB := Lib.hid hb
          have hsum : sumOf V' ts ≤ 33554432 := by
            have h1 := sumOf_le (ts := ts) HV'.out.2
            have h2 := told_le hnd hin
            have h3 : 1048576 * ts.length ≤ 1048576 * 32 := Nat.mul_le_mul_left _ h2
            omega
          obtain ⟨s, hs⟩ : ∃ s, s = sumOf V' ts := ⟨_, rfl⟩
          have HSu := Lib.hid hs
          rw [← hs] at hsum ⊢
          clear HIt7 HB7 hit hnd hin hb hs
          go_wp2_with (at_next; refine wpList_next_told rfl _ rfl 3 Nb r f _ cnt rfl HIt.out ?_ ?_)
          · intro h0 hall
            have HSumm : Hid (s = lenV V') := by
              rw [HSu.out]
              refine sumOf_all HTs.out.1 HTs.out.2 fun k hk => ?_
              obtain ⟨h32, hsm⟩ := (mem_keysOf V' k).1 hk
              obtain ⟨x, hx⟩ := Option.isSome_iff_exists.1 hsm
              obtain ⟨_, v, hv⟩ := HF.out.2 k x hx
              have h5 := hall _ v hv
              obtain ⟨i, hi, e⟩ := h5
              rw [← nk_inj e]; exact hi
            have HBw : Hid (Below w.heap.size w wr) := HBr.out.trans (HB.out.mono HBr.out.size)
            have HMd := Lib.hid (HH.out.below HBw.out)
            have HSw := Lib.hid (HSt.out.1.below HBw.out)
            have HVw := Lib.hid (HVr.out.below HB.out)
            have HBy := Lib.hid (MBytes_any HMd.out)
            have hn6 : n ≤ 512 := by have := HH.out.bytes; have := HH.out.fl.ok.chunks; omega
            obtain ⟨p0, -, -, -, -⟩ := HSw.out.cells
            have hlen := fun ty => HVw.out.len ty
            rw [← HCn.out] at hlen
            have k0 := HMd.out.cells.1
            have HOf := FlOff HMd.out.fl
            rw [HO.out.1] at HOf
            have HOff := Lib.hid HOf
            have hno := nil_off F
            have hmo := met_off F
            have HBl := Lib.hid (Blocks_any HMd.out HSw.out (by have := HO.out.2.2.2.1; have := good_le bad l; omega) HO.out.2.2.1)
            clear h0 hall HIt HOf
            go_wp2_with fail
            refine HBy.out.mono ?_
            rintro e wr' ⟨rfl, rfl⟩
            clear HBy
            by_cases hfit : s + 16 + 4 * cn ≤ n
            · have HFit : Hid (FitV n V') := by unfold Hid FitV; rw [← HSumm.out, ← HCn.out]; exact hfit
              have hw1 : IntKind.i64.wrap ((n : Int) - 16) = (n : Int) - 16 := by rw [IntKind.wrap_i64]; omega
              have hw2 : IntKind.i64.wrap (4 * (cn : Int)) = 4 * (cn : Int) := by rw [IntKind.wrap_i64]; omega
              have hw3 : IntKind.i64.wrap ((n : Int) - 16 - 4 * (cn : Int)) = (n : Int) - 16 - 4 * (cn : Int) := by rw [IntKind.wrap_i64]; omega
              have hgt : ¬ ((n : Int) - 16 - 4 * (cn : Int) < s) := by omega
              go_wp2_with fail
              refine HOff.out.mono ?_
              rintro e wr' ⟨rfl, rfl⟩
              clear HOff
              go_wp2_with fail
              refine HBl.out.mono ?_
              rintro e w9 ⟨g9, r9, c9, rfl, hr9, -, hb9⟩
              have hr9' : 2 ≤ r9 := by rw [hr9]; exact HO.out.2.2.2.1
              have HB9 : Hid (Below w.heap.size w w9) := HBw.out.trans (hb9.mono HBw.out.size)
              have HPut := Lib.hid (sput_any (HMd.out.below hb9) (HSw.out.below hb9) HSt.out.2 Nb V' (HVw.out.below hb9) HNS.out.2.2.1 (by have := HNS.out; omega) HV'.out.1 HFit.out HO.out.1 HO.out.2.1 HO.out.2.2.1 (by have := HO.out.2.2.2.1; have := good_le bad l; omega) HO.out.2.2.2.2)
              clear HBl hr9 hb9
              go_wp2_with fail
              refine HPut.out.mono ?_
              rintro e w10 hp
              have hx : ∃ v, e = .returned v := by
                obtain ⟨_, _, _, _, ⟨_, _, _, rfl, _⟩ | ⟨_, _, _, _, rfl, _⟩ | ⟨rfl, _⟩⟩ := hp <;> exact ⟨_, rfl⟩
              obtain ⟨v, rfl⟩ := hx
              have HP := Lib.hid hp
              clear HPut hp
              go_wp2
              go_ret
              exact HPost.out V' _ _ rfl ⟨fun h => absurd HFit.out h, fun _ => ⟨w9, Nb, HB9.out, by have := HNS.out; omega, by have := HNS.out; omega, HP.out⟩⟩
            · have HFit : Hid (¬ FitV n V') := by unfold Hid FitV; rw [← HSumm.out, ← HCn.out]; exact hfit
              have hw1 : IntKind.i64.wrap ((n : Int) - 16) = (n : Int) - 16 := by rw [IntKind.wrap_i64]; omega
              have hw2 : IntKind.i64.wrap (4 * (cn : Int)) = 4 * (cn : Int) := by rw [IntKind.wrap_i64]; omega
              have hw3 : IntKind.i64.wrap ((n : Int) - 16 - 4 * (cn : Int)) = (n : Int) - 16 - 4 * (cn : Int) := by rw [IntKind.wrap_i64]; omega
              have hgt : (n : Int) - 16 - 4 * (cn : Int) < s := by omega
              go_wp2
              go_ret
              exact HPost.out V' _ _ rfl ⟨fun _ => ⟨rfl, HBw.out⟩, fun h => absurd h HFit.out⟩
          · intro key v w8 cnt8 hfk hnk hit8 hlt8 hg8 hen
            obtain ⟨k, x, hk32, hVk, rfl, hsl⟩ := HF.out.1 key v hfk
            have hln : x.length ≤ 1048576 := HV'.out.2 k x hVk
            obtain ⟨A', c', rfl, _, _⟩ := own_shape hsl
            have HTs2 : Hid ((k :: ts).Nodup ∧ (∀ i ∈ k :: ts, i ∈ keysOf V') ∧ sumOf V' (k :: ts) = x.length + s) := by
              refine ⟨List.nodup_cons.2 ⟨fun hm => hnk k hm rfl, HTs.out.1⟩, fun i hi => ?_, ?_⟩
              · rcases List.mem_cons.1 hi with e | hi
                · rw [e]; exact (mem_keysOf V' k).2 ⟨hk32, by rw [hVk]; rfl⟩
                · exact HTs.out.2 i hi
              · rw [HSu.out]
                unfold sumOf valOf
                rw [List.map_cons, List.sum_cons, hVk]
                rfl
            have HB8 : Hid (Below W0.heap.size W0 w8) := HB.out.grown hg8 HB.out.size (fun g hg => by
              have : r = g := by injection hg
              have := HR.out
              omega)
            have HIt8 := Lib.hid hit8
            have hle : w8.rangeLeft Nb r = cnt8 := hit8.left_eq
            have hlt : wr.rangeLeft Nb r = cnt := HIt.out.left_eq
            have HM : Hid (w8.rangeLeft Nb r < wr.rangeLeft Nb r) := by unfold Hid; omega
            obtain ⟨ln, hl⟩ : ∃ ln, ln = x.length := ⟨_, rfl⟩
            rw [← hl] at HTs2 hln
            have hwr : IntKind.i64.wrap ((s : Int) + (ln : Int)) = ((ln + s : Nat) : Int) := by rw [IntKind.wrap_i64]; omega
            rw [← hl] at hen
            clear hfk hnk hit8 hlt8 hg8 hle hlt hVk hsl hl
            go_wp2
            go_roundw
            case rel => exact ⟨k :: ts, cnt8, by rw [HTs2.out.2.2]; exact congrArg (Value.int .i64) (by first | exact hwr | (go_num)), HIt8.out, HTs2.out.1, HTs2.out.2.1, HB8.out⟩
            case measure => exact HM.out
      · have hno : Hid (¬ okKs ks vss.length) := fun hk => by
          have := hk.1
          have := HN.out; omega
        go_wp2
        go_ret
        exact ⟨fun _ => ⟨rfl, HBr.out⟩, fun h => absurd h hno.out, fun h => absurd h hno.out⟩
end
end Go.Proofs.YthjomnaejhehoaaGreatDoor
