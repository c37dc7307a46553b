/- What follows is laid together from several texts of mine, in their order. -/
import Derived.Test.YtclhhdodebdmjaaGreatQ2
import Derived.Maps.Own
import Derived.DeepKeys4

namespace Go.Proofs.YtclhhdodebdmjaaGreat
open Go.RowKit Go.MapKept Go.ChangeMaps
open Go.Maps (Keyed)
set_option linter.unusedVariables false
set_option linter.unusedSimpArgs false

/-- f, but v at key. -/
noncomputable def updK {α : Type} (f : Value → Option α) (key : Value) (v : Option α) : Value → Option α := fun x => open Classical in if x = key then v else f x
theorem updK_same {α : Type} (f : Value → Option α) (key : Value) (v : Option α) : updK f key v key = v := by simp [updK]
theorem updK_ne {α : Type} (f : Value → Option α) (key : Value) (v : Option α) {x : Value} (h : x ≠ key) : updK f key v x = f x := by simp [updK, h]

/-- Block b of w is a map of n entries; f tells what stands at a key. -/
def MapIs (P : Program) (k : TypeId) (w : World) (b n : Nat) (f : Value → Option Value) : Prop :=
  ∃ es clock, w.heap[b]? = some (.map es clock) ∧ Stamped es clock ∧ es.size = n ∧ (∀ x ∈ es.toList, ∃ l, keyOf P k x.key = some l) ∧ ∀ key v, f key = some v ↔ ∃ x ∈ es.toList, x.key = key ∧ x.val = v
section
variable {P : Program} {k : TypeId} {w : World} {b n : Nat} {f : Value → Option Value}
theorem MapIs.lt (h : MapIs P k w b n f) : b < w.heap.size := by
  obtain ⟨es, clock, hb, _⟩ := h
  exact (Array.getElem?_eq_some_iff.1 hb).1
theorem MapIs.block {w' : World} (h : MapIs P k w b n f) (hb : w'.heap[b]? = w.heap[b]?) : MapIs P k w' b n f := by
  obtain ⟨es, clock, h1, h2⟩ := h
  exact ⟨es, clock, hb.trans h1, h2⟩
theorem MapIs.turns {w' : World} {S : List Nat} (h : MapIs P k w b n f) (ht : Turns w w' S) (hb : b ∉ S) : MapIs P k w' b n f := h.block (ht.block b h.lt hb)
theorem MapIs.fresh (P : Program) (k : TypeId) (w : World) : MapIs P k (w.alloc (.map #[] 0)) w.heap.size 0 (fun _ => none) :=
  ⟨#[], 0, heap_alloc_new w _, stamped_empty 0, rfl, by simp, by simp⟩
/-- The entry at a key, or none. -/
theorem MapIs.find (K : Keyed P k) {es : Array MapEntry} (hk : ∀ x ∈ es.toList, ∃ l, keyOf P k x.key = some l) (hf : ∀ key v, f key = some v ↔ ∃ x ∈ es.toList, x.key = key ∧ x.val = v) {key : Value} {kl : Lit} (hkey : keyOf P k key = some kl) (w : World) :
    (f key = none ∧ (Instr.findKey k key es.toList).run P w = .ok none w ∧ ∀ x ∈ es.toList, x.key ≠ key) ∨
    ∃ j e, f key = some e.val ∧ (Instr.findKey k key es.toList).run P w = .ok (some (j, e.val)) w ∧ es.toList[j]? = some e ∧ e.key = key := by
  rcases K.find w hkey es.toList hk with ⟨h1, h2⟩ | ⟨j, e, h1, h2, h3⟩
  · refine .inl ⟨?_, h1, h2⟩
    cases hc : f key with
    | none => rfl
    | some v =>
      obtain ⟨x, hx, e, _⟩ := (hf key v).1 hc
      exact absurd e (h2 x hx)
  · exact .inr ⟨j, e, (hf key e.val).2 ⟨e, List.mem_of_getElem? h2, h3, rfl⟩, h1, h2, h3⟩

theorem MapIs.look {t e : TypeId} (h : MapIs P k w b n f) (K : Keyed P k) (ht : P.underlying t = some (.map k e)) {z : Value} (hz : (zeroValue e).run P w = .ok z w) {key : Value} {kl : Lit} (hkey : keyOf P k key = some kl) :
    (Instr.lookup t (.map (some b)) key false).run P w = .ok ((f key).getD z) w ∧
    (Instr.lookup t (.map (some b)) key true).run P w = .ok (.tuple #[(f key).getD z, .bool (f key).isSome]) w := by
  obtain ⟨es, clock, hb, hs, hn, hk, hf⟩ := h
  rcases MapIs.find K hk hf hkey w with ⟨h0, h1, h2⟩ | ⟨j, e0, h0, h1, h2, h3⟩
  · rw [h0]
    constructor <;> simp [Instr.lookup, run_underlying ht, MapKept.run_getObj_map hb, K.check w _ hkey, h1, hz, Result.andThen]
  · rw [h0]
    constructor <;> simp [Instr.lookup, run_underlying ht, MapKept.run_getObj_map hb, K.check w _ hkey, h1, Result.andThen]

theorem grown_setBlock {w : World} {b : Nat} {es : Array MapEntry} {clock : Nat} (hb : w.heap[b]? = some (.map es clock)) (o : Obj) : w.grownBy (setBlock w b o) (some b) :=
  ⟨rfl, rfl, rfl, by simp [setBlock], fun i _ hi => heap_setBlock_other hb _ (fun e => hi (by rw [e]))⟩
theorem mem_set_other {es : Array MapEntry} {clock : Nat} (hs : Stamped es clock) {j : Nat} {e0 e1 : MapEntry} (h2 : es.toList[j]? = some e0) (x : MapEntry) : x ∈ es.toList.set j e1 ↔ x = e1 ∨ (x ∈ es.toList ∧ x.key ≠ e0.key) := by
  have hn : es.toList.Pairwise (fun x y => x.key ≠ y.key) := ((stamped_iff es clock).1 hs).2.2
  obtain ⟨hj, ej⟩ := List.getElem?_eq_some_iff.1 h2
  constructor
  · intro hx
    obtain ⟨i, hi, ex⟩ := List.getElem_of_mem hx
    rw [List.getElem_set] at ex
    split at ex
    · exact .inl ex.symm
    · rename_i hne
      have hi' : i < es.toList.length := by simpa using hi
      refine .inr ⟨ex ▸ List.getElem_mem hi', ?_⟩
      rw [← ex, ← ej]
      rcases Nat.lt_or_gt_of_ne hne with h | h
      · exact (List.pairwise_iff_getElem.1 hn j i hj hi' h).symm
      · exact List.pairwise_iff_getElem.1 hn i j hi' hj h
  · rintro (rfl | ⟨hx, hne⟩)
    · exact List.mem_iff_getElem.2 ⟨j, by simpa using hj, by simp⟩
    · obtain ⟨i, hi, ex⟩ := List.getElem_of_mem hx
      have hij : i ≠ j := by rintro rfl; rw [ej] at ex; exact hne (by rw [ex])
      exact List.mem_iff_getElem.2 ⟨i, by simpa using hi, by rw [List.getElem_set_ne (Ne.symm hij)]; exact ex⟩

/-- What stands behind a put at a key: the same in each way that Go writes it. -/
theorem MapIs.put_entries (K : Keyed P k) {es : Array MapEntry} {clock : Nat} (hs : Stamped es clock) (hk : ∀ x ∈ es.toList, ∃ l, keyOf P k x.key = some l) (hf : ∀ key v, f key = some v ↔ ∃ x ∈ es.toList, x.key = key ∧ x.val = v)
    {key val : Value} {kl : Lit} (hkey : keyOf P k key = some kl) {j : Nat} {e0 : MapEntry} (h2 : es.toList[j]? = some e0) (h3 : e0.key = key) :
    Stamped (es.modify j fun e => { e with key := key, val := val }) clock ∧ (∀ x ∈ (es.modify j fun e => { e with key := key, val := val }).toList, ∃ l, keyOf P k x.key = some l) ∧
    ∀ key' v, updK f key (some val) key' = some v ↔ ∃ x ∈ (es.modify j fun e => { e with key := key, val := val }).toList, x.key = key' ∧ x.val = v := by
  have hj : es[j]? = some e0 := by simpa using h2
  have hkeyf : ∀ e', es[j]? = some e' → ({ e' with key := key, val := val } : MapEntry).key = e'.key := fun e' he' => by rw [hj] at he'; cases he'; exact h3.symm
  have hlist : (es.modify j (fun e' => { e' with key := key, val := val })).toList = es.toList.set j { e0 with key := key, val := val } := by rw [Array.toList_modify, modify_eq_set _ _ _ _ h2]
  refine ⟨stamped_modify hs _ _ (fun _ _ => rfl) (fun e' _ he' => hkeyf e' he'), ?_, ?_⟩
  · intro x hx
    rw [hlist, mem_set_other hs h2] at hx
    rcases hx with rfl | ⟨hx, _⟩
    · exact ⟨kl, hkey⟩
    · exact hk x hx
  · intro key' v
    rw [hlist]
    by_cases he : key' = key
    · subst he
      rw [updK_same]
      constructor
      · rintro h; injection h with h; subst h
        exact ⟨{ e0 with key := key', val := val }, (mem_set_other hs h2 _).2 (.inl rfl), rfl, rfl⟩
      · rintro ⟨x, hx, e1, e2⟩
        rcases (mem_set_other hs h2 _).1 hx with rfl | ⟨_, hne⟩
        · rw [← e2]
        · rw [h3] at hne; exact absurd e1 hne
    · rw [updK_ne _ _ _ he, hf]
      constructor
      · rintro ⟨x, hx, e1, e2⟩
        exact ⟨x, (mem_set_other hs h2 _).2 (.inr ⟨hx, by rw [h3, e1]; exact he⟩), e1, e2⟩
      · rintro ⟨x, hx, e1, e2⟩
        rcases (mem_set_other hs h2 _).1 hx with rfl | ⟨hx, _⟩
        · exact absurd e1.symm he
        · exact ⟨x, hx, e1, e2⟩
theorem MapIs.push_entries (K : Keyed P k) {es : Array MapEntry} {clock : Nat} (hs : Stamped es clock) (hk : ∀ x ∈ es.toList, ∃ l, keyOf P k x.key = some l) (hf : ∀ key v, f key = some v ↔ ∃ x ∈ es.toList, x.key = key ∧ x.val = v)
    {key val : Value} {kl : Lit} (hkey : keyOf P k key = some kl) (h2 : ∀ x ∈ es.toList, x.key ≠ key) :
    Stamped (es.push { key, val, born := clock }) (clock + 1) ∧ (∀ x ∈ (es.push { key, val, born := clock }).toList, ∃ l, keyOf P k x.key = some l) ∧
    ∀ key' v, updK f key (some val) key' = some v ↔ ∃ x ∈ (es.push { key, val, born := clock }).toList, x.key = key' ∧ x.val = v := by
  refine ⟨stamped_push hs h2, ?_, ?_⟩
  · intro x hx
    simp only [Array.toList_push, List.mem_append, List.mem_singleton] at hx
    rcases hx with hx | rfl
    · exact hk x hx
    · exact ⟨kl, hkey⟩
  · intro key' v
    simp only [Array.toList_push, List.mem_append, List.mem_singleton]
    by_cases he : key' = key
    · subst he
      rw [updK_same]
      constructor
      · rintro h; injection h with h; subst h
        exact ⟨_, .inr rfl, rfl, rfl⟩
      · rintro ⟨x, hx | rfl, e1, e2⟩
        · exact absurd e1 (h2 x hx)
        · rw [← e2]
    · rw [updK_ne _ _ _ he, hf]
      constructor
      · rintro ⟨x, hx, e1, e2⟩
        exact ⟨x, .inl hx, e1, e2⟩
      · rintro ⟨x, hx | rfl, e1, e2⟩
        · exact ⟨x, hx, e1, e2⟩
        · exact absurd e1.symm he

theorem MapIs.update {t e : TypeId} (h : MapIs P k w b n f) (K : Keyed P k) (ht : P.underlying t = some (.map k e)) {key val : Value} {kl : Lit} (hkey : keyOf P k key = some kl) :
    ∃ w', (Instr.mapUpdate t (.map (some b)) key val).run P w = .ok () w' ∧ MapIs P k w' b (if (f key).isSome then n else n + 1) (updK f key (some val)) ∧ w.grownBy w' (some b) := by
  obtain ⟨es, clock, hb, hs, hn, hk, hf⟩ := h
  rcases MapIs.find K hk hf hkey w with ⟨h0, h1, h2⟩ | ⟨j, e0, h0, h1, h2, h3⟩
  · refine ⟨setBlock w b (.map (es.push { key, val, born := clock }) (clock + 1)), ?_, ?_, grown_setBlock hb _⟩
    · simp [Instr.mapUpdate, run_underlying ht, MapKept.run_getObj_map hb, K.check w false hkey, h1, MapKept.run_setObj_map _ hb, Result.andThen, setBlock]
    · obtain ⟨p1, p2, p3⟩ := MapIs.push_entries (val := val) K hs hk hf hkey h2
      exact ⟨_, _, heap_setBlock_same hb _, p1, by rw [h0]; simp [hn], p2, p3⟩
  · have hj : es[j]? = some e0 := by simpa using h2
    refine ⟨setBlock w b (.map (es.modify j (fun e' => { e' with key := key, val := val })) clock), ?_, ?_, grown_setBlock hb _⟩
    · simp [Instr.mapUpdate, run_underlying ht, MapKept.run_getObj_map hb, K.check w false hkey, h1, hj, h3, K.stays w hkey, MapKept.run_setObj_map _ hb, Result.andThen, setBlock]
    · obtain ⟨p1, p2, p3⟩ := MapIs.put_entries (val := val) K hs hk hf hkey h2 h3
      exact ⟨_, _, heap_setBlock_same hb _, p1, by rw [h0]; simp [hn], p2, p3⟩

theorem find_born {es : Array MapEntry} {clock : Nat} (hs : Stamped es clock) {j : Nat} {e0 : MapEntry} (hj : es[j]? = some e0) : es.findIdx? (fun e => (e.born : Int) == (e0.born : Int)) = some j := by
  obtain ⟨hlt, ej⟩ := Array.getElem?_eq_some_iff.1 hj
  rw [Array.findIdx?_eq_some_iff_getElem]
  refine ⟨hlt, by rw [ej]; simp, fun i hi => ?_⟩
  have hnd := ((stamped_iff es clock).1 hs).2.1
  have hne : es[i].born ≠ es[j].born := by
    have hp := List.pairwise_iff_getElem.1 hnd i j (by simp; omega) (by simpa using hlt) hi
    simpa using hp
  rw [ej] at hne
  simp; omega
theorem run_entryStore {w1 : World} {es : Array MapEntry} {clock : Nat} (hb1 : w1.heap[b]? = some (.map es clock)) (hs : Stamped es clock) {j : Nat} {e0 : MapEntry} (hj : es[j]? = some e0) (t : TypeId) (val : Value) :
    (Instr.entryStore t (.map (some b)) (.int .i64 (e0.born : Nat)) val).run P w1 = .ok () (setBlock w1 b (.map (es.modify j fun e => { e with val := val }) clock)) := by
  simp [Instr.entryStore, MapKept.run_getObj_map hb1, Result.andThen, asInt, asIntOf, find_born hs hj, MapKept.run_setObj_map _ hb1, setBlock]
theorem modify_key {es : Array MapEntry} {j : Nat} {e0 : MapEntry} (hj : es.toList[j]? = some e0) {key : Value} (h3 : e0.key = key) (val : Value) : (es.modify j fun e => { e with val := val }) = es.modify j fun e => { e with key := key, val := val } := by
  apply Array.toList_inj.1
  rw [Array.toList_modify, Array.toList_modify, modify_eq_set _ _ _ _ hj, modify_eq_set _ _ _ _ hj, h3]
theorem modify_same {es : Array MapEntry} {j : Nat} {e0 : MapEntry} (hj : es.toList[j]? = some e0) {key : Value} (h3 : e0.key = key) : (es.modify j fun e => { e with key := key }) = es := by
  apply Array.toList_inj.1
  rw [Array.toList_modify, modify_eq_set _ _ _ _ hj, ← h3]
  obtain ⟨hl, e⟩ := List.getElem?_eq_some_iff.1 hj
  show es.toList.set j e0 = es.toList
  rw [← e]
  exact List.set_getElem_self hl
theorem updK_twice {α : Type} (f : Value → Option α) (key : Value) (u v : Option α) : updK (updK f key u) key v = updK f key v := by
  funext x
  by_cases h : x = key
  · subst h; rw [updK_same, updK_same]
  · rw [updK_ne _ _ _ h, updK_ne _ _ _ h, updK_ne _ _ _ h]
theorem grown_twice {a b' c : World} {r : Option Nat} (h : a.grownBy b' r) (h' : b'.grownBy c r) : a.grownBy c r :=
  ⟨h'.os.trans h.os, h'.tape.trans h.tape, h'.output.trans h.output, Nat.le_trans h.size h'.size, fun i hi hne => (h'.block i (Nat.lt_of_lt_of_le hi h.size) hne).trans (h.block i hi hne)⟩
/-- 'm[k] op= v': the entry first, then what it holds. -/
theorem MapIs.entry {t e : TypeId} (h : MapIs P k w b n f) (K : Keyed P k) (ht : P.underlying t = some (.map k e)) {z : Value} (hz : (zeroValue e).run P w = .ok z w) {key : Value} {kl : Lit} (hkey : keyOf P k key = some kl) :
    ∃ (st : Nat) (w1 : World), (Instr.mapEntry t (.map (some b)) key).run P w = .ok (.tuple #[(f key).getD z, .int .i64 st]) w1 ∧ w.grownBy w1 (some b) ∧ MapIs P k w1 b (if (f key).isSome then n else n + 1) (if (f key).isSome then f else updK f key (some z)) ∧
      ∀ val, ∃ w2, (Instr.entryStore t (.map (some b)) (.int .i64 st) val).run P w1 = .ok () w2 ∧ MapIs P k w2 b (if (f key).isSome then n else n + 1) (updK f key (some val)) ∧ w.grownBy w2 (some b) := by
  obtain ⟨es, clock, hb, hs, hn, hk, hf⟩ := h
  rcases MapIs.find K hk hf hkey w with ⟨h0, h1, h2⟩ | ⟨j, e0, h0, h1, h2, h3⟩
  · have hb1 := heap_setBlock_same hb (.map (es.push { key, val := z, born := clock }) (clock + 1))
    obtain ⟨p1, p2, p3⟩ := MapIs.push_entries (val := z) K hs hk hf hkey h2
    have hpj : (es.push { key, val := z, born := clock })[es.size]? = some { key, val := z, born := clock } := by simp
    have hpl : (es.push { key, val := z, born := clock }).toList[es.size]? = some { key, val := z, born := clock } := by rw [Array.getElem?_toList]; exact hpj
    refine ⟨clock, setBlock w b (.map (es.push { key, val := z, born := clock }) (clock + 1)), ?_, grown_setBlock hb _, ⟨_, _, hb1, p1, by rw [h0]; simp [hn], p2, by rw [h0]; simpa using p3⟩, fun val => ?_⟩
    · simp [Instr.mapEntry, run_underlying ht, MapKept.run_getObj_map hb, K.check w false hkey, h1, hz, MapKept.run_setObj_map _ hb, Result.andThen, setBlock, h0, goInt]
    · have hr := run_entryStore (P := P) hb1 p1 hpj t val
      rw [modify_key hpl rfl] at hr
      obtain ⟨q1, q2, q3⟩ := MapIs.put_entries (val := val) K p1 p2 p3 hkey hpl rfl
      refine ⟨_, hr, ⟨_, _, heap_setBlock_same hb1 _, q1, by rw [h0]; simp [hn], q2, ?_⟩, grown_twice (grown_setBlock hb _) (grown_setBlock hb1 _)⟩
      rw [updK_twice] at q3
      exact q3
  · have hj : es[j]? = some e0 := by simpa using h2
    have hb1 := heap_setBlock_same hb (.map es clock)
    refine ⟨e0.born, setBlock w b (.map es clock), ?_, grown_setBlock hb _, ⟨_, _, hb1, hs, by rw [h0]; simp [hn], hk, by rw [h0]; simpa using hf⟩, fun val => ?_⟩
    · have hm := modify_same h2 h3
      simp [Instr.mapEntry, run_underlying ht, MapKept.run_getObj_map hb, K.check w false hkey, h1, hj, h3, K.stays w hkey, MapKept.run_setObj_map _ hb, Result.andThen, setBlock, h0, goInt, hm]
    · have hr := run_entryStore (P := P) hb1 hs hj t val
      rw [modify_key h2 h3] at hr
      obtain ⟨q1, q2, q3⟩ := MapIs.put_entries (val := val) K hs hk hf hkey h2 h3
      exact ⟨_, hr, ⟨_, _, heap_setBlock_same hb1 _, q1, by rw [h0]; simp [hn], q2, q3⟩, grown_twice (grown_setBlock hb _) (grown_setBlock hb1 _)⟩

theorem MapIs.delete {t e ty : TypeId} (h : MapIs P k w b n f) (K : Keyed P k) (ht : P.underlying t = some (.map k e)) {key : Value} {kl : Lit} (hkey : keyOf P k key = some kl) :
    ∃ w', (Builtin.delete_ #[t, k] ty #[.map (some b), key]).run P w = .ok (.tuple #[]) w' ∧ MapIs P k w' b (if (f key).isSome then n - 1 else n) (updK f key none) ∧ w.grownBy w' (some b) := by
  obtain ⟨es, clock, hb, hs, hn, hk, hf⟩ := h
  rcases MapIs.find K hk hf hkey w with ⟨h0, h1, h2⟩ | ⟨j, e0, h0, h1, h2, h3⟩
  · refine ⟨setBlock w b (.map es clock), ?_, ⟨es, clock, heap_setBlock_same hb _, hs, by rw [h0]; simp [hn], hk, fun key' v => ?_⟩, grown_setBlock hb _⟩
    · simp [Builtin.delete_, run_underlying ht, MapKept.run_getObj_map hb, K.check w _ hkey, h1, MapKept.run_setObj_map _ hb, Result.andThen, setBlock]
    · by_cases he : key' = key
      · subst he
        rw [updK_same]
        constructor
        · intro h; cases h
        · rintro ⟨x, hx, e1, _⟩; exact absurd e1 (h2 x hx)
      · rw [updK_ne _ _ _ he]; exact hf key' v
  · have hjl : j < es.toList.length := (List.getElem?_eq_some_iff.1 h2).1
    have hjs : j < es.size := by simpa using hjl
    have hsub : (es.eraseIdxIfInBounds j).toList = es.toList.eraseIdx j := by
      unfold Array.eraseIdxIfInBounds
      rw [dif_pos hjs]
      simp
    have hmem : ∀ x, x ∈ es.toList.eraseIdx j ↔ x ∈ es.toList ∧ x.key ≠ key := by
      intro x
      have hn' : es.toList.Pairwise (fun x y => x.key ≠ y.key) := ((stamped_iff es clock).1 hs).2.2
      obtain ⟨_, ej⟩ := List.getElem?_eq_some_iff.1 h2
      constructor
      · intro hx
        obtain ⟨i, hne, hi⟩ := List.mem_eraseIdx_iff_getElem?.1 hx
        obtain ⟨hi', ei⟩ := List.getElem?_eq_some_iff.1 hi
        refine ⟨List.mem_of_getElem? hi, ?_⟩
        rw [← h3, ← ei, ← ej]
        rcases Nat.lt_or_gt_of_ne hne with h | h
        · exact List.pairwise_iff_getElem.1 hn' i j hi' hjl h
        · exact (List.pairwise_iff_getElem.1 hn' j i hjl hi' h).symm
      · rintro ⟨hx, hne⟩
        obtain ⟨i, hi⟩ := List.mem_iff_getElem?.1 hx
        refine List.mem_eraseIdx_iff_getElem?.2 ⟨i, ?_, hi⟩
        rintro rfl
        rw [h2] at hi; injection hi with hi
        exact hne (by rw [← hi]; exact h3)
    refine ⟨setBlock w b (.map (es.eraseIdxIfInBounds j) clock), ?_, ⟨_, clock, heap_setBlock_same hb _, stamped_erase hs j, ?_, ?_, fun key' v => ?_⟩, grown_setBlock hb _⟩
    · simp [Builtin.delete_, run_underlying ht, MapKept.run_getObj_map hb, K.check w _ hkey, h1, MapKept.run_setObj_map _ hb, Result.andThen, setBlock]
    · rw [h0]
      have h9 : (es.eraseIdxIfInBounds j).toList.length = es.toList.length - 1 := by rw [hsub, List.length_eraseIdx, if_pos hjl]
      rw [Array.length_toList, Array.length_toList, hn] at h9
      simpa using h9
    · intro x hx
      rw [hsub, hmem] at hx
      exact hk x hx.1
    · rw [hsub]
      by_cases he : key' = key
      · subst he
        rw [updK_same]
        constructor
        · intro h; cases h
        · rintro ⟨x, hx, e1, _⟩; exact absurd e1 ((hmem x).1 hx).2
      · rw [updK_ne _ _ _ he, hf]
        constructor
        · rintro ⟨x, hx, e1, e2⟩
          exact ⟨x, (hmem x).2 ⟨hx, by rw [e1]; exact he⟩, e1, e2⟩
        · rintro ⟨x, hx, e1, e2⟩
          exact ⟨x, ((hmem x).1 hx).1, e1, e2⟩
end
end Go.Proofs.YtclhhdodebdmjaaGreat
