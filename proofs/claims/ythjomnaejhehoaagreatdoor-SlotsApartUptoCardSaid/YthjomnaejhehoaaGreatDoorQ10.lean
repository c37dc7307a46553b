/- What follows is laid together from several texts of mine, in their order. -/
import Derived.Test.YthjomnaejhehoaaGreatDoorQ3
import Derived.Maps.Own
import Derived.DeepKeys4
import Derived.Test.YthjomnaejhehoaaGreatDoorQ9
import Derived.Test.YthjomnaejhehoaaGreatDoorQ6
import Derived.Test.YthjomnaejhehoaaGreatDoorQ8

namespace Go.Proofs.YthjomnaejhehoaaGreatDoor
open Go.RowKit Go.MapKept Go.ChangeMaps
open Go.Maps (Keyed)
set_option linter.unusedVariables false
set_option linter.unusedSimpArgs false

/-- f, but v at key. -/
noncomputable def updK {α : Type} (f : Value → Option α) (key : Value) (v : Option α) : Value → Option α := fun x => open Classical in if x = key then v else f x
theorem updK_same {α : Type} (f : Value → Option α) (key : Value) (v : Option α) : updK f key v key = v := by simp [updK]
theorem updK_ne {α : Type} (f : Value → Option α) (key : Value) (v : Option α) {x : Value} (h : x ≠ key) : updK f key v x = f x := by simp [updK, h]

/-- Block b of w is a map of n entries; f tells what stands at a key. -/
def MapIs (P : Program) (k : TypeId) (w : World) (b n : Nat) (f : Value → Option Value) : Prop :=
  ∃ es clock, w.heap[b]? = some (.map es clock) ∧ Stamped es clock ∧ es.size = n ∧ (∀ x ∈ es.toList, ∃ l, keyOf P k x.key = some l) ∧ ∀ key v, f key = some v ↔ ∃ x ∈ es.toList, x.key = key ∧ x.val = v
section
variable {P : Program} {k : TypeId} {w : World} {b n : Nat} {f : Value → Option Value}
theorem MapIs.lt (h : MapIs P k w b n f) : b < w.heap.size := by
  obtain ⟨es, clock, hb, _⟩ := h
  exact (Array.getElem?_eq_some_iff.1 hb).1
theorem MapIs.block {w' : World} (h : MapIs P k w b n f) (hb : w'.heap[b]? = w.heap[b]?) : MapIs P k w' b n f := by
  obtain ⟨es, clock, h1, h2⟩ := h
  exact ⟨es, clock, hb.trans h1, h2⟩
theorem MapIs.turns {w' : World} {S : List Nat} (h : MapIs P k w b n f) (ht : Turns w w' S) (hb : b ∉ S) : MapIs P k w' b n f := h.block (ht.block b h.lt hb)
theorem MapIs.fresh (P : Program) (k : TypeId) (w : World) : MapIs P k (w.alloc (.map #[] 0)) w.heap.size 0 (fun _ => none) :=
  ⟨#[], 0, heap_alloc_new w _, stamped_empty 0, rfl, by simp, by simp⟩
theorem MapIs.none_of {key : Value} (h : f key = none) {es : Array MapEntry} (hf : ∀ key v, f key = some v ↔ ∃ x ∈ es.toList, x.key = key ∧ x.val = v) : ∀ x ∈ es.toList, x.key ≠ key := fun x hx e => by
  have := (hf key x.val).2 ⟨x, hx, e, rfl⟩
  rw [h] at this; cases this

/-- The entry at a key, or none. -/
theorem MapIs.find (K : Keyed P k) {es : Array MapEntry} (hk : ∀ x ∈ es.toList, ∃ l, keyOf P k x.key = some l) (hf : ∀ key v, f key = some v ↔ ∃ x ∈ es.toList, x.key = key ∧ x.val = v) {key : Value} {kl : Lit} (hkey : keyOf P k key = some kl) (w : World) :
    (f key = none ∧ (Instr.findKey k key es.toList).run P w = .ok none w ∧ ∀ x ∈ es.toList, x.key ≠ key) ∨
    ∃ j e, f key = some e.val ∧ (Instr.findKey k key es.toList).run P w = .ok (some (j, e.val)) w ∧ es.toList[j]? = some e ∧ e.key = key := by
  rcases K.find w hkey es.toList hk with ⟨h1, h2⟩ | ⟨j, e, h1, h2, h3⟩
  · refine .inl ⟨?_, h1, h2⟩
    cases hc : f key with
    | none => rfl
    | some v =>
      obtain ⟨x, hx, e, _⟩ := (hf key v).1 hc
      exact absurd e (h2 x hx)
  · exact .inr ⟨j, e, (hf key e.val).2 ⟨e, List.mem_of_getElem? h2, h3, rfl⟩, h1, h2, h3⟩

theorem MapIs.look {t e : TypeId} (h : MapIs P k w b n f) (K : Keyed P k) (ht : P.underlying t = some (.map k e)) {z : Value} (hz : (zeroValue e).run P w = .ok z w) {key : Value} {kl : Lit} (hkey : keyOf P k key = some kl) :
    (Instr.lookup t (.map (some b)) key false).run P w = .ok ((f key).getD z) w ∧
    (Instr.lookup t (.map (some b)) key true).run P w = .ok (.tuple #[(f key).getD z, .bool (f key).isSome]) w := by
  obtain ⟨es, clock, hb, hs, hn, hk, hf⟩ := h
  rcases MapIs.find K hk hf hkey w with ⟨h0, h1, h2⟩ | ⟨j, e0, h0, h1, h2, h3⟩
  · rw [h0]
    constructor <;> simp [Instr.lookup, run_underlying ht, MapKept.run_getObj_map hb, K.check w _ hkey, h1, hz, Result.andThen]
  · rw [h0]
    constructor <;> simp [Instr.lookup, run_underlying ht, MapKept.run_getObj_map hb, K.check w _ hkey, h1, Result.andThen]

theorem grown_setBlock {w : World} {b : Nat} {es : Array MapEntry} {clock : Nat} (hb : w.heap[b]? = some (.map es clock)) (o : Obj) : w.grownBy (setBlock w b o) (some b) :=
  ⟨rfl, rfl, rfl, by simp [setBlock], fun i _ hi => heap_setBlock_other hb _ (fun e => hi (by rw [e]))⟩
theorem mem_set_other {es : Array MapEntry} {clock : Nat} (hs : Stamped es clock) {j : Nat} {e0 e1 : MapEntry} (h2 : es.toList[j]? = some e0) (x : MapEntry) : x ∈ es.toList.set j e1 ↔ x = e1 ∨ (x ∈ es.toList ∧ x.key ≠ e0.key) := by
  have hn : es.toList.Pairwise (fun x y => x.key ≠ y.key) := ((stamped_iff es clock).1 hs).2.2
  obtain ⟨hj, ej⟩ := List.getElem?_eq_some_iff.1 h2
  constructor
  · intro hx
    obtain ⟨i, hi, ex⟩ := List.getElem_of_mem hx
    rw [List.getElem_set] at ex
    split at ex
    · exact .inl ex.symm
    · rename_i hne
      have hi' : i < es.toList.length := by simpa using hi
      refine .inr ⟨ex ▸ List.getElem_mem hi', ?_⟩
      rw [← ex, ← ej]
      rcases Nat.lt_or_gt_of_ne hne with h | h
      · exact (List.pairwise_iff_getElem.1 hn j i hj hi' h).symm
      · exact List.pairwise_iff_getElem.1 hn i j hi' hj h
  · rintro (rfl | ⟨hx, hne⟩)
    · exact List.mem_iff_getElem.2 ⟨j, by simpa using hj, by simp⟩
    · obtain ⟨i, hi, ex⟩ := List.getElem_of_mem hx
      have hij : i ≠ j := by rintro rfl; rw [ej] at ex; exact hne (by rw [ex])
      exact List.mem_iff_getElem.2 ⟨i, by simpa using hi, by rw [List.getElem_set_ne (Ne.symm hij)]; exact ex⟩

/-- What stands behind a put at a key: the same in each way that Go writes it. -/
theorem MapIs.put_entries (K : Keyed P k) {es : Array MapEntry} {clock : Nat} (hs : Stamped es clock) (hk : ∀ x ∈ es.toList, ∃ l, keyOf P k x.key = some l) (hf : ∀ key v, f key = some v ↔ ∃ x ∈ es.toList, x.key = key ∧ x.val = v)
    {key val : Value} {kl : Lit} (hkey : keyOf P k key = some kl) {j : Nat} {e0 : MapEntry} (h2 : es.toList[j]? = some e0) (h3 : e0.key = key) :
    Stamped (es.modify j fun e => { e with key := key, val := val }) clock ∧ (∀ x ∈ (es.modify j fun e => { e with key := key, val := val }).toList, ∃ l, keyOf P k x.key = some l) ∧
    ∀ key' v, updK f key (some val) key' = some v ↔ ∃ x ∈ (es.modify j fun e => { e with key := key, val := val }).toList, x.key = key' ∧ x.val = v := by
  have hj : es[j]? = some e0 := by simpa using h2
  have hkeyf : ∀ e', es[j]? = some e' → ({ e' with key := key, val := val } : MapEntry).key = e'.key := fun e' he' => by rw [hj] at he'; cases he'; exact h3.symm
  have hlist : (es.modify j (fun e' => { e' with key := key, val := val })).toList = es.toList.set j { e0 with key := key, val := val } := by rw [Array.toList_modify, modify_eq_set _ _ _ _ h2]
  refine ⟨stamped_modify hs _ _ (fun _ _ => rfl) (fun e' _ he' => hkeyf e' he'), ?_, ?_⟩
  · intro x hx
    rw [hlist, mem_set_other hs h2] at hx
    rcases hx with rfl | ⟨hx, _⟩
    · exact ⟨kl, hkey⟩
    · exact hk x hx
  · intro key' v
    rw [hlist]
    by_cases he : key' = key
    · subst he
      rw [updK_same]
      constructor
      · rintro h; injection h with h; subst h
        exact ⟨{ e0 with key := key', val := val }, (mem_set_other hs h2 _).2 (.inl rfl), rfl, rfl⟩
      · rintro ⟨x, hx, e1, e2⟩
        rcases (mem_set_other hs h2 _).1 hx with rfl | ⟨_, hne⟩
        · rw [← e2]
        · rw [h3] at hne; exact absurd e1 hne
    · rw [updK_ne _ _ _ he, hf]
      constructor
      · rintro ⟨x, hx, e1, e2⟩
        exact ⟨x, (mem_set_other hs h2 _).2 (.inr ⟨hx, by rw [h3, e1]; exact he⟩), e1, e2⟩
      · rintro ⟨x, hx, e1, e2⟩
        rcases (mem_set_other hs h2 _).1 hx with rfl | ⟨hx, _⟩
        · exact absurd e1.symm he
        · exact ⟨x, hx, e1, e2⟩
theorem MapIs.push_entries (K : Keyed P k) {es : Array MapEntry} {clock : Nat} (hs : Stamped es clock) (hk : ∀ x ∈ es.toList, ∃ l, keyOf P k x.key = some l) (hf : ∀ key v, f key = some v ↔ ∃ x ∈ es.toList, x.key = key ∧ x.val = v)
    {key val : Value} {kl : Lit} (hkey : keyOf P k key = some kl) (h2 : ∀ x ∈ es.toList, x.key ≠ key) :
    Stamped (es.push { key, val, born := clock }) (clock + 1) ∧ (∀ x ∈ (es.push { key, val, born := clock }).toList, ∃ l, keyOf P k x.key = some l) ∧
    ∀ key' v, updK f key (some val) key' = some v ↔ ∃ x ∈ (es.push { key, val, born := clock }).toList, x.key = key' ∧ x.val = v := by
  refine ⟨stamped_push hs h2, ?_, ?_⟩
  · intro x hx
    simp only [Array.toList_push, List.mem_append, List.mem_singleton] at hx
    rcases hx with hx | rfl
    · exact hk x hx
    · exact ⟨kl, hkey⟩
  · intro key' v
    simp only [Array.toList_push, List.mem_append, List.mem_singleton]
    by_cases he : key' = key
    · subst he
      rw [updK_same]
      constructor
      · rintro h; injection h with h; subst h
        exact ⟨_, .inr rfl, rfl, rfl⟩
      · rintro ⟨x, hx | rfl, e1, e2⟩
        · exact absurd e1 (h2 x hx)
        · rw [← e2]
    · rw [updK_ne _ _ _ he, hf]
      constructor
      · rintro ⟨x, hx, e1, e2⟩
        exact ⟨x, .inl hx, e1, e2⟩
      · rintro ⟨x, hx | rfl, e1, e2⟩
        · exact ⟨x, hx, e1, e2⟩
        · exact absurd e1.symm he

theorem MapIs.update {t e : TypeId} (h : MapIs P k w b n f) (K : Keyed P k) (ht : P.underlying t = some (.map k e)) {key val : Value} {kl : Lit} (hkey : keyOf P k key = some kl) :
    ∃ w', (Instr.mapUpdate t (.map (some b)) key val).run P w = .ok () w' ∧ MapIs P k w' b (if (f key).isSome then n else n + 1) (updK f key (some val)) ∧ w.grownBy w' (some b) := by
  obtain ⟨es, clock, hb, hs, hn, hk, hf⟩ := h
  rcases MapIs.find K hk hf hkey w with ⟨h0, h1, h2⟩ | ⟨j, e0, h0, h1, h2, h3⟩
  · refine ⟨setBlock w b (.map (es.push { key, val, born := clock }) (clock + 1)), ?_, ?_, grown_setBlock hb _⟩
    · simp [Instr.mapUpdate, run_underlying ht, MapKept.run_getObj_map hb, K.check w false hkey, h1, MapKept.run_setObj_map _ hb, Result.andThen, setBlock]
    · obtain ⟨p1, p2, p3⟩ := MapIs.push_entries (val := val) K hs hk hf hkey h2
      exact ⟨_, _, heap_setBlock_same hb _, p1, by rw [h0]; simp [hn], p2, p3⟩
  · have hj : es[j]? = some e0 := by simpa using h2
    refine ⟨setBlock w b (.map (es.modify j (fun e' => { e' with key := key, val := val })) clock), ?_, ?_, grown_setBlock hb _⟩
    · simp [Instr.mapUpdate, run_underlying ht, MapKept.run_getObj_map hb, K.check w false hkey, h1, hj, h3, K.stays w hkey, MapKept.run_setObj_map _ hb, Result.andThen, setBlock]
    · obtain ⟨p1, p2, p3⟩ := MapIs.put_entries (val := val) K hs hk hf hkey h2 h3
      exact ⟨_, _, heap_setBlock_same hb _, p1, by rw [h0]; simp [hn], p2, p3⟩

theorem find_born {es : Array MapEntry} {clock : Nat} (hs : Stamped es clock) {j : Nat} {e0 : MapEntry} (hj : es[j]? = some e0) : es.findIdx? (fun e => (e.born : Int) == (e0.born : Int)) = some j := by
  obtain ⟨hlt, ej⟩ := Array.getElem?_eq_some_iff.1 hj
  rw [Array.findIdx?_eq_some_iff_getElem]
  refine ⟨hlt, by rw [ej]; simp, fun i hi => ?_⟩
  have hnd := ((stamped_iff es clock).1 hs).2.1
  have hne : es[i].born ≠ es[j].born := by
    have hp := List.pairwise_iff_getElem.1 hnd i j (by simp; omega) (by simpa using hlt) hi
    simpa using hp
  rw [ej] at hne
  simp; omega
theorem run_entryStore {w1 : World} {es : Array MapEntry} {clock : Nat} (hb1 : w1.heap[b]? = some (.map es clock)) (hs : Stamped es clock) {j : Nat} {e0 : MapEntry} (hj : es[j]? = some e0) (t : TypeId) (val : Value) :
    (Instr.entryStore t (.map (some b)) (.int .i64 (e0.born : Nat)) val).run P w1 = .ok () (setBlock w1 b (.map (es.modify j fun e => { e with val := val }) clock)) := by
  simp [Instr.entryStore, MapKept.run_getObj_map hb1, Result.andThen, asInt, asIntOf, find_born hs hj, MapKept.run_setObj_map _ hb1, setBlock]
theorem modify_key {es : Array MapEntry} {j : Nat} {e0 : MapEntry} (hj : es.toList[j]? = some e0) {key : Value} (h3 : e0.key = key) (val : Value) : (es.modify j fun e => { e with val := val }) = es.modify j fun e => { e with key := key, val := val } := by
  apply Array.toList_inj.1
  rw [Array.toList_modify, Array.toList_modify, modify_eq_set _ _ _ _ hj, modify_eq_set _ _ _ _ hj, h3]
theorem modify_same {es : Array MapEntry} {j : Nat} {e0 : MapEntry} (hj : es.toList[j]? = some e0) {key : Value} (h3 : e0.key = key) : (es.modify j fun e => { e with key := key }) = es := by
  apply Array.toList_inj.1
  rw [Array.toList_modify, modify_eq_set _ _ _ _ hj, ← h3]
  obtain ⟨hl, e⟩ := List.getElem?_eq_some_iff.1 hj
  show es.toList.set j e0 = es.toList
  rw [← e]
  exact List.set_getElem_self hl
theorem updK_twice {α : Type} (f : Value → Option α) (key : Value) (u v : Option α) : updK (updK f key u) key v = updK f key v := by
  funext x
  by_cases h : x = key
  · subst h; rw [updK_same, updK_same]
  · rw [updK_ne _ _ _ h, updK_ne _ _ _ h, updK_ne _ _ _ h]
theorem grown_twice {a b' c : World} {r : Option Nat} (h : a.grownBy b' r) (h' : b'.grownBy c r) : a.grownBy c r :=
  ⟨h'.os.trans h.os, h'.tape.trans h.tape, h'.output.trans h.output, Nat.le_trans h.size h'.size, fun i hi hne => (h'.block i (Nat.lt_of_lt_of_le hi h.size) hne).trans (h.block i hi hne)⟩
/-- 'm[k] op= v': the entry first, then what it holds. -/
theorem MapIs.entry {t e : TypeId} (h : MapIs P k w b n f) (K : Keyed P k) (ht : P.underlying t = some (.map k e)) {z : Value} (hz : (zeroValue e).run P w = .ok z w) {key : Value} {kl : Lit} (hkey : keyOf P k key = some kl) :
    ∃ (st : Nat) (w1 : World), (Instr.mapEntry t (.map (some b)) key).run P w = .ok (.tuple #[(f key).getD z, .int .i64 st]) w1 ∧ w.grownBy w1 (some b) ∧ MapIs P k w1 b (if (f key).isSome then n else n + 1) (if (f key).isSome then f else updK f key (some z)) ∧
      ∀ val, ∃ w2, (Instr.entryStore t (.map (some b)) (.int .i64 st) val).run P w1 = .ok () w2 ∧ MapIs P k w2 b (if (f key).isSome then n else n + 1) (updK f key (some val)) ∧ w.grownBy w2 (some b) := by
  obtain ⟨es, clock, hb, hs, hn, hk, hf⟩ := h
  rcases MapIs.find K hk hf hkey w with ⟨h0, h1, h2⟩ | ⟨j, e0, h0, h1, h2, h3⟩
  · have hb1 := heap_setBlock_same hb (.map (es.push { key, val := z, born := clock }) (clock + 1))
    obtain ⟨p1, p2, p3⟩ := MapIs.push_entries (val := z) K hs hk hf hkey h2
    have hpj : (es.push { key, val := z, born := clock })[es.size]? = some { key, val := z, born := clock } := by simp
    have hpl : (es.push { key, val := z, born := clock }).toList[es.size]? = some { key, val := z, born := clock } := by rw [Array.getElem?_toList]; exact hpj
    refine ⟨clock, setBlock w b (.map (es.push { key, val := z, born := clock }) (clock + 1)), ?_, grown_setBlock hb _, ⟨_, _, hb1, p1, by rw [h0]; simp [hn], p2, by rw [h0]; simpa using p3⟩, fun val => ?_⟩
    · simp [Instr.mapEntry, run_underlying ht, MapKept.run_getObj_map hb, K.check w false hkey, h1, hz, MapKept.run_setObj_map _ hb, Result.andThen, setBlock, h0, goInt]
    · have hr := run_entryStore (P := P) hb1 p1 hpj t val
      rw [modify_key hpl rfl] at hr
      obtain ⟨q1, q2, q3⟩ := MapIs.put_entries (val := val) K p1 p2 p3 hkey hpl rfl
      refine ⟨_, hr, ⟨_, _, heap_setBlock_same hb1 _, q1, by rw [h0]; simp [hn], q2, ?_⟩, grown_twice (grown_setBlock hb _) (grown_setBlock hb1 _)⟩
      rw [updK_twice] at q3
      exact q3
  · have hj : es[j]? = some e0 := by simpa using h2
    have hb1 := heap_setBlock_same hb (.map es clock)
    refine ⟨e0.born, setBlock w b (.map es clock), ?_, grown_setBlock hb _, ⟨_, _, hb1, hs, by rw [h0]; simp [hn], hk, by rw [h0]; simpa using hf⟩, fun val => ?_⟩
    · have hm := modify_same h2 h3
      simp [Instr.mapEntry, run_underlying ht, MapKept.run_getObj_map hb, K.check w false hkey, h1, hj, h3, K.stays w hkey, MapKept.run_setObj_map _ hb, Result.andThen, setBlock, h0, goInt, hm]
    · have hr := run_entryStore (P := P) hb1 hs hj t val
      rw [modify_key h2 h3] at hr
      obtain ⟨q1, q2, q3⟩ := MapIs.put_entries (val := val) K hs hk hf hkey h2 h3
      exact ⟨_, hr, ⟨_, _, heap_setBlock_same hb1 _, q1, by rw [h0]; simp [hn], q2, q3⟩, grown_twice (grown_setBlock hb _) (grown_setBlock hb1 _)⟩

theorem MapIs.delete {t e ty : TypeId} (h : MapIs P k w b n f) (K : Keyed P k) (ht : P.underlying t = some (.map k e)) {key : Value} {kl : Lit} (hkey : keyOf P k key = some kl) :
    ∃ w', (Builtin.delete_ #[t, k] ty #[.map (some b), key]).run P w = .ok (.tuple #[]) w' ∧ MapIs P k w' b (if (f key).isSome then n - 1 else n) (updK f key none) ∧ w.grownBy w' (some b) := by
  obtain ⟨es, clock, hb, hs, hn, hk, hf⟩ := h
  rcases MapIs.find K hk hf hkey w with ⟨h0, h1, h2⟩ | ⟨j, e0, h0, h1, h2, h3⟩
  · refine ⟨setBlock w b (.map es clock), ?_, ⟨es, clock, heap_setBlock_same hb _, hs, by rw [h0]; simp [hn], hk, fun key' v => ?_⟩, grown_setBlock hb _⟩
    · simp [Builtin.delete_, run_underlying ht, MapKept.run_getObj_map hb, K.check w _ hkey, h1, MapKept.run_setObj_map _ hb, Result.andThen, setBlock]
    · by_cases he : key' = key
      · subst he
        rw [updK_same]
        constructor
        · intro h; cases h
        · rintro ⟨x, hx, e1, _⟩; exact absurd e1 (h2 x hx)
      · rw [updK_ne _ _ _ he]; exact hf key' v
  · have hjl : j < es.toList.length := (List.getElem?_eq_some_iff.1 h2).1
    have hjs : j < es.size := by simpa using hjl
    have hsub : (es.eraseIdxIfInBounds j).toList = es.toList.eraseIdx j := by
      unfold Array.eraseIdxIfInBounds
      rw [dif_pos hjs]
      simp
    have hmem : ∀ x, x ∈ es.toList.eraseIdx j ↔ x ∈ es.toList ∧ x.key ≠ key := by
      intro x
      have hn' : es.toList.Pairwise (fun x y => x.key ≠ y.key) := ((stamped_iff es clock).1 hs).2.2
      obtain ⟨_, ej⟩ := List.getElem?_eq_some_iff.1 h2
      constructor
      · intro hx
        obtain ⟨i, hne, hi⟩ := List.mem_eraseIdx_iff_getElem?.1 hx
        obtain ⟨hi', ei⟩ := List.getElem?_eq_some_iff.1 hi
        refine ⟨List.mem_of_getElem? hi, ?_⟩
        rw [← h3, ← ei, ← ej]
        rcases Nat.lt_or_gt_of_ne hne with h | h
        · exact List.pairwise_iff_getElem.1 hn' i j hi' hjl h
        · exact (List.pairwise_iff_getElem.1 hn' j i hjl hi' h).symm
      · rintro ⟨hx, hne⟩
        obtain ⟨i, hi⟩ := List.mem_iff_getElem?.1 hx
        refine List.mem_eraseIdx_iff_getElem?.2 ⟨i, ?_, hi⟩
        rintro rfl
        rw [h2] at hi; injection hi with hi
        exact hne (by rw [← hi]; exact h3)
    refine ⟨setBlock w b (.map (es.eraseIdxIfInBounds j) clock), ?_, ⟨_, clock, heap_setBlock_same hb _, stamped_erase hs j, ?_, ?_, fun key' v => ?_⟩, grown_setBlock hb _⟩
    · simp [Builtin.delete_, run_underlying ht, MapKept.run_getObj_map hb, K.check w _ hkey, h1, MapKept.run_setObj_map _ hb, Result.andThen, setBlock]
    · rw [h0]
      have h9 : (es.eraseIdxIfInBounds j).toList.length = es.toList.length - 1 := by rw [hsub, List.length_eraseIdx, if_pos hjl]
      rw [Array.length_toList, Array.length_toList, hn] at h9
      simpa using h9
    · intro x hx
      rw [hsub, hmem] at hx
      exact hk x hx.1
    · rw [hsub]
      by_cases he : key' = key
      · subst he
        rw [updK_same]
        constructor
        · intro h; cases h
        · rintro ⟨x, hx, e1, _⟩; exact absurd e1 ((hmem x).1 hx).2
      · rw [updK_ne _ _ _ he, hf]
        constructor
        · rintro ⟨x, hx, e1, e2⟩
          exact ⟨x, (hmem x).2 ⟨hx, by rw [e1]; exact he⟩, e1, e2⟩
        · rintro ⟨x, hx, e1, e2⟩
          exact ⟨x, ((hmem x).1 hx).1, e1, e2⟩
theorem MapIs.clear {t e ty : TypeId} (h : MapIs P k w b n f) (ht : P.underlying t = some (.map k e)) :
    ∃ w', (Builtin.clear_ #[t] ty #[.map (some b)]).run P w = .ok (.tuple #[]) w' ∧ MapIs P k w' b 0 (fun _ => none) ∧ w.grownBy w' (some b) := by
  obtain ⟨es, clock, hb, hs, hn, hk, hf⟩ := h
  refine ⟨setBlock w b (.map #[] clock), ?_, ⟨#[], clock, heap_setBlock_same hb _, stamped_empty _, rfl, by simp, by simp⟩, grown_setBlock hb _⟩
  simp [Builtin.clear_, run_underlying ht, MapKept.run_getObj_map hb, MapKept.run_setObj_map _ hb, Result.andThen, setBlock]
theorem MapIs.len {t e ty : TypeId} (h : MapIs P k w b n f) (ht : P.underlying t = some (.map k e)) : (Builtin.len_ #[t] ty #[.map (some b)]).run P w = .ok (goInt n) w := by
  obtain ⟨es, clock, hb, hs, hn, hk, hf⟩ := h
  subst hn
  simp [Builtin.len_, run_underlying ht, MapKept.run_getObj_map hb, Result.andThen, Builtin.lenOf]
end
end Go.Proofs.YthjomnaejhehoaaGreatDoor

namespace Go.Proofs.YthjomnaejhehoaaGreatDoor
open Go.RowKit Go.MapKept Go.ChangeMaps
open Go.Maps (Keyed)
set_option linter.unusedVariables false
set_option linter.unusedSimpArgs false

theorem intKeyed : Keyed Tryz.prog 3 := Go.Maps.int_keyed Tryz.underlying3
theorem bad_under : Tryz.prog.underlying 89 = some (.map 3 4) := Tryz.underlying89
theorem zero_bool (w : World) : (zeroValue 4).run Tryz.prog w = .ok (.bool false) w := by kernel_rfl
theorem int_key {k : Nat} (h : k < 1024) : keyOf Tryz.prog 3 (.int .i64 (k : Nat)) = some (.int .i64 (k : Nat)) := Go.Maps.keyOf_int_mk Tryz.underlying3 (WalkArith.wf_i64 (by omega))
/-- The blocks that are known to be bad, as a map. -/
def BadIs (w : World) (Q nb : Nat) (bad : Nat → Bool) : Prop :=
  ∃ n f, MapIs Tryz.prog 3 w Q n f ∧ ∀ key v, f key = some v ↔ ∃ k : Nat, k < nb ∧ bad k = true ∧ key = .int .i64 k ∧ v = .bool true
def setBad (bad : Nat → Bool) (k : Nat) : Nat → Bool := fun i => i == k || bad i
section
variable {w w' : World} {Q nb : Nat} {bad : Nat → Bool}
theorem BadIs.lt (h : BadIs w Q nb bad) : Q < w.heap.size := by obtain ⟨n, f, h, _⟩ := h; exact h.lt
theorem BadIs.turns {T : List Nat} (h : BadIs w Q nb bad) (ht : Turns w w' T) (hb : Q ∉ T) : BadIs w' Q nb bad := by obtain ⟨n, f, h, h2⟩ := h; exact ⟨n, f, h.turns ht hb, h2⟩
theorem BadIs.not_row (h : BadIs w Q nb bad) (t : TypeId) (cs : Array Value) : ¬ Row w Q t cs := by
  obtain ⟨n, f, ⟨es, clock, hb, _⟩, _⟩ := h
  intro hr
  unfold Row at hr
  rw [hr] at hb; cases hb
theorem BadIs.fresh (w : World) (nb : Nat) : BadIs (w.alloc (.map #[] 0)) w.heap.size nb (fun _ => false) := ⟨_, _, MapIs.fresh _ _ w, by simp⟩
theorem BadIs.look (h : BadIs w Q nb bad) (hn : nb ≤ 1024) {k : Nat} (hk : k < nb) : (Instr.lookup 89 (.map (some Q)) (.int .i64 k) false).run Tryz.prog w = .ok (.bool (bad k)) w := by
  obtain ⟨n, f, h, h2⟩ := h
  rw [(h.look intKeyed bad_under (zero_bool w) (int_key (by omega))).1]
  cases hb : bad k with
  | true => rw [(h2 (.int .i64 k) (.bool true)).2 ⟨k, hk, hb, rfl, rfl⟩]; rfl
  | false =>
    cases hf : f (.int .i64 k) with
    | none => rfl
    | some v =>
      obtain ⟨k', _, h3, h4, _⟩ := (h2 _ _).1 hf
      injection h4 with _ h4
      obtain rfl : k = k' := by omega
      rw [hb] at h3; cases h3
theorem BadIs.set (h : BadIs w Q nb bad) (hn : nb ≤ 1024) {k : Nat} (hk : k < nb) :
    ∃ w', (Instr.mapUpdate 89 (.map (some Q)) (.int .i64 k) (.bool true)).run Tryz.prog w = .ok () w' ∧ BadIs w' Q nb (setBad bad k) ∧ Turns w w' [Q] := by
  obtain ⟨n, f, h, h2⟩ := h
  obtain ⟨w', hr, hm, hg⟩ := h.update (val := .bool true) intKeyed bad_under (int_key (k := k) (by omega))
  refine ⟨w', hr, ⟨_, _, hm, fun key v => ?_⟩, Turns.of_grown hg⟩
  by_cases he : key = .int .i64 k
  · subst he
    rw [updK_same]
    constructor
    · rintro h; injection h with h; exact ⟨k, hk, by simp [setBad], rfl, h.symm⟩
    · rintro ⟨k', _, _, _, rfl⟩; rfl
  · rw [updK_ne _ _ _ he, h2]
    constructor
    · rintro ⟨k', h1, h3, h4, h5⟩
      exact ⟨k', h1, by simp [setBad, h3], h4, h5⟩
    · rintro ⟨k', h1, h3, rfl, h5⟩
      have : k' ≠ k := fun e => he (by rw [e])
      exact ⟨k', h1, by simpa [setBad, this] using h3, rfl, h5⟩
end
/-- A media: its own cells. -/
def mcells (F n Q : Nat) (md : Int) : Array Value := #[.iface 31 (.pointer (some ⟨F, 0, none⟩)), .pointer (some ⟨F, 0, none⟩), .int .i64 n, .map (some Q), .int .i64 md]
structure MedIs (w : World) (B M Q F L : Nat) (P : Nat → Nat) (S : Fl) (n : Nat) (bad : Nat → Bool) (md : Int) : Prop where
  hB : 1 ≤ B
  hM : B ≤ M
  hQ : B ≤ Q
  fl : FlIs w B F L P S
  row : Row w M 93 (mcells F n Q md)
  bad : BadIs w Q S.nb bad
  bytes : 1 ≤ n ∧ n ≤ 64 * S.chunks
  tab : Tab w
/-- The blocks of memory that a media may turn. -/
def medT (M Q F L : Nat) (P : Nat → Nat) (nb : Nat) : List Nat := M :: Q :: flS F L P nb
section
variable {w w' : World} {B M Q F L n : Nat} {P : Nat → Nat} {S S' : Fl} {bad : Nat → Bool} {md : Int}
theorem Tab.turns {T : List Nat} (h : Tab w) (ht : Turns w w' T) (h0 : 0 ∉ T) : Tab w' := fun j hj => ht.cell (h j hj) h0
theorem mem_flS {g : Nat} : g ∈ flS F L P S.nb ↔ g = F ∨ g = L ∨ ∃ i, i < S.nb ∧ g = P i := by simp [flS, eq_comm]
theorem mem_medT {g : Nat} : g ∈ medT M Q F L P S.nb ↔ g = M ∨ g = Q ∨ g = F ∨ g = L ∨ ∃ i, i < S.nb ∧ g = P i := by simp [medT, mem_flS]
theorem MedIs.at_least (h : MedIs w B M Q F L P S n bad md) : ∀ g ∈ medT M Q F L P S.nb, B ≤ g := fun g hg => by
  rcases mem_medT.1 hg with rfl | rfl | rfl | rfl | ⟨i, hi, rfl⟩
  · exact h.hM
  · exact h.hQ
  · exact h.fl.hF
  · exact h.fl.hL
  · exact h.fl.hP i hi
theorem MedIs.zero (h : MedIs w B M Q F L P S n bad md) : 0 ∉ medT M Q F L P S.nb := fun hm => by have := h.at_least 0 hm; have := h.hB; omega
theorem MedIs.m_flash (h : MedIs w B M Q F L P S n bad md) : M ∉ flS F L P S.nb := fun hm => by
  rcases mem_flS.1 hm with rfl | rfl | ⟨i, hi, rfl⟩
  · obtain ⟨_, hr⟩ := h.fl.rowF; exact Row.ne_type h.row hr (by decide) rfl
  · obtain ⟨_, hr⟩ := h.fl.rowL; exact Row.ne_type h.row hr (by decide) rfl
  · obtain ⟨_, hr⟩ := h.fl.rowP hi; exact Row.ne_type h.row hr (by decide) rfl
theorem MedIs.q_flash (h : MedIs w B M Q F L P S n bad md) : Q ∉ flS F L P S.nb := fun hm => by
  rcases mem_flS.1 hm with rfl | rfl | ⟨i, hi, rfl⟩
  · obtain ⟨_, hr⟩ := h.fl.rowF; exact h.bad.not_row _ _ hr
  · obtain ⟨_, hr⟩ := h.fl.rowL; exact h.bad.not_row _ _ hr
  · obtain ⟨_, hr⟩ := h.fl.rowP hi; exact h.bad.not_row _ _ hr
theorem MedIs.m_q (h : MedIs w B M Q F L P S n bad md) : M ≠ Q := fun e => h.bad.not_row _ _ (e ▸ h.row)
/-- No row of bytes is one of its blocks. -/
theorem MedIs.no_bytes (h : MedIs w B M Q F L P S n bad md) {g : Nat} {cs : Array Value} (hr : Row w g 5 cs) : g ∉ medT M Q F L P S.nb := fun hm => by
  rcases mem_medT.1 hm with rfl | rfl | rfl | rfl | ⟨i, hi, rfl⟩
  · exact Row.ne_type hr h.row (by decide) rfl
  · exact h.bad.not_row _ _ hr
  · obtain ⟨_, hr'⟩ := h.fl.rowF; exact Row.ne_type hr hr' (by decide) rfl
  · obtain ⟨_, hr'⟩ := h.fl.rowL; exact Row.ne_type hr hr' (by decide) rfl
  · obtain ⟨_, hr'⟩ := h.fl.rowP hi; exact Row.ne_type hr hr' (by decide) rfl
/-- The flash alone has turned. -/
theorem MedIs.flash {T : List Nat} (h : MedIs w B M Q F L P S n bad md) (hf : FlIs w' B F L P S') (ht : Turns w w' T) (hT : ∀ g ∈ T, g ∈ flS F L P S.nb) (hn : S'.nb = S.nb) (hc : S'.chunks = S.chunks) : MedIs w' B M Q F L P S' n bad md :=
  ⟨h.hB, h.hM, h.hQ, hf, ht.row h.row (fun hm => h.m_flash (hT _ hm)), by rw [hn]; exact h.bad.turns ht (fun hm => h.q_flash (hT _ hm)), by rw [hc]; exact h.bytes,
    h.tab.turns ht (fun hm => h.zero (by unfold medT; simp [hT _ hm]))⟩
theorem MedIs.keep (h : MedIs w B M Q F L P S n bad md) (ht : Turns w w' []) : MedIs w' B M Q F L P S n bad md := h.flash (h.fl.keep ht) ht (by simp) rfl rfl
theorem MedIs.drewN (h : MedIs w B M Q F L P S n bad md) (m : Nat) : MedIs (w.drewN m) B M Q F L P S n bad md := h.keep ((Turns.refl w []).drewN m)
theorem FlIs.turns {T : List Nat} (h : FlIs w B F L P S) (ht : Turns w w' T) (hT : ∀ g ∈ T, g ∉ flS F L P S.nb) (hb : ∀ g cs, Row w g 5 cs → g ∉ T) : FlIs w' B F L P S := by
  refine ⟨h.hF, h.hL, h.hP, ?_, ?_, ?_, h.inj, h.ok⟩
  · obtain ⟨s, r, e, hr⟩ := h.row
    exact ⟨s, r, e, ht.row hr (fun hm => hT _ hm (by simp [flS]))⟩
  · obtain ⟨cur, hr, h2⟩ := h.bl
    exact ⟨cur, ht.row hr (fun hm => hT _ hm (by simp [flS])), h2⟩
  · intro i hi
    obtain ⟨cur, hr, hs, h2⟩ := h.pg i hi
    refine ⟨cur, ht.row hr (fun hm => hT _ hm (mem_flS.2 (.inr (.inr ⟨i, hi, rfl⟩)))), hs, fun j hj => ?_⟩
    obtain ⟨v, hv, hp⟩ := h2 j hj
    refine ⟨v, hv, ?_⟩
    cases hx : (S.b i).pg j with
    | none => rw [hx] at hp; exact hp
    | some l =>
      rw [hx] at hp
      refine ht.own hp (fun g hg hm => ?_)
      rcases hp.2 with ⟨rfl, _⟩ | ⟨g2, cap, cur, rfl, _, hr, _⟩
      · cases hg
      · have e : g2 = g := by injection hg
        subst e
        exact hb _ _ hr hm
theorem MedIs.put4 (h : MedIs w B M Q F L P S n bad md) (md' : Int) : MedIs (w.setCell ⟨M, 4, none⟩ (.int .i64 md')) B M Q F L P S n bad md' := by
  have ht : Turns w (w.setCell ⟨M, 4, none⟩ (.int .i64 md')) [M] := (Turns.refl _ _).setCell (by simp) _
  refine ⟨h.hB, h.hM, h.hQ, h.fl.turns ht (fun g hg => by simp at hg; subst hg; exact h.m_flash) (fun g cs hr hm => by simp at hm; subst hm; exact Row.ne_type hr h.row (by decide) rfl), ?_, h.bad.turns ht (by simpa using Ne.symm h.m_q), h.bytes, h.tab.turns ht (fun hm => ?_)⟩
  · have := h.row.put 4 (.int .i64 md')
    simpa [mcells] using this
  · have := h.hB; have := h.hM; simp at hm; omega
theorem MedIs.markBad (h : MedIs w B M Q F L P S n bad md) {k : Nat} (hk : k < S.nb) :
    ∃ w', (Instr.mapUpdate 89 (.map (some Q)) (.int .i64 k) (.bool true)).run Tryz.prog w = .ok () w' ∧ MedIs w' B M Q F L P S n (setBad bad k) md ∧ Turns w w' [Q] := by
  obtain ⟨w', hr, hb, ht⟩ := h.bad.set h.fl.ok.nb.2 hk
  refine ⟨w', hr, ⟨h.hB, h.hM, h.hQ, h.fl.turns ht (fun g hg => by obtain rfl := List.mem_singleton.1 hg; exact h.q_flash) (fun g cs hr2 hm => by rw [List.mem_singleton.1 hm] at hr2; exact h.bad.not_row _ _ hr2), ht.row h.row (by simpa using h.m_q), hb, h.bytes, h.tab.turns ht (fun hm => ?_)⟩, ht⟩
  have := h.hB; have := h.hQ; simp at hm; omega
end
end Go.Proofs.YthjomnaejhehoaaGreatDoor
namespace Go.Proofs.YthjomnaejhehoaaGreatDoor
open Go.RowKit
set_option linter.unusedVariables false
set_option linter.unusedSimpArgs false

/-- How many pages can still be written. -/
def Fl.room (S : Fl) (bad : Nat → Bool) (k : Nat) : Nat := if (S.b k).half || bad k then 0 else S.has k - (S.b k).next
section
variable {w : World} {B M Q F L n : Nat} {P : Nat → Nat} {S : Fl} {bad : Nat → Bool} {md : Int}
theorem MedIs.cells (h : MedIs w B M Q F L P S n bad md) : w.cell? ⟨M, 0, none⟩ = some (.iface 31 (.pointer (some ⟨F, 0, none⟩))) ∧ w.cell? ⟨M, 2, none⟩ = some (.int .i64 n) ∧ w.cell? ⟨M, 3, none⟩ = some (.map (some Q)) ∧ w.cell? ⟨M, 4, none⟩ = some (.int .i64 md) :=
  ⟨h.row.cell 0, h.row.cell 2, h.row.cell 3, h.row.cell 4⟩
theorem MedIs.lookN (h : MedIs w B M Q F L P S n bad md) {k : Nat} (hk : k < S.nb) (m : Nat) : (Instr.lookup 89 (.map (some Q)) (.int .i64 k) false).run Tryz.prog (w.drewN m) = .ok (.bool (bad k)) (w.drewN m) := (h.drewN m).bad.look h.fl.ok.nb.2 hk
set_option maxRecDepth 100000 in
theorem Room_in (h : MedIs w B M Q F L P S n bad md) (k : Nat) (hk : k < S.nb) : Calls Tryz.prog 74 #[.pointer (some ⟨M, 0, none⟩), .int .i64 k] w fun e w' => e = .returned (.int .i64 (S.room bad k : Nat)) ∧ ∃ m, w' = w.drewN m := by
  have HN := Lib.hid (Next_in h.fl k hk)
  have hn := nil_next F
  have hm := met_next F
  obtain ⟨c0, _, c3, _⟩ := h.cells
  have HP := Lib.hid (Pages_in h.fl M k hk c0)
  have hl : (Instr.lookup 89 (.map (some Q)) (.int .i64 k) false).run Tryz.prog w = .ok (.bool (bad k)) w := h.lookN hk 0
  have hnx : (S.b k).next ≤ S.has k := (h.fl.ok.wf k hk).next
  have hle := has_le h.fl.ok k
  have hpg := h.fl.ok.pages
  unfold Fl.room
  generalize S.nb = nb at *
  generalize S.pages = pages at *
  generalize (S.b k).half = hf at *
  generalize (S.b k).next = nx at *
  generalize S.has k = hs at *
  generalize bad k = bk at *
  clear h
  cases hf
  · cases bk
    · have hnl : ¬ (nx : Int) < 0 := by omega
      have he : ((hs - nx : Nat) : Int) = (hs : Int) - nx := by omega
      rw [if_neg (by simp), he]
      rw [if_neg (by simp)] at HN
      clear he
      have HX := Lib.hid hnx
      have HL := Lib.hid (And.intro hle hpg)
      clear hnx hle hpg
      go_enter Tryz.func74, Tryz.ntmps74
      go_wp2_with fail
      refine HN.out.mono ?_
      rintro e w1 ⟨rfl, rfl⟩
      clear HN hn hm
      go_wp2_with fail
      refine HP.out.mono ?_
      rintro e w1 ⟨rfl, m, rfl⟩
      clear HP
      have hwr : IntKind.i64.wrap ((hs : Int) - nx) = (hs : Int) - nx := by rw [IntKind.wrap_i64]; have := HX.out; have := HL.out; omega
      go_wp2
      go_ret
      exact ⟨rfl, m, rfl⟩
    · have hnl : ¬ (nx : Int) < 0 := by omega
      rw [if_pos (by simp)]
      rw [if_neg (by simp)] at HN
      go_enter Tryz.func74, Tryz.ntmps74
      go_wp2_with fail
      refine HN.out.mono ?_
      rintro e w1 ⟨rfl, rfl⟩
      clear HN hn hm
      go_wp2
      go_ret
      exact ⟨rfl, 0, rfl⟩
  · rw [if_pos (by simp)]
    rw [if_pos (by simp)] at HN
    go_enter Tryz.func74, Tryz.ntmps74
    go_wp2_with fail
    refine HN.out.mono ?_
    rintro e w1 ⟨rfl, rfl⟩
    clear HN hn hm
    go_wp2
    go_ret
    exact ⟨rfl, 0, rfl⟩
theorem Room_out (h : MedIs w B M Q F L P S n bad md) (k : Int) (hk : k < 0 ∨ S.nb ≤ k) : Calls Tryz.prog 74 #[.pointer (some ⟨M, 0, none⟩), .int .i64 k] w fun e w' => e = .returned (.int .i64 0) ∧ ∃ m, w' = w.drewN m := by
  have HN := Lib.hid (Next_out h.fl k hk)
  have hn := nil_next F
  have hm := met_next F
  obtain ⟨c0, _, c3, _⟩ := h.cells
  clear h
  go_enter Tryz.func74, Tryz.ntmps74
  go_wp2_with fail
  refine HN.out.mono ?_
  rintro e w1 ⟨rfl, rfl⟩
  clear HN hn hm
  go_wp2
  go_ret
  exact ⟨rfl, 0, rfl⟩
theorem fail_no (M : Nat) (k e0 : Int) (he : e0 ≠ 7) (w : World) : Calls Tryz.prog 60 #[.pointer (some ⟨M, 0, none⟩), .int .i64 k, .int .i64 e0] w fun e w' => e = .returned (.int .i64 e0) ∧ w = w' := by
  go_enter Tryz.func60, Tryz.ntmps60
  go_wp2
  go_ret
  exact ⟨rfl, rfl⟩
theorem fail_yes (h : MedIs w B M Q F L P S n bad md) (k : Nat) (hk : k < S.nb) : Calls Tryz.prog 60 #[.pointer (some ⟨M, 0, none⟩), .int .i64 k, .int .i64 7] w fun e w' => e = .returned (.int .i64 7) ∧ MedIs w' B M Q F L P S n (setBad bad k) md ∧ Turns w w' [Q] := by
  obtain ⟨c0, _, c3, _⟩ := h.cells
  obtain ⟨w', hr, h', ht⟩ := h.markBad hk
  have H' := Lib.hid h'
  have HT := Lib.hid ht
  clear h h' ht
  go_enter Tryz.func60, Tryz.ntmps60
  go_wp2
  go_ret
  exact ⟨rfl, H'.out, HT.out⟩
end
end Go.Proofs.YthjomnaejhehoaaGreatDoor

namespace Go.Proofs.YthjomnaejhehoaaGreatDoor
open Go.RowKit
set_option linter.unusedVariables false
set_option linter.unusedSimpArgs false

section
variable {w : World} {B M Q F L n : Nat} {P : Nat → Nat} {S : Fl} {bad : Nat → Bool} {md : Int}
theorem there_N (h : MedIs w B M Q F L P S n bad md) (k : Int) (m : Nat) : Calls Tryz.prog 59 #[.pointer (some ⟨M, 0, none⟩), .int .i64 k] (w.drewN m) fun e w' => e = .returned (.bool (decide (0 ≤ k ∧ k < S.nb))) ∧ ∃ m', w' = w.drewN m' :=
  (there_any (h.drewN m).fl M k h.cells.1).mono fun e w' ⟨he, m', hw⟩ => ⟨he, m + m', by rw [hw, World.drewN_drewN]⟩
theorem Pages_N (h : MedIs w B M Q F L P S n bad md) (k : Nat) (hk : k < S.nb) (m : Nat) : Calls Tryz.prog 77 #[.pointer (some ⟨M, 0, none⟩), .int .i64 k] (w.drewN m) fun e w' => e = .returned (.int .i64 (S.has k : Nat)) ∧ ∃ m', w' = w.drewN m' :=
  (Pages_in (h.drewN m).fl M k hk h.cells.1).mono fun e w' ⟨he, m', hw⟩ => ⟨he, m + m', by rw [hw, World.drewN_drewN]⟩
theorem Room_N (h : MedIs w B M Q F L P S n bad md) (k : Nat) (hk : k < S.nb) (m : Nat) : Calls Tryz.prog 74 #[.pointer (some ⟨M, 0, none⟩), .int .i64 k] (w.drewN m) fun e w' => e = .returned (.int .i64 (S.room bad k : Nat)) ∧ ∃ m', w' = w.drewN m' :=
  (Room_in (h.drewN m) k hk).mono fun e w' ⟨he, m', hw⟩ => ⟨he, m + m', by rw [hw, World.drewN_drewN]⟩
theorem Off_N (h : MedIs w B M Q F L P S n bad md) (m : Nat) : Calls Tryz.prog 33 #[.pointer (some ⟨F, 0, none⟩)] (w.drewN m) fun e w' => e = .returned (.bool S.off) ∧ w.drewN m = w' := FlOff (h.drewN m).fl
theorem Next_N (h : MedIs w B M Q F L P S n bad md) (k : Nat) (hk : k < S.nb) (m : Nat) : Calls Tryz.prog 23 #[.pointer (some ⟨F, 0, none⟩), .int .i64 k] (w.drewN m) fun e w' => e = .returned (.int .i64 (if (S.b k).half then -1 else ((S.b k).next : Int))) ∧ w.drewN m = w' := Next_in (h.drewN m).fl k hk
theorem MRead_out (h : MedIs w B M Q F L P S n bad md) (k p : Int) (hk : k < 0 ∨ S.nb ≤ k) : Calls Tryz.prog 64 #[.pointer (some ⟨M, 0, none⟩), .int .i64 k, .int .i64 p] w fun e w' => e = .returned (.tuple #[.slice none 0 0, .int .i64 1]) ∧ ∃ m', w' = w.drewN m' := by
  have ht := there_N h k 0
  rw [decide_eq_false (by omega)] at ht
  have HT := Lib.hid ht
  clear h ht hk
  go_enter Tryz.func64, Tryz.ntmps64
  go_wp2_with fail
  refine HT.out.mono ?_
  rintro e w1 ⟨rfl, m, rfl⟩
  clear HT
  go_wp2
  refine bodyPost_ret (v := .tuple #[.slice none 0 0, .int .i64 1]) (by simp [results, Tryz.results64, go_sem]) rfl ⟨rfl, m, rfl⟩
theorem MRead_page (h : MedIs w B M Q F L P S n bad md) (k : Nat) (hk : k < S.nb) (p : Int) (hp : ¬ (0 ≤ p ∧ p < S.has k)) : Calls Tryz.prog 64 #[.pointer (some ⟨M, 0, none⟩), .int .i64 k, .int .i64 p] w fun e w' => e = .returned (.tuple #[.slice none 0 0, .int .i64 1]) ∧ ∃ m', w' = w.drewN m' := by
  have ht := there_N h k 0
  rw [decide_eq_true (by omega)] at ht
  have HT := Lib.hid ht
  have HP := Lib.hid (Pages_N h k hk)
  generalize S.has k = hs at *
  clear h ht hk
  by_cases h0 : p < 0
  · clear hp HP
    go_enter Tryz.func64, Tryz.ntmps64
    go_wp2_with fail
    refine HT.out.mono ?_
    rintro e w1 ⟨rfl, m, rfl⟩
    clear HT
    go_wp2
    refine bodyPost_ret (v := .tuple #[.slice none 0 0, .int .i64 1]) (by simp [results, Tryz.results64, go_sem]) rfl ⟨rfl, m, rfl⟩
  · have h1 : ¬ p < hs := by omega
    have h2 : p ≥ (hs : Int) := by omega
    clear hp
    go_enter Tryz.func64, Tryz.ntmps64
    go_wp2_with fail
    refine HT.out.mono ?_
    rintro e w1 ⟨rfl, m, rfl⟩
    clear HT
    go_wp2_with fail
    refine (HP.out _).mono ?_
    rintro e w1 ⟨rfl, m2, rfl⟩
    clear HP
    go_wp2
    refine bodyPost_ret (v := .tuple #[.slice none 0 0, .int .i64 1]) (by simp [results, Tryz.results64, go_sem]) rfl ⟨rfl, m2, rfl⟩
theorem MRead_off (h : MedIs w B M Q F L P S n bad md) (k : Nat) (hk : k < S.nb) (p : Int) (hp : 0 ≤ p ∧ p < S.has k) (ho : S.off = true) : Calls Tryz.prog 64 #[.pointer (some ⟨M, 0, none⟩), .int .i64 k, .int .i64 p] w fun e w' => e = .returned (.tuple #[.slice none 0 0, .int .i64 4]) ∧ ∃ m', w' = w.drewN m' := by
  have ht := there_N h k 0
  rw [decide_eq_true (by omega)] at ht
  have HT := Lib.hid ht
  have HP := Lib.hid (Pages_N h k hk)
  have hO := Off_N h
  rw [ho] at hO
  have HO := Lib.hid hO
  have hno := nil_off F
  have hmo := met_off F
  obtain ⟨c0, _, _, _⟩ := h.cells
  generalize S.has k = hs at *
  have h0 : ¬ p < 0 := by omega
  have h1 : p < hs := by omega
  have h2 : ¬ p ≥ (hs : Int) := by omega
  clear h ht hk ho hp hO
  go_enter Tryz.func64, Tryz.ntmps64
  go_wp2_with fail
  refine HT.out.mono ?_
  rintro e w1 ⟨rfl, m, rfl⟩
  clear HT
  go_wp2_with fail
  refine (HP.out _).mono ?_
  rintro e w1 ⟨rfl, m2, rfl⟩
  clear HP
  go_wp2_with fail
  refine (HO.out _).mono ?_
  rintro e w1 ⟨rfl, rfl⟩
  clear HO hno hmo
  go_wp2
  refine bodyPost_ret (v := .tuple #[.slice none 0 0, .int .i64 4]) (by simp [results, Tryz.results64, go_sem]) rfl ⟨rfl, m2, rfl⟩
theorem MRead_half (h : MedIs w B M Q F L P S n bad md) (k : Nat) (hk : k < S.nb) (p : Int) (hp : 0 ≤ p ∧ p < S.has k) (ho : S.off = false) (hh : (S.b k).half = true) : Calls Tryz.prog 64 #[.pointer (some ⟨M, 0, none⟩), .int .i64 k, .int .i64 p] w fun e w' => e = .returned (.tuple #[.slice none 0 0, .int .i64 9]) ∧ ∃ m', w' = w.drewN m' := by
  have ht := there_N h k 0
  rw [decide_eq_true (by omega)] at ht
  have HT := Lib.hid ht
  have HP := Lib.hid (Pages_N h k hk)
  have hO := Off_N h
  rw [ho] at hO
  have HO := Lib.hid hO
  have hN := Next_N h k hk
  rw [hh, if_pos rfl] at hN
  have HN := Lib.hid hN
  have hno := nil_off F
  have hmo := met_off F
  have hnn := nil_next F
  have hmn := met_next F
  obtain ⟨c0, _, _, _⟩ := h.cells
  generalize S.has k = hs at *
  have h0 : ¬ p < 0 := by omega
  have h1 : p < hs := by omega
  have h2 : ¬ p ≥ (hs : Int) := by omega
  clear h ht hk ho hp hO hN hh
  go_enter Tryz.func64, Tryz.ntmps64
  go_wp2_with fail
  refine HT.out.mono ?_
  rintro e w1 ⟨rfl, m, rfl⟩
  clear HT
  go_wp2_with fail
  refine (HP.out _).mono ?_
  rintro e w1 ⟨rfl, m2, rfl⟩
  clear HP
  go_wp2_with fail
  refine (HO.out _).mono ?_
  rintro e w1 ⟨rfl, rfl⟩
  clear HO hno hmo
  go_wp2_with fail
  refine (HN.out _).mono ?_
  rintro e w1 ⟨rfl, rfl⟩
  clear HN hnn hmn
  go_wp2
  refine bodyPost_ret (v := .tuple #[.slice none 0 0, .int .i64 9]) (by simp [results, Tryz.results64, go_sem]) rfl ⟨rfl, m2, rfl⟩
/-- How many words are mended where the page is whole. -/
def cntOf (r : List Nat) (c : Nat) : Nat := if stateOf r c = 2 ∧ rBad r c = false then rCnt r c else 0
/-- What Read leaves where it reads. -/
def MReadPost (w : World) (B M Q F L : Nat) (P : Nat → Nat) (S : Fl) (n : Nat) (bad : Nat → Bool) (md : Int) (r : List Nat) (e : Ending) (w' : World) : Prop :=
  MedIs w' B M Q F L P S n bad (IntKind.i64.wrap (md + cntOf r S.chunks)) ∧ Turns w w' [M, F] ∧ (stateOf r S.chunks ≠ 2 → e = .returned (.tuple #[.slice none 0 0, .int .i64 9])) ∧
    (stateOf r S.chunks = 2 → rBad r S.chunks = true → e = .returned (.tuple #[.slice none 0 0, .int .i64 8])) ∧
    (stateOf r S.chunks = 2 → rBad r S.chunks = false → ∃ A q, e = .returned (.tuple #[.slice A n q, .int .i64 0]) ∧ w'.ownsRow w.heap.size 5 1 (.slice A n q) n (intsV .u8 ((rBytes r S.chunks).take n)))
theorem MedIs.add (h : MedIs w B M Q F L P S n bad md) (c : Nat) : Calls Tryz.prog 79 #[.pointer (some ⟨M, 4, none⟩), .int .i64 c] w fun e w' => (∃ v, e = .returned v) ∧ MedIs w' B M Q F L P S n bad (IntKind.i64.wrap (md + c)) ∧ Turns w w' [M] :=
  (Add_any M 4 md c w h.cells.2.2.2 (h.row.frozen 4)).mono fun e w' ⟨he, hw⟩ => by subst hw; exact ⟨⟨_, he⟩, h.put4 _, (Turns.refl _ _).setCell (by simp) _⟩
end
end Go.Proofs.YthjomnaejhehoaaGreatDoor
namespace Go.Proofs.YthjomnaejhehoaaGreatDoor
open Go.RowKit
set_option linter.unusedVariables false
set_option linter.unusedSimpArgs false

theorem own_addr {w : World} {B : Nat} {e : TypeId} {A : Option Addr} {n c : Nat} {xs : List Value} (h : w.ownsRow B e 1 (.slice A n c) n xs) (hn : 0 < n) : ∃ g, A = some ⟨g, 0, none⟩ ∧ n ≤ c := by
  rcases h.2 with ⟨h1, h2⟩ | ⟨g, cap, cur, e1, h0, hb, hc, hm2, hs, ht⟩
  · have := h.1
    rw [h2] at this
    simp at this; omega
  · injection e1 with e1 _ e3
    subst e1; subst e3
    exact ⟨g, rfl, hc⟩
/-- How a page is: 0 blank, 1 torn, 2 whole, 3 none. -/
def howOf (r : List Nat) (c : Nat) : Nat := if stateOf r c = 2 then (if rBad r c then 3 else 2) else stateOf r c
theorem howOf_of (r : List Nat) (c : Nat) : howOf r c = 0 ∨ howOf r c = 1 ∨ howOf r c = 2 ∨ howOf r c = 3 := by
  have := stateOf_of r c
  unfold howOf
  split
  · split <;> simp
  · omega
def RdPost (r : List Nat) (c n : Nat) (w : World) (e : Ending) (w' : World) : Prop :=
  ∃ b, e = .returned (.tuple #[b, .int .i64 (cntOf r c : Nat), .int .i64 (howOf r c : Nat)]) ∧ Below w.heap.size w w' ∧ (howOf r c = 2 → ∃ A q, b = .slice A n q ∧ w'.ownsRow w.heap.size 5 1 (.slice A n q) n (intsV .u8 ((rBytes r c).take n)))
theorem ReadPost.norm {r : List Nat} {c n : Nat} {w : World} {e : Ending} {w' : World} (h : ReadPost r c n w e w') : RdPost r c n w e w' := by
  obtain ⟨hb, h1, h2, h3⟩ := h
  unfold RdPost howOf cntOf
  by_cases hs : stateOf r c = 2
  · rw [if_pos hs]
    cases hr : rBad r c with
    | true => exact ⟨_, by rw [if_neg (by simp)]; exact h2 hs hr, hb, fun h => by simp at h⟩
    | false =>
      obtain ⟨A, q, he, ho⟩ := h3 hs hr
      exact ⟨_, by rw [if_pos ⟨hs, rfl⟩]; exact he, hb, fun _ => ⟨A, q, rfl, ho⟩⟩
  · rw [if_neg hs]
    exact ⟨_, by rw [if_neg (fun h => hs h.1)]; exact h1 hs, hb, fun h => absurd h hs⟩
section
variable {w : World} {B M Q F L n : Nat} {P : Nat → Nat} {S : Fl} {bad : Nat → Bool} {md : Int}
/-- A row of bytes stays behind what turns a media's blocks. -/
theorem MedIs.own {w' : World} {T : List Nat} {base m : Nat} {v : Value} {xs : List Value} (h : MedIs w B M Q F L P S n bad md) (ht : Turns w w' T) (hT : ∀ g ∈ T, g ∈ medT M Q F L P S.nb) (ho : w.ownsRow base 5 1 v m xs) : w'.ownsRow base 5 1 v m xs :=
  ht.own ho (fun g hg hm => by
    rcases ho.2 with ⟨rfl, _⟩ | ⟨g2, cap, cur, rfl, _, hr, _⟩
    · cases hg
    · have e : g2 = g := by injection hg
      subst e
      exact h.no_bytes hr (hT _ hm))
set_option maxRecDepth 100000 in
set_option maxHeartbeats 1000000 in
theorem MRead_core (h : MedIs w B M Q F L P S n bad md) (k : Nat) (hk : k < S.nb) (p : Nat) (hp : p < S.has k) (ho : S.off = false) (hh : (S.b k).half = false) : Calls Tryz.prog 64 #[.pointer (some ⟨M, 0, none⟩), .int .i64 k, .int .i64 p] w fun e w' =>
    MedIs w' B M Q F L P S n bad (IntKind.i64.wrap (md + cntOf (S.raw k p) S.chunks)) ∧ Turns w w' [M, F] ∧
    ((howOf (S.raw k p) S.chunks = 0 ∨ howOf (S.raw k p) S.chunks = 1) → e = .returned (.tuple #[.slice none 0 0, .int .i64 9])) ∧ (howOf (S.raw k p) S.chunks = 3 → e = .returned (.tuple #[.slice none 0 0, .int .i64 8])) ∧
    (howOf (S.raw k p) S.chunks = 2 → ∃ A q, e = .returned (.tuple #[.slice A n q, .int .i64 0]) ∧ w'.ownsRow w.heap.size 5 1 (.slice A n q) n (intsV .u8 ((rBytes (S.raw k p) S.chunks).take n))) := by
  have ht := there_N h k 0
  rw [decide_eq_true (by omega)] at ht
  have HT := Lib.hid ht
  have HP := Lib.hid (Pages_N h k hk)
  have hO := Off_N h
  rw [ho] at hO
  have HO := Lib.hid hO
  have hN := Next_N h k hk
  rw [hh, if_neg (by simp)] at hN
  have HN := Lib.hid hN
  have hno := nil_off F
  have hmo := met_off F
  have hnn := nil_next F
  have hmn := met_next F
  have hnr := nil_read F
  have hmr := met_read F
  obtain ⟨c0, _, _, _⟩ := h.cells
  have HFR : Hid (∀ m, Calls Tryz.prog 136 #[.pointer (some ⟨F, 0, none⟩), .int .i64 k, .int .i64 p] (w.drewN m) fun e w' => ∃ g c, e = .returned (.tuple #[.slice (some ⟨g, 0, none⟩) (73 * S.chunks) c, .int .i64 0]) ∧ MedIs w' B M Q F L P S n bad md ∧ Turns w w' [F] ∧ w'.cell? ⟨M, 2, none⟩ = some (.int .i64 n) ∧ Hid (Calls Tryz.prog 78 #[.slice (some ⟨g, 0, none⟩) (73 * S.chunks) c, .int .i64 n] w' (RdPost (S.raw k p) S.chunks n w'))) := fun m => by
    refine (FRead_any (h.drewN m).fl k hk (p : Nat)).mono fun e w' ⟨hf, htn, _, _, _, h4⟩ => ?_
    obtain ⟨A, c, he, hown⟩ := h4 ho (by omega) hh
    have hch := h.fl.ok.chunks
    obtain ⟨g, rfl, hgc⟩ := own_addr hown (by omega)
    have hm' : MedIs w' B M Q F L P S n bad md := (h.drewN m).flash hf htn (by simp [flS]) rfl rfl
    have hraw := S.raw_ok h.fl.ok hk p
    refine ⟨g, c, he, hm', ((Turns.refl w [F]).drewN m).trans htn (by simp), hm'.cells.2.1, ?_⟩
    exact (Read_any g 0 c S.chunks n (S.raw k p) hraw.1 hch.1 hch.2 h.bytes.2 hgc hraw.2 w' (Cells8.of_own hown).2 hm'.tab).mono fun e w' h => h.norm
  have HW : Hid (w.heap.size = w.heap.size) := rfl
  have hnx := (h.fl.ok.wf k hk).next
  have hle := has_le h.fl.ok k
  have hpg := h.fl.ok.pages
  generalize S.has k = hs at *
  generalize (S.b k).next = nx at *
  have h0 : ¬ (p : Int) < 0 := by omega
  have h1 : (p : Int) < hs := by omega
  have h2 : ¬ (p : Int) ≥ (hs : Int) := by omega
  have h3 : ¬ (nx : Int) < 0 := by omega
  have HHw := Lib.hid (howOf_of (S.raw k p) S.chunks)
  clear h ht hk ho hp hO hN hh hnx hle hpg
  generalize S.raw k p = r at *
  generalize S.chunks = ch at *
  go_enter Tryz.func64, Tryz.ntmps64
  go_wp2_with fail
  refine HT.out.mono ?_
  rintro e w1 ⟨rfl, m, rfl⟩
  clear HT
  go_wp2_with fail
  refine (HP.out _).mono ?_
  rintro e w1 ⟨rfl, m2, rfl⟩
  clear HP
  go_wp2_with fail
  refine (HO.out _).mono ?_
  rintro e w1 ⟨rfl, rfl⟩
  clear HO hno hmo
  go_wp2_with fail
  refine (HN.out _).mono ?_
  rintro e w1 ⟨rfl, rfl⟩
  clear HN hnn hmn
  go_wp2_with fail
  refine (HFR.out _).mono ?_
  rintro e w1 ⟨g, c, rfl, hm1, ht1, cn, HR⟩
  have HM1 := Lib.hid hm1
  have HT1 := Lib.hid ht1
  clear HFR hnr hmr hm1 ht1
  go_wp2_with fail
  refine HR.out.mono ?_
  unfold RdPost
  rintro e w2 ⟨b, rfl, hb, hr⟩
  have HB := Lib.hid hb
  have HRr := Lib.hid hr
  have HM2 : Hid (MedIs w2 B M Q F L P S n bad md) := HM1.out.keep (Turns.of_below hb [])
  have HT2 : Hid (Turns w w2 [F]) := HT1.out.then_below hb
  have HA := Lib.hid (HM2.out.add (cntOf r ch))
  have c2 : w2.cell? ⟨M, 0, none⟩ = some (.iface 31 (.pointer (some ⟨F, 0, none⟩))) := HM2.out.cells.1
  clear HR hb hr c0 cn HM1 HB
  go_wp2_with fail
  refine HA.out.mono ?_
  rintro e w3 ⟨⟨v, rfl⟩, hm3, ht3⟩
  have HM3 := Lib.hid hm3
  have HT3 : Hid (Turns w w3 [M, F]) := (HT2.out.mono (by simp)).trans ht3 (by simp)
  have HHH : Hid (howOf r ch = 2 → ∃ A q, b = .slice A n q ∧ w3.ownsRow w.heap.size 5 1 (.slice A n q) n (intsV .u8 ((rBytes r ch).take n))) := fun h => by
    obtain ⟨A, q, e, ho⟩ := HRr.out h
    exact ⟨A, q, e, HM2.out.own ht3 (by simp [medT]) (own_mono ho HT1.out.size)⟩
  clear HA hm3 ht3 HM2 HT2 HRr c2 HT1
  rcases HHw.out with h | h | h | h
  · have HE := Lib.hid h
    rw [h]
    clear h
    go_wp2
    refine bodyPost_ret (v := .tuple #[.slice none 0 0, .int .i64 9]) (by simp [results, Tryz.results64, go_sem]) rfl ⟨HM3.out, HT3.out, fun _ => rfl, fun h => (by rw [HE.out] at h; cases h), fun h => (by rw [HE.out] at h; cases h)⟩
  · have HE := Lib.hid h
    rw [h]
    clear h
    go_wp2
    refine bodyPost_ret (v := .tuple #[.slice none 0 0, .int .i64 9]) (by simp [results, Tryz.results64, go_sem]) rfl ⟨HM3.out, HT3.out, fun _ => rfl, fun h => (by rw [HE.out] at h; cases h), fun h => (by rw [HE.out] at h; cases h)⟩
  · obtain ⟨A, q, rfl, ho⟩ := HHH.out h
    have HE := Lib.hid h
    have HO := Lib.hid ho
    rw [h]
    clear h ho
    go_wp2
    refine bodyPost_ret (v := .tuple #[.slice A n q, .int .i64 0]) (by simp [results, Tryz.results64, go_sem]) rfl ⟨HM3.out, HT3.out, fun h => (by rw [HE.out] at h; rcases h with h | h <;> cases h), fun h => (by rw [HE.out] at h; cases h), fun _ => ⟨A, q, rfl, HO.out⟩⟩
  · have HE := Lib.hid h
    rw [h]
    clear h
    go_wp2
    refine bodyPost_ret (v := .tuple #[.slice none 0 0, .int .i64 8]) (by simp [results, Tryz.results64, go_sem]) rfl ⟨HM3.out, HT3.out, fun h => (by rw [HE.out] at h; rcases h with h | h <;> cases h), fun _ => rfl, fun h => (by rw [HE.out] at h; cases h)⟩
end
end Go.Proofs.YthjomnaejhehoaaGreatDoor

namespace Go.Proofs.YthjomnaejhehoaaGreatDoor
open Go.RowKit
set_option linter.unusedVariables false
set_option linter.unusedSimpArgs false

theorem lay_split (l : List Nat) (k : Nat) : ∀ c, k < c → ∃ rest, lay l c = lay l k ++ (blk l k ++ (chks (blk l k) 8 ++ (0 :: rest)))
  | 0, h => by omega
  | c + 1, h => by
    by_cases e : k = c
    · subst e
      exact ⟨[], by simp [lay]⟩
    · obtain ⟨rest, hr⟩ := lay_split l k c (by omega)
      exact ⟨rest ++ (blk l c ++ chks (blk l c) 8 ++ [0]), by rw [lay, hr]; simp⟩
section
variable {l : List Nat} {c k : Nat} (hl : l.length = 64 * c) (hk : k < c)
include hl hk
theorem lay_cd : cd (lay l c) k = blk l k := by
  obtain ⟨rest, hr⟩ := lay_split l k c hk
  have h1 := lay_length l c hl k (by omega)
  have h2 := blk_length l k c hl hk
  unfold cd
  rw [hr, ← h1, List.drop_left, ← h2, List.take_left]
theorem lay_cc : cc (lay l c) k = chks (blk l k) 8 := by
  obtain ⟨rest, hr⟩ := lay_split l k c hk
  have h1 := lay_length l c hl k (by omega)
  have h2 := blk_length l k c hl hk
  have h3 := chks_length (blk l k) 8
  unfold cc
  rw [hr, ← List.append_assoc (lay l k), show 73 * k + 64 = (lay l k ++ blk l k).length by rw [List.length_append, h1, h2], List.drop_left]
  conv => lhs; rw [show (8 : Nat) = (chks (blk l k) 8).length from h3.symm]
  rw [h3, List.take_append_of_le_length (by rw [h3]; exact Nat.le_refl _), List.take_of_length_le (by rw [h3]; exact Nat.le_refl _)]
theorem lay_mark : (lay l c).getD (72 + 73 * k) 0 = 0 := by
  obtain ⟨rest, hr⟩ := lay_split l k c hk
  have h1 := lay_length l c hl k (by omega)
  have h2 := blk_length l k c hl hk
  have h3 := chks_length (blk l k) 8
  rw [hr, List.getD_eq_getElem?_getD, List.getElem?_append_right (by omega), List.getElem?_append_right (by omega), List.getElem?_append_right (by omega), h1, h2, h3, show 72 + 73 * k - 73 * k - 64 - 8 = 0 by omega]
  rfl
end
theorem marks_all {l : List Nat} : ∀ c, (∀ k, k < c → pop8 (l.getD (72 + 73 * k) 0) ≤ 4) → marks l c = c
  | 0, _ => rfl
  | c + 1, h => by
    rw [marks, marks_all c (fun k hk => h k (by omega)), if_pos (h c (by omega))]
theorem lay_state {l : List Nat} {c : Nat} (hl : l.length = 64 * c) (hc : 1 ≤ c) : stateOf (lay l c) c = 2 := by
  have hm := marks_all (l := lay l c) c (fun k hk => by rw [lay_mark hl hk]; decide)
  unfold stateOf
  rw [hm, if_neg (by omega), if_pos rfl]
end Go.Proofs.YthjomnaejhehoaaGreatDoor
namespace Go.Proofs.YthjomnaejhehoaaGreatDoor
open Go.RowKit
set_option linter.unusedVariables false
set_option linter.unusedSimpArgs false

theorem gw_add (l : List Nat) (h : ∀ j, l.getD j 0 < 256) (k : Nat) : gw l (k + 1) = 2 ^ (8 * k) * l.getD k 0 + gw l k := by
  rw [Nat.two_pow_add_eq_or_of_lt (gw_lt l h k), Nat.or_comm, Nat.mul_comm]
  rfl
theorem gw_byte (l : List Nat) (h : ∀ j, l.getD j 0 < 256) : ∀ k i, i < k → gw l k / 2 ^ (8 * i) % 256 = l.getD i 0
  | 0, i, hi => by omega
  | k + 1, i, hi => by
    rw [gw_add l h k]
    by_cases e : i = k
    · subst e
      rw [Nat.mul_add_div (Nat.two_pow_pos _), Nat.div_eq_of_lt (gw_lt l h i), Nat.add_zero, Nat.mod_eq_of_lt (h i)]
    · have hp : 2 ^ (8 * k) = 2 ^ (8 * i) * (256 * 2 ^ (8 * (k - i - 1))) := by
        rw [show (256 : Nat) = 2 ^ 8 by decide, ← Nat.pow_add, ← Nat.pow_add]
        congr 1
        omega
      rw [hp, Nat.mul_assoc, Nat.mul_add_div (Nat.two_pow_pos _), Nat.mul_assoc, Nat.mul_add_mod]
      exact gw_byte l h k i (by omega)
theorem pb_gw (l : List Nat) (h : ∀ j, l.getD j 0 < 256) (hl : 8 ≤ l.length) : pb (gw l 8) 8 = l.take 8 := by
  apply List.ext_getElem
  · rw [pb_length, List.length_take]; omega
  · intro i h1 h2
    have hi : i < 8 := by rw [pb_length] at h1; exact h1
    simp only [pb, List.getElem_map, List.getElem_range, if_pos hi, List.getElem_take]
    rw [gw_byte l h 8 i hi, List.getD_eq_getElem?_getD, List.getElem?_eq_getElem (by omega)]
    rfl
theorem mend_same (x : Nat) : mend x (chk x) = (x, chk x, 0) := by
  unfold mend
  rw [Nat.xor_self, if_pos rfl]
theorem chks_get (l : List Nat) (k i : Nat) (h : i < k) : (chks l k).getD i 0 = chk (gw (l.drop (8 * i)) 8) := by
  rw [List.getD_eq_getElem?_getD]
  simp [chks, h]
theorem mw_same (l : List Nat) (i : Nat) (h : i < 8) : mw l (chks l 8) i = (gw (l.drop (8 * i)) 8, chk (gw (l.drop (8 * i)) 8), 0) := by
  unfold mw
  rw [chks_get l 8 i h, mend_same]
theorem mBytes_same (l : List Nat) (hl : l.length = 64) (h : ∀ u ∈ l, u < 256) : ∀ k, k ≤ 8 → mBytes l (chks l 8) k = l.take (8 * k)
  | 0, _ => rfl
  | k + 1, hk => by
    rw [mBytes, mBytes_same l hl h k (by omega), mw_same l k (by omega), pb_gw _ (getD_lt (mem_drop h)) (by rw [List.length_drop]; omega), show 8 * (k + 1) = 8 * k + 8 by omega, List.take_add]
theorem mCnt_same (l : List Nat) : ∀ k, k ≤ 8 → mCnt l (chks l 8) k = 0
  | 0, _ => rfl
  | k + 1, hk => by rw [mCnt, mCnt_same l k (by omega), mw_same l k (by omega)]; rfl
theorem mBad_same (l : List Nat) : mBad l (chks l 8) = false := mBad_none _ _ fun i hi => by rw [mw_same l i hi]; simp
end Go.Proofs.YthjomnaejhehoaaGreatDoor

namespace Go.Proofs.YthjomnaejhehoaaGreatDoor
open Go.RowKit
set_option linter.unusedVariables false
set_option linter.unusedSimpArgs false

section
variable {l : List Nat} {c : Nat}
theorem blk_lt {k : Nat} (h : ∀ u ∈ l, u < 256) : ∀ u ∈ blk l k, u < 256 := mem_take (mem_drop h)
theorem rBytes_lay (hl : l.length = 64 * c) (h : ∀ u ∈ l, u < 256) : ∀ k, k ≤ c → rBytes (lay l c) k = l.take (64 * k)
  | 0, _ => by simp [rBytes]
  | k + 1, hk => by
    have hb := blk_length l k c hl (by omega)
    rw [rBytes, rBytes_lay hl h k (by omega), lay_cd hl (by omega), lay_cc hl (by omega), mBytes_same _ hb (blk_lt h) 8 (by omega), show (blk l k).take (8 * 8) = blk l k from List.take_of_length_le (by omega), show 64 * (k + 1) = 64 * k + 64 by omega, List.take_add]
    rfl
theorem rCnt_lay (hl : l.length = 64 * c) : ∀ k, k ≤ c → rCnt (lay l c) k = 0
  | 0, _ => by simp [rCnt]
  | k + 1, hk => by rw [rCnt, rCnt_lay hl k (by omega), lay_cd hl (by omega), lay_cc hl (by omega), mCnt_same _ 8 (by omega)]
theorem rBad_lay (hl : l.length = 64 * c) : rBad (lay l c) c = false := rBad_none _ _ fun i hi => by rw [lay_cd hl hi, lay_cc hl hi]; exact mBad_same _
end
theorem laid_how {d : List Nat} {c : Nat} (hc : 1 ≤ c) (hd : d.length ≤ 64 * c) : howOf (laid d c) c = 2 := by
  have hl := pad_length d c hd
  unfold howOf laid
  rw [if_pos (lay_state hl hc), rBad_lay hl]; rfl
theorem laid_cnt {d : List Nat} {c : Nat} (hd : d.length ≤ 64 * c) : cntOf (laid d c) c = 0 := by
  have hl := pad_length d c hd
  unfold cntOf laid
  rw [rCnt_lay hl c (Nat.le_refl _)]; simp
theorem laid_read {d : List Nat} {c : Nat} (hd : d.length ≤ 64 * c) (h : ∀ u ∈ d, u < 256) : (rBytes (laid d c) c).take d.length = d := by
  have hl := pad_length d c hd
  unfold laid
  rw [rBytes_lay hl (pad_lt h c) c (Nat.le_refl _), show (pad d c).take (64 * c) = pad d c from List.take_of_length_le (by omega)]
  exact List.take_left
theorem laid_raw {d : List Nat} {c : Nat} (hd : d.length ≤ 64 * c) (h : ∀ u ∈ d, u < 256) : Raw c (laid d c) :=
  ⟨lay_length (pad d c) c (pad_length d c hd) c (Nat.le_refl _), lay_lt (pad_lt h c) c⟩
end Go.Proofs.YthjomnaejhehoaaGreatDoor
namespace Go.Proofs.YthjomnaejhehoaaGreatDoor
open Go.RowKit
set_option linter.unusedVariables false
set_option linter.unusedSimpArgs false

theorem marks_at {l : List Nat} (j : Nat) (h1 : ∀ k, k < j → pop8 (l.getD (72 + 73 * k) 0) ≤ 4) : ∀ c, (∀ k, j ≤ k → k < c → ¬ pop8 (l.getD (72 + 73 * k) 0) ≤ 4) → marks l c = min c j
  | 0, _ => by simp [marks]
  | c + 1, h2 => by
    rw [marks, marks_at j h1 c (fun k hk hkc => h2 k hk (by omega))]
    by_cases hc : c < j
    · rw [if_pos (h1 c hc)]; omega
    · rw [if_neg (h2 c (by omega) (by omega))]; omega
theorem part_state {d : List Nat} {c j : Nat} (hd : d.length ≤ 64 * c) (hj : 0 < j) (hjc : j < c) : stateOf (part (laid d c) c j) c = 1 := by
  have hl := pad_length d c hd
  have hr : (laid d c).length = 73 * c := lay_length (pad d c) c hl c (Nat.le_refl _)
  have hm := marks_at (l := part (laid d c) c j) j (fun k hk => by
    have e : (part (laid d c) c j).getD (72 + 73 * k) 0 = (laid d c).getD (72 + 73 * k) 0 := by
      unfold part
      rw [List.getD_eq_getElem?_getD, List.getElem?_append_left (by rw [List.length_take]; omega), List.getElem?_take, if_pos (by omega), ← List.getD_eq_getElem?_getD]
    rw [e]
    unfold laid
    rw [lay_mark hl (by omega)]
    decide) c (fun k hk hkc => by
    have e : (part (laid d c) c j).getD (72 + 73 * k) 0 = 255 := by
      unfold part
      rw [List.getD_eq_getElem?_getD, List.getElem?_append_right (by rw [List.length_take]; omega), List.getElem?_replicate, if_pos (by rw [List.length_take]; omega)]
      rfl
    rw [e]; decide)
  unfold stateOf
  rw [hm, if_neg (by omega), if_neg (by omega)]
theorem laid_state {d : List Nat} {c : Nat} (hd : d.length ≤ 64 * c) (hc : 1 ≤ c) : stateOf (laid d c) c = 2 := lay_state (pad_length d c hd) hc
end Go.Proofs.YthjomnaejhehoaaGreatDoor
