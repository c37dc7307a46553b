/- What follows is laid together from several texts of mine, in their order. -/
import Derived.Test.YthjomnaejhehoaaGreatDoorQ10
import Derived.Maps.RangeWalk
import Derived.Test.YthjomnaejhehoaaGreatDoorQ1
import Derived.Test.YthjomnaejhehoaaGreatDoorQ12

namespace Go.Proofs.YthjomnaejhehoaaGreatDoor
open Go.RowKit Go.MapKept Go.ChangeMaps
open Go.Maps (Keyed)
set_option linter.unusedVariables false
set_option linter.unusedSimpArgs false

/-- Block r of w goes over the map at b, which f tells; cnt entries are still to come. -/
def IterIs (P : Program) (k : TypeId) (w : World) (b r n : Nat) (f : Value → Option Value) (cnt : Nat) : Prop :=
  ∃ es clock since seen c0, w.heap[b]? = some (.map es clock) ∧ Stamped es clock ∧ es.size = n ∧ (∀ x ∈ es.toList, ∃ l, keyOf P k x.key = some l) ∧ (∀ key v, f key = some v ↔ ∃ x ∈ es.toList, x.key = key ∧ x.val = v) ∧
    w.heap[r]? = some (.mapIter (some b) since seen c0) ∧ (∀ x ∈ es.toList, x.born < since) ∧ (leftOf es seen).size = cnt ∧ since ≤ c0 ∧ since ≤ clock
section
variable {P : Program} {k : TypeId} {w : World} {b r n cnt : Nat} {f : Value → Option Value}
theorem IterIs.isMap (h : IterIs P k w b r n f cnt) : MapIs P k w b n f := by
  obtain ⟨es, clock, since, seen, c0, hb, hs, hn, hk, hf, _⟩ := h
  exact ⟨es, clock, hb, hs, hn, hk, hf⟩
theorem IterIs.lt (h : IterIs P k w b r n f cnt) : r < w.heap.size := by
  obtain ⟨es, clock, since, seen, c0, hb, hs, hn, hk, hf, hr, _⟩ := h
  exact (Array.getElem?_eq_some_iff.1 hr).1
theorem IterIs.keep {w' : World} (h : IterIs P k w b r n f cnt) (hb : w'.heap[b]? = w.heap[b]?) (hr : w'.heap[r]? = w.heap[r]?) : IterIs P k w' b r n f cnt := by
  obtain ⟨es, clock, since, seen, c0, h1, hs, hn, hk, hf, h2, rest⟩ := h
  exact ⟨es, clock, since, seen, c0, hb.trans h1, hs, hn, hk, hf, hr.trans h2, rest⟩
theorem IterIs.below {w' : World} (h : IterIs P k w b r n f cnt) (hb : Below w.heap.size w w') : IterIs P k w' b r n f cnt :=
  h.keep (hb.block b h.isMap.lt) (hb.block r h.lt)
theorem MapIs.range {t e : TypeId} (h : MapIs P k w b n f) (ht : P.underlying t = some (.map k e)) :
    ∃ w', (Instr.range t (.map (some b))).run P w = .ok (.pointer (some ⟨w.heap.size, 0, none⟩)) w' ∧ IterIs P k w' b w.heap.size n f n ∧ Below w.heap.size w w' := by
  obtain ⟨es, clock, hb, hs, hn, hk, hf⟩ := h
  refine ⟨w.alloc (.mapIter (some b) clock #[] clock), ?_, ⟨es, clock, clock, #[], clock, ?_, hs, hn, hk, hf, heap_alloc_new w _, ?_, ?_, Nat.le_refl _, Nat.le_refl _⟩, (Below.refl _ _).alloc (Nat.le_refl _) _⟩
  · simp [Instr.range, run_underlying ht, MapKept.run_getObj_map hb, Result.andThen]
  · exact (Below.heap_alloc w _ b (Array.getElem?_eq_some_iff.1 hb).1).trans hb
  · exact fun x hx => ((stamped_iff es clock).1 hs).1 x hx
  · rw [← hn]; simp [leftOf]
theorem IterIs.next (h : IterIs P k w b r n f cnt) (ty : TypeId) :
    (cnt = 0 ∧ (Instr.next (.pointer (some ⟨r, 0, none⟩)) false ty).run P w = .ok (.tuple #[.bool false]) w) ∨
    ∃ key v w' cnt', f key = some v ∧ (Instr.next (.pointer (some ⟨r, 0, none⟩)) false ty).run P w = .ok (.tuple #[.bool true, key, v]) w' ∧ IterIs P k w' b r n f cnt' ∧ cnt' < cnt ∧ w.grownBy w' (some r) ∧
      (Instr.entry (.pointer (some ⟨r, 0, none⟩))).run P w' = .ok (.tuple #[key, v]) w' := by
  obtain ⟨es, clock, since, seen, c0, hb, hs, hn, hk, hf, hr, hold, hcnt, hsc, hsk⟩ := h
  have hne : r ≠ b := fun e => by rw [e, hb] at hr; cases hr
  rcases run_next_at (P := P) w ty r b since c0 seen es clock hr hb hold hsc with ⟨h0, hrun⟩ | ⟨e, he, w1, hal, hrun⟩
  · exact .inl ⟨by rw [← hcnt]; exact h0, hrun⟩
  · obtain ⟨hem, hes⟩ := mem_left he
    have hr1 : w1.heap[r]? = some (.mapIter (some b) since seen c0) := by rcases hal with rfl | rfl <;> exact hr
    have hb1 : w1.heap[b]? = some (.map es clock) := by rcases hal with rfl | rfl <;> exact hb
    have hset := heap_set (o' := .mapIter (some b) since (seen.push e.born) clock) hr1
    have hb' : (setBlock w1 r (.mapIter (some b) since (seen.push e.born) clock)).heap[b]? = some (.map es clock) := (hset.2 b (fun e1 => hne e1.symm)).trans hb1
    refine .inr ⟨e.key, e.val, _, _, (hf e.key e.val).2 ⟨e, hem, rfl, rfl⟩, hrun, ⟨es, clock, since, seen.push e.born, clock, hb', hs, hn, hk, hf, hset.1, hold, rfl, hsk, hsk⟩, by rw [← hcnt]; exact left_shrinks es seen e he, ?_,
      run_entry_at _ r b since seen es clock e hset.1 hb' hem ((stamped_iff es clock).1 hs).2.1⟩
    rcases hal with rfl | rfl <;> exact ⟨rfl, rfl, rfl, by simp [setBlock], fun i _ hi => hset.2 i (fun e1 => hi (by rw [e1]))⟩
theorem IterIs.left_eq (h : IterIs P k w b r n f cnt) : w.rangeLeft b r = cnt := by
  obtain ⟨es, clock, since, seen, c0, h1, hs, hn, hk, hf, h2, hold, hcnt, _⟩ := h
  unfold World.rangeLeft
  rw [h1, h2]; exact hcnt
variable {ops : Array Oper} {rest : List Oper} {o : Oper} {a : Act} {Q : Exit → Act → World → Prop}
/-- 'range m'. -/
theorem wpList_range_map (hg : o.guard = none) (m : Operand) (t : TypeId) (hop : o.op = Op.range t m) (k e : TypeId) (ht : P.underlying t = some (.map k e)) (b n : Nat) (f : Value → Option Value)
    (hm : a.eval m = .map (some b)) (h : MapIs P k w b n f)
    (hK : ∀ w', IterIs P k w' b w.heap.size n f n → Below w.heap.size w w' → wpList P ops Q rest (a.put o.dst (.pointer (some ⟨w.heap.size, 0, none⟩))) w') :
    wpList P ops Q (o :: rest) a w := by
  refine wpList_plain hg fun K' hK' => ?_
  obtain ⟨w', hrun, r1, r2⟩ := h.range ht
  unfold Oper.wp
  simp [execOp, hop, hm, hrun, Result.andThen]
  exact hK' _ _ (hK w' r1 r2)
/-- The step. -/
theorem wpList_next_map (hg : o.guard = none) (it : Operand) (hop : o.op = Op.next it false) (k : TypeId) (b r n : Nat) (f : Value → Option Value) (cnt : Nat) (hit : a.eval it = .pointer (some ⟨r, 0, none⟩)) (h : IterIs P k w b r n f cnt)
    (hDone : cnt = 0 → wpList P ops Q rest (a.put o.dst (.tuple #[.bool false])) w)
    (hMore : ∀ (key v : Value) (w' : World) (cnt' : Nat), f key = some v → IterIs P k w' b r n f cnt' → cnt' < cnt → w.grownBy w' (some r) →
      (Instr.entry (.pointer (some ⟨r, 0, none⟩))).run P w' = .ok (.tuple #[key, v]) w' → wpList P ops Q rest (a.put o.dst (.tuple #[.bool true, key, v])) w') :
    wpList P ops Q (o :: rest) a w := by
  refine wpList_plain hg fun K' hK' => ?_
  unfold Oper.wp
  rcases h.next o.type with ⟨h0, hrun⟩ | ⟨key, v, w', cnt', hfk, hrun, hit', hlt, hgr, hen⟩
  · simp [execOp, hop, hit, hrun, Result.andThen]
    exact hK' _ _ (hDone h0)
  · simp [execOp, hop, hit, hrun, Result.andThen]
    exact hK' _ _ (hMore key v w' cnt' hfk hit' hlt hgr hen)
end
/-- Two maps that have the same keys have as many entries. -/
theorem nodup_le {α : Type} : ∀ {l m : List α}, l.Pairwise (· ≠ ·) → (∀ x ∈ l, x ∈ m) → l.length ≤ m.length
  | [], _, _, _ => by simp
  | x :: l, m, hp, hm => by
    obtain ⟨h1, h2⟩ := List.pairwise_cons.1 hp
    obtain ⟨m1, m2, rfl⟩ := List.append_of_mem (hm x (by simp))
    have := nodup_le (l := l) (m := m1 ++ m2) h2 (fun y hy => by
      have := hm y (by simp [hy])
      simp only [List.mem_append, List.mem_cons] at this ⊢
      rcases this with h | rfl | h
      · exact .inl h
      · exact absurd rfl (h1 _ hy)
      · exact .inr h)
    simp only [List.length_append, List.length_cons] at this ⊢
    omega
theorem MapIs.keys_le {P : Program} {k : TypeId} {w w' : World} {b b' n n' : Nat} {f f' : Value → Option Value} (h : MapIs P k w b n f) (h' : MapIs P k w' b' n' f') (hk : ∀ key v, f key = some v → ∃ v', f' key = some v') : n ≤ n' := by
  obtain ⟨es, clock, hb, hs, rfl, _, hf⟩ := h
  obtain ⟨es', clock', hb', hs', rfl, _, hf'⟩ := h'
  have := nodup_le (l := es.toList.map (·.key)) (m := es'.toList.map (·.key)) (List.pairwise_map.2 ((stamped_iff es clock).1 hs).2.2) (fun key hkey => by
    obtain ⟨x, hx, rfl⟩ := List.mem_map.1 hkey
    obtain ⟨v', hv'⟩ := hk x.key x.val ((hf _ _).2 ⟨x, hx, rfl, rfl⟩)
    obtain ⟨y, hy, e, _⟩ := (hf' _ _).1 hv'
    exact List.mem_map.2 ⟨y, hy, e⟩)
  simpa using this
end Go.Proofs.YthjomnaejhehoaaGreatDoor

namespace Go.Proofs.YthjomnaejhehoaaGreatDoor
open Go.RowKit Go.MapKept Go.ChangeMaps Go.Sort Go.Shelf
open Go.Maps (Keyed)
set_option linter.unusedVariables false
set_option linter.unusedSimpArgs false

set_option maxRecDepth 100000 in
/-- A map whose keys are these, in the maps' kit's word. -/
theorem MapIs.owned {w : World} {Q nn : Nat} {f : Value → Option Value} (h : MapIs Tryz.prog 3 w Q nn f) (ks : List Nat) (hp : ks.Pairwise (· < ·)) (h10 : ∀ k ∈ ks, k < 1024)
    (h2 : ∀ key v, f key = some v → ∃ k ∈ ks, key = .int .i64 (k : Nat)) (h3 : ∀ k ∈ ks, ∃ v, f (.int .i64 (k : Nat)) = some v) :
    ∃ (nn : Nat) (D0 : DataW Unit), w.ownsMap Tryz.prog 3 (fun _ => some (.nil, [])) Q nn D0 ∧ Maps.size D0 ≤ 1024 ∧ (intKeys D0).Perm (ks.map fun (k : Nat) => (k : Int)) := by
  obtain ⟨es, clock, hb, hs, hsz, hk, hf⟩ := h
  have hkey : ∀ x ∈ es.toList, ∃ k ∈ ks, x.key = .int .i64 (k : Nat) := fun x hx => h2 x.key x.val ((hf _ _).2 ⟨x, hx, rfl, rfl⟩)
  have hnd : (es.toList.map (·.key)).Pairwise (· ≠ ·) := List.pairwise_map.2 ((stamped_iff es clock).1 hs).2.2
  have hle : es.size ≤ 1024 := by
    have := nodup_le (l := es.toList.map (·.key)) (m := (List.range 1024).map fun (k : Nat) => Value.int .i64 (k : Int)) hnd (fun y hy => by
      obtain ⟨x, hx, rfl⟩ := List.mem_map.1 hy
      obtain ⟨k, h4, h5⟩ := hkey x hx
      exact List.mem_map.2 ⟨k, List.mem_range.2 (h10 k h4), h5.symm⟩)
    simpa using this
  have hF : WideElems.Fit (H := Unit) Tryz.prog 3 (fun _ => some (.nil, [])) es clock := ⟨by unfold maxLen; omega, hs, fun x hx => by
    obtain ⟨l, hl⟩ := hk x hx
    exact ⟨(l, .nil), by unfold WideElems.rd; rw [hl]; rfl⟩⟩
  refine ⟨es.size, _, ⟨es, clock, hb, hF, Nat.le_refl _, rfl⟩, ?_, ?_⟩
  · exact Nat.le_trans (World.ownsMap.size_le ⟨es, clock, hb, hF, Nat.le_refl _, rfl⟩) hle
  · have hrg : ∀ x ∈ es.toList, ∀ k : Nat, k < 1024 → x.key = .int .i64 (k : Nat) → Go.intOf (WideElems.rg (H := Unit) Tryz.prog 3 (fun _ => some (.nil, [])) x).1 = k := fun x hx k hk hkk => by
      have e : WideElems.rd (H := Unit) Tryz.prog 3 (fun _ => some (.nil, [])) x = some (.int .i64 k, .nil) := by
        unfold WideElems.rd; rw [hkk, int_key hk]; rfl
      rw [WideElems.rg_of e]; rfl
    have hp1 := (Go.WideShapes.sorted_perm (es.toList.map (WideElems.rg (H := Unit) Tryz.prog 3 (fun _ => some (.nil, []))))).map fun p => Go.intOf p.1
    refine hp1.trans ?_
    rw [List.map_map]
    refine (List.perm_ext_iff_of_nodup ?_ ?_).2 fun y => ?_
    · refine List.pairwise_map.2 (((stamped_iff es clock).1 hs).2.2.imp_of_mem fun {x z} hx hz hne e => hne ?_)
      obtain ⟨k1, h1, e1⟩ := hkey x hx
      obtain ⟨k3, h3, e3⟩ := hkey z hz
      have a1 := hrg x hx k1 (h10 k1 h1) e1
      have a3 := hrg z hz k3 (h10 k3 h3) e3
      simp only [Function.comp_apply] at e
      rw [a1, a3] at e
      rw [e1, e3, e]
    · refine List.pairwise_map.2 (hp.imp fun {x z} hne e => ?_)
      omega
    · rw [List.mem_map, List.mem_map]
      constructor
      · rintro ⟨x, hx, rfl⟩
        obtain ⟨k1, h1, e1⟩ := hkey x hx
        refine ⟨k1, h1, ?_⟩
        rw [Function.comp_apply]
        exact (hrg x hx k1 (h10 k1 h1) e1).symm
      · rintro ⟨k1, hk1, rfl⟩
        obtain ⟨v, hv⟩ := h3 k1 hk1
        obtain ⟨x, hx, e1, _⟩ := (hf _ _).1 hv
        refine ⟨x, hx, ?_⟩
        rw [Function.comp_apply]
        exact hrg x hx k1 (h10 k1 hk1) e1
theorem nats_sorted (ks : List Nat) (hp : ks.Pairwise (· < ·)) : (ks.map fun (k : Nat) => (k : Int)).mergeSort (fun x y => decide (x ≤ y)) = ks.map fun (k : Nat) => (k : Int) := by
  have tr : ∀ a b c : Int, decide (a ≤ b) = true → decide (b ≤ c) = true → decide (a ≤ c) = true := fun a b c h1 h2 => by simp only [decide_eq_true_eq] at *; exact Int.le_trans h1 h2
  have tt : ∀ a b : Int, (decide (a ≤ b) || decide (b ≤ a)) = true := fun a b => by simp only [Bool.or_eq_true, decide_eq_true_eq]; exact Int.le_total a b
  have hL : (ks.map fun (k : Nat) => (k : Int)).Pairwise fun a b => decide (a ≤ b) = true := List.pairwise_map.2 (hp.imp fun {x z} h => decide_eq_true (by omega))
  refine List.Perm.eq_of_pairwise (le := fun a b => decide (a ≤ b) = true) (fun a b _ _ h1 h2 => ?_) (List.pairwise_mergeSort tr tt _) hL (List.mergeSort_perm _ _)
  simp only [decide_eq_true_eq] at h1 h2
  exact Int.le_antisymm h1 h2
theorem sortsA (m : Nat) : AnyZI.SortsIn Tryz.prog Tryz.sortedA_ren Fence.wide m :=
  ⟨fun blk off cap ss W hH hblk hsz => callsIn_wide.2 (AnyM.slices_Sort_int Tryz.sortA blk off cap ss W hH hblk hsz),
   fun p cap W => callsIn_wide.2 (AnyM.slices_Sort_int_none Tryz.sortA p cap W)⟩
theorem keysA_any (mb : Option Nat) (W : World) : Calls Tryz.prog 52 #[.map mb] W fun e w' => e = .returned (.func (.func 68) #[] #[.pointer (some ⟨W.heap.size, 0, none⟩)]) ∧ w' = W.alloc (.cells #[.map mb] 101) :=
  (callsIn_wide (n := 5)).1 (AnyZI.keys_in Tryz.keysA Fence.wide 5 trivial rfl mb W)
set_option maxHeartbeats 1000000 in
theorem sortedA_any {w : World} {B Q : Nat} {V : Vals} (h : ValsIs w B Q V) :
    Calls Tryz.prog 51 #[.func (.func 68) #[] #[.pointer (some ⟨w.heap.size, 0, none⟩)]] (w.alloc (.cells #[.map (some Q)] 101)) fun e w' => ∃ v, e = .returned v ∧
      w'.ownsRow (w.heap.size + 1) 3 1 v (keysOf V).length (natsV (keysOf V)) ∧ Below (w.heap.size + 1) (w.alloc (.cells #[.map (some Q)] 101)) w' := by
  have hbl : Q < w.heap.size := h.lt
  obtain ⟨f, h1, h2, h3⟩ := h
  obtain ⟨nn, D0, hown, hsz, hp⟩ := h1.owned (keysOf V) (keysOf_lt V) (fun k hk => by have := ((mem_keysOf V k).1 hk).1; omega) (fun key v hf => by
    obtain ⟨k, l, a, b, c, _⟩ := h2 key v hf
    exact ⟨k, (mem_keysOf V k).2 ⟨a, by rw [b]; rfl⟩, c⟩) (fun k hk => by
    obtain ⟨a, b⟩ := (mem_keysOf V k).1 hk
    obtain ⟨l, hl⟩ := Option.isSome_iff_exists.1 b
    exact (h3 k l hl).2)
  have hseq : SeqGives Fence.wide 2 Tryz.prog 68 #[.pointer (some ⟨w.heap.size, 0, none⟩)] encZ (fun ss => ss.Perm (intKeys D0)) (Maps.size D0) (w.alloc (.cells #[.map (some Q)] 101)) :=
    AnyZI.keys_gives (ρ := Tryz.keysA_ren) { Tryz.keysA with } Fence.wide _ trivial rfl (by omega) w.heap.size Q nn D0 _ (by simp) (by simp) (by
      obtain ⟨es, clock, hb, Ft, hs, hD⟩ := hown
      exact ⟨es, clock, (Below.heap_alloc _ _ Q hbl).trans hb, Ft, hs, hD⟩)
  have cS := AnyZI.sorted_in Tryz.sortedA Fence.wide 5 trivial trivial trivial trivial rfl (by omega) (sortsA _) (enters_of Tryz.func67 (by kernel_rfl) rfl) 68 #[.pointer (some ⟨w.heap.size, 0, none⟩)] trivial (enters_of Tryz.func68 (by kernel_rfl) rfl) _ _ (by unfold maxLen; omega) (by omega) _ hseq
  change CallsIn _ _ Tryz.prog 51 _ _ _ at cS
  refine ((callsIn_wide (n := 5)).1 cS).mono ?_
  rintro e w' ⟨v, ss, rfl, hS, hrow, _, hb⟩
  rw [World.size_alloc] at hrow hb
  have hp2 := hS.trans hp
  have e1 : ss.mergeSort (fun x y => decide (x ≤ y)) = (keysOf V).map fun (k : Nat) => (k : Int) := (mergeSort_of_perm_i hp2).trans (nats_sorted _ (keysOf_lt V))
  have e2 : ((keysOf V).map fun (k : Nat) => (k : Int)).map encZ = natsV (keysOf V) := by unfold natsV; rw [List.map_map]; rfl
  rw [e1, hp2.length_eq, List.length_map, e2] at hrow
  exact ⟨v, rfl, hrow, hb⟩
/-- Keys: those that have one, rising. -/
theorem Keys_any {w : World} {B St Bk Vb M : Nat} {l : List Nat} {c : Nat} {a : Int} {q : Nat} {V : Vals} (h : StIs w B St Bk Vb M l c a q V) :
    Calls Tryz.prog 28 #[.pointer (some ⟨St, 0, none⟩)] w fun e w' => ∃ v, e = .returned v ∧ w'.ownsRow w.heap.size 3 1 v (keysOf V).length (natsV (keysOf V)) ∧ Below w.heap.size w w' := by
  have c4 := h.cells.2.2.2.2
  have HS := Lib.hid (sortedA_any h.vals)
  have HB : Hid (Below w.heap.size w (w.alloc (.cells #[.map (some Vb)] 101))) := by unfold Hid; (repeat (first | (with_reducible refine Below.drew ?_) | (with_reducible refine below_drewN0 ?_ _) | ((with_reducible refine Below.setCell ?_ ?_ _); rotate_left; focus (first | omega | (simp; done) | (simp; omega) | (simp at *; omega))) | ((with_reducible refine Below.alloc ?_ ?_ _); rotate_left; focus (first | omega | (simp; done) | (simp; omega) | (simp at *; omega))) | (with_reducible exact Below.refl _ _)))
  clear h
  go_enter Tryz.func28, Tryz.ntmps28
  go_wp2_with fail
  refine (keysA_any _ _).mono ?_
  rintro e w1 ⟨rfl, rfl⟩
  go_wp2_with fail
  refine HS.out.mono ?_
  rintro e w2 ⟨v, rfl, hrow, hb⟩
  have HR := Lib.hid (own_mono hrow (Nat.le_succ _))
  have HB2 : Hid (Below w.heap.size w w2) := HB.out.trans (hb.mono (by omega))
  clear HS hrow hb
  go_wp2
  go_ret
  exact ⟨_, rfl, HR.out, HB2.out⟩
/-- Get: a key's value. -/
theorem Get_in {w : World} {B St Bk Vb M : Nat} {l : List Nat} {c : Nat} {a : Int} {q : Nat} {V : Vals} (h : StIs w B St Bk Vb M l c a q V) (k : Nat) (hk : k < 32) (hs : ∀ l, V k = some l → l.length ≤ 100000) :
    Calls Tryz.prog 27 #[.pointer (some ⟨St, 0, none⟩), .int .i64 k] w fun e w' => ∃ A m, e = .returned (.tuple #[.slice A (valOf V k).length m, .bool (V k).isSome]) ∧ SlIs w' w.heap.size (.slice A (valOf V k).length m) (valOf V k) ∧ Below w.heap.size w w' := by
  have c4 := h.cells.2.2.2.2
  obtain ⟨v, hv, _, hl⟩ := h.vals.look hk
  obtain ⟨A, m, rfl, _, _⟩ := own_shape hv
  have hlen : (valOf V k).length ≤ 100000 := by
    unfold valOf
    cases hV : V k with
    | none => simp
    | some l => exact hs l hV
  have HC := Lib.hid (CloneB_any A (valOf V k).length m (intsV .u8 (valOf V k)) (by unfold reachBytes; omega) w (Src.of_own hv) (intsV_one .u8 _))
  generalize (V k).isSome = b at *
  clear h hv hs
  go_enter Tryz.func27, Tryz.ntmps27
  go_wp2_with fail
  refine HC.out.mono ?_
  rintro e w1 ⟨A', m', rfl, ho, hb⟩
  have HO := Lib.hid ho
  have HB := Lib.hid hb
  clear HC ho hb
  go_wp2
  refine bodyPost_ret (v := .tuple #[.slice A' (valOf V k).length m', .bool b]) (by simp [results, Tryz.results27, go_sem]) rfl ⟨_, _, rfl, HO.out, HB.out⟩
end Go.Proofs.YthjomnaejhehoaaGreatDoor

namespace Go.Proofs.YthjomnaejhehoaaGreatDoor
open Go.RowKit Go.MapKept Go.ChangeMaps
set_option linter.unusedVariables false
set_option linter.unusedSimpArgs false

section
variable {w : World} {B M Q F L n : Nat} {P : Nat → Nat} {S : Fl} {bad : Nat → Bool} {md : Int}
theorem MedIs.below {w' : World} (h : MedIs w B M Q F L P S n bad md) (hb : Below w.heap.size w w') : MedIs w' B M Q F L P S n bad md := h.keep (Turns.of_below hb [])
theorem IsBad_in (h : MedIs w B M Q F L P S n bad md) (k : Nat) (hk : k < S.nb) : Calls Tryz.prog 48 #[.pointer (some ⟨M, 0, none⟩), .int .i64 k] w fun e w' => e = .returned (.bool (bad k)) ∧ w = w' := by
  obtain ⟨_, _, c3, _⟩ := h.cells
  have hl : (Instr.lookup 89 (.map (some Q)) (.int .i64 k) false).run Tryz.prog w = .ok (.bool (bad k)) w := h.lookN hk 0
  generalize bad k = bk at *
  clear h
  go_enter Tryz.func48, Tryz.ntmps48
  go_wp2
  go_ret
  exact ⟨rfl, rfl⟩
theorem MBytes_any (h : MedIs w B M Q F L P S n bad md) : Calls Tryz.prog 55 #[.pointer (some ⟨M, 0, none⟩)] w fun e w' => e = .returned (.int .i64 n) ∧ w = w' := by
  obtain ⟨_, c2, _, _⟩ := h.cells
  clear h
  go_enter Tryz.func55, Tryz.ntmps55
  go_wp2
  go_ret
  exact ⟨rfl, rfl⟩
end
theorem Cost_any (St : Nat) (w : World) : Calls Tryz.prog 34 #[.pointer (some ⟨St, 0, none⟩)] w fun e w' => e = .returned (.int .i64 2) ∧ w = w' := by
  go_enter Tryz.func34, Tryz.ntmps34
  go_wp2
  go_ret
  exact ⟨rfl, rfl⟩
theorem magic_text : textOf magicB = ⟨#[83, 76, 79, 84]⟩ := by kernel_rfl
theorem Is_page (g off c n q : Nat) (V : Vals) (hF : FitV n V) (hn : n ≤ 512) (hnc : n ≤ c) (w : World) (hc : Cells8 w (some ⟨g, off, none⟩) (pageB n q V)) :
    Calls Tryz.prog 80 #[.slice (some ⟨g, off, none⟩) n c] w fun e w' => e = .returned (.bool true) ∧ w = w' := by
  have hl := pageB_length q hF
  have h16 : 16 ≤ n := by unfold FitV at hF; omega
  have hc4 : Cells8 w (some ⟨g, off, none⟩) magicB := by
    have := hc.take 4
    rwa [headB_magic] at this
  have hcv := conv_text (c := c) hc4
  rw [magic_text] at hcv
  have hcv' : (convert 22 9 (.slice (some ⟨g, off, none⟩) 4 c)).run Tryz.prog w = .ok (.string ⟨#[83, 76, 79, 84]⟩) w := hcv
  have h14 : (14 : Int) ≤ n := by omega
  have h4c : (4 : Int) ≤ c := by omega
  clear hcv hc4 hc hF hl
  go_enter Tryz.func80, Tryz.ntmps80
  go_wp2
  go_ret
  exact ⟨by first | rfl | simp, rfl⟩
theorem gw_page {n q : Nat} {V : Vals} : ∀ k, k ≤ 8 → gw ((pageB n q V).drop 4) k = q % 2 ^ (8 * k)
  | 0, _ => by simp [gw, Nat.mod_one]
  | k + 1, hk => by
    have hb : ∀ i, i < 8 → ((pageB n q V).drop 4).getD i 0 = q / 2 ^ (8 * i) % 256 := fun i hi => by
      rw [List.getD_eq_getElem?_getD, List.getElem?_drop, ← List.getD_eq_getElem?_getD, pageB_get n q V (4 + i) (by omega), headB_seq q V i hi]
    have ih := gw_page (n := n) (q := q) (V := V) k (by omega)
    have hlt : gw ((pageB n q V).drop 4) k < 2 ^ (8 * k) := by rw [ih]; exact Nat.mod_lt _ (Nat.two_pow_pos _)
    rw [gw, hb k (by omega), ih, Nat.or_comm, Nat.mul_comm, ← Nat.two_pow_add_eq_or_of_lt (by rw [← ih]; exact hlt), Nat.add_comm]
    rw [show 8 * (k + 1) = 8 * k + 8 by omega, Nat.pow_add, Nat.mod_mul]
theorem pageB_at {n q : Nat} {V : Vals} {j : Nat} (hj : j < (keysOf V).length) (i : Nat) (hi : i < 3 + (valOf V ((keysOf V).getD j 0)).length) :
    (pageB n q V).getD (14 + (recsB V ((keysOf V).take j)).length + i) 0 = (recB V ((keysOf V).getD j 0)).getD i 0 := by
  obtain ⟨rest, hr⟩ := pageB_drop n q V j hj
  have h1 : (pageB n q V).getD (14 + (recsB V ((keysOf V).take j)).length + i) 0 = ((pageB n q V).drop (14 + (recsB V ((keysOf V).take j)).length)).getD i 0 := by
    rw [List.getD_eq_getElem?_getD, List.getD_eq_getElem?_getD, List.getElem?_drop]
  have hl : i < (recB V ((keysOf V).getD j 0)).length := by rw [recB_length]; exact hi
  rw [h1, hr]
  generalize recB V ((keysOf V).getD j 0) = rb at *
  rw [List.getD_eq_getElem?_getD, List.getD_eq_getElem?_getD, List.getElem?_append_left hl]
theorem i64_or_nat (a b : Nat) (ha : a < 9223372036854775808) (hb : b < 9223372036854775808) : bits .or .i64 (a : Int) (b : Int) = ((a ||| b : Nat) : Int) := by
  have hx : a ||| b < 2 ^ 63 := Nat.or_lt_two_pow (by omega) (by omega)
  show IntKind.i64.wrap ((BitVec.ofInt 64 (a : Int) ||| BitVec.ofInt 64 (b : Int)).toNat : Int) = _
  rw [BitVec.toNat_or, ofInt_u64 a (by omega), ofInt_u64 b (by omega)]
  rw [IntKind.wrap_i64]; omega
theorem or_len (a b x : Nat) (ha : a = x % 256) (hb : b = x / 256 % 256) (hx : x < 65536) : bits .or .i64 (a : Int) ((b : Int) * 256) = (x : Int) := by
  have h := i64_or_nat a (b * 256) (by omega) (by omega)
  rw [Nat.or_comm, nat_join 8 (b * 256) a (by omega) (by omega)] at h
  have e : ((b * 256 : Nat) : Int) = (b : Int) * 256 := by omega
  have e2 : b * 256 + a = x := by omega
  rw [← e, h, e2]
set_option maxRecDepth 100000 in
set_option maxHeartbeats 4000000 in
theorem parse_page (g c n q : Nat) (V : Vals) (hV : OkV V) (hF : FitV n V) (hn : n ≤ 512) (hnc : n ≤ c) (hq : q < 9223372036854775808) (w : World) (hc : Cells8 w (some ⟨g, 0, none⟩) (pageB n q V)) :
    Calls Tryz.prog 65 #[.slice (some ⟨g, 0, none⟩) n c] w fun e w' => ∃ Vb, e = .returned (.tuple #[.int .u64 q, .map (some Vb), .bool true]) ∧ ValsIs w' w.heap.size Vb V ∧ w.heap.size ≤ Vb ∧ Below w.heap.size w w' := by
  have hl := pageB_length q hF
  have h16 : 16 ≤ n := by unfold FitV at hF; omega
  have HIs := Lib.hid (Is_page g 0 c n q V hF hn hnc w hc)
  have HC := Lib.hid hc
  have HL := Lib.hid hl
  have hb := getD_lt (pageB_lt (n := n) q hV)
  have HBy := Lib.hid hb
  have hb4 : ∀ k, ((pageB n q V).drop 4).getD k 0 < 256 := fun k => by rw [List.getD_eq_getElem?_getD, List.getElem?_drop, ← List.getD_eq_getElem?_getD]; exact hb _
  have HG : Hid (∀ k, k ≤ 8 → gw ((pageB n q V).drop 4) k < 18446744073709551616) := fun k hk => Nat.lt_of_lt_of_le (gw_lt _ hb4 k) (by
    have := Nat.pow_le_pow_right (n := 2) (by omega) (show 8 * k ≤ 64 by omega)
    simpa using this)
  have HR : Hid (gw ((pageB n q V).drop 4) 8 = q) := by
    unfold Hid
    rw [gw_page 8 (by omega), Nat.mod_eq_of_lt (by omega)]
  have HFull := Lib.hid hF
  have HVo := Lib.hid hV
  have hcnt : (keysOf V).length ≤ 32 := keysOf_len V
  have hmm := @run_makeMap Tryz.prog
  clear hc hl hb hb4 hF hV
  go_enter Tryz.func65, Tryz.ntmps65
  go_wp2_with fail
  refine HIs.out.mono ?_
  rintro e w' ⟨rfl, rfl⟩
  clear HIs
  go_wp2
  go_loop [5, 13] (fun v i => ∃ k : Nat, k ≤ 8 ∧ i = .int .i64 k ∧ v = .int .u64 (gw ((pageB n q V).drop 4) k : Nat)) (fun _ i => 8 - (intOf i).toNat)
  case atStart => exact ⟨0, by omega, rfl, rfl⟩
  case round =>
    obtain ⟨k, hk, rfl, rfl⟩ := hrel
    by_cases hlt : k < 8
    · have hcell := HC.out.at0 (4 + k) (by rw [HL.out]; omega)
      rw [Nat.zero_add] at hcell
      have hx := HBy.out (4 + k)
      have hgk := HG.out k (by omega)
      have hS : gw ((pageB n q V).drop 4) (k + 1) = gw ((pageB n q V).drop 4) k ||| ((pageB n q V).getD (4 + k) 0 * 2 ^ (8 * k)) := by
        rw [gw, List.getD_eq_getElem?_getD, List.getElem?_drop, ← List.getD_eq_getElem?_getD]
      have HS := Lib.hid hS
      generalize (pageB n q V).getD (4 + k) 0 = x at *
      have hkn : 4 + k < n := by omega
      obtain ⟨p, hp⟩ : ∃ p : Nat, p = x * 2 ^ (8 * k) := ⟨_, rfl⟩
      have hp64 : p < 18446744073709551616 := by
        rw [hp]
        have h1 : x * 2 ^ (8 * k) < 2 ^ 8 * 2 ^ (8 * k) := Nat.mul_lt_mul_of_pos_right hx (Nat.two_pow_pos _)
        rw [← pow_split] at h1
        have h2 := Nat.pow_le_pow_right (n := 2) (by omega) (show 8 + 8 * k ≤ 64 by omega)
        have : (2 : Nat) ^ 64 = 18446744073709551616 := by decide
        omega
      have hw8 : IntKind.i64.wrap (8 * (k : Int)) = ((8 * k : Nat) : Int) := by rw [IntKind.wrap_i64]; omega
      have hor := bits_or_u64_nat (gw ((pageB n q V).drop 4) k) p hgk hp64
      rw [← hp] at HS
      clear hS
      generalize gw ((pageB n q V).drop 4) k = a at *
      have hwp : IntKind.u64.wrap ((x : Int) * 2 ^ (8 * k)) = (p : Int) := by
        rw [IntKind.wrap_u64, hp]
        rw [hp] at hp64
        have : ((x * 2 ^ (8 * k) : Nat) : Int) = (x : Int) * 2 ^ (8 * k) := by simp
        rw [← this]; omega
      have HWp := Lib.hid hwp
      clear hp hwp
      go_wp2
      go_round
      case rel => exact ⟨k + 1, by omega, by go_num, by rw [HWp.out, hor, HS.out]⟩
      case measure => simp [intOf]; omega
    · obtain rfl : k = 8 := by omega
      rw [HR.out]
      have h12 := HC.out.at0 12 (by rw [HL.out]; omega)
      rw [pageB_get n q V 12 (by omega), headB_count, Nat.zero_add] at h12
      have HF0 : Hid (ValsIs (w.alloc (.map #[] 0)) w.heap.size w.heap.size (firstV V 0)) := by unfold Hid; rw [firstV_zero]; exact ValsIs.fresh w _
      have HB0 : Hid (Below w.heap.size w (w.alloc (.map #[] 0))) := by unfold Hid; (repeat (first | (with_reducible refine Below.drew ?_) | (with_reducible refine below_drewN0 ?_ _) | ((with_reducible refine Below.setCell ?_ ?_ _); rotate_left; focus (first | omega | (simp; done) | (simp; omega) | (simp at *; omega))) | ((with_reducible refine Below.alloc ?_ ?_ _); rotate_left; focus (first | omega | (simp; done) | (simp; omega) | (simp at *; omega))) | (with_reducible exact Below.refl _ _)))
      have hc14 : 14 < c := by omega
      have h12' := keep_below HB0.out _ _ h12
      go_wp2
      go_loopw [0, 36] (fun v i wr => ∃ j : Nat, j ≤ (keysOf V).length ∧ i = .int .i64 j ∧ v = .slice (some ⟨g, 14 + (recsB V ((keysOf V).take j)).length, none⟩) (n - (14 + (recsB V ((keysOf V).take j)).length)) (c - (14 + (recsB V ((keysOf V).take j)).length)) ∧ ValsIs wr w.heap.size w.heap.size (firstV V j) ∧ Below w.heap.size w wr) (fun _ i _ => (keysOf V).length - (intOf i).toNat)
      case atStart => exact ⟨0, by omega, rfl, rfl, HF0.out, HB0.out⟩
      case round =>
        obtain ⟨j, hj, rfl, rfl, hv, hb⟩ := hrel
        have HVr := Lib.hid hv
        have HBr := Lib.hid hb
        clear hv hb HF0 HB0 h12 h12'
        by_cases hjn : j < (keysOf V).length
        · obtain ⟨k, hk0⟩ : ∃ k, k = (keysOf V).getD j 0 := ⟨_, rfl⟩
          obtain ⟨ln, hln⟩ : ∃ ln, ln = (valOf V k).length := ⟨_, rfl⟩
          obtain ⟨p, hp⟩ : ∃ p, p = 14 + (recsB V ((keysOf V).take j)).length := ⟨_, rfl⟩
          have HK := Lib.hid hk0
          have HLn := Lib.hid hln
          have HPp := Lib.hid hp
          have hk32 : k < 32 := by rw [hk0]; exact (keysOf_at V j hjn).1
          have hpn : p + 3 + ln + 2 ≤ n := by
            have h1 := recsB_take_succ V j hjn
            have h2 := recsB_take_le V (j + 1)
            rw [recsB_length V (keysOf V), ← lenV] at h2
            have h3 := HFull.out
            unfold FitV at h3
            rw [← hk0, ← hln] at h1
            omega
          have HAt : Hid (∀ i, i < 3 + ln → (pageB n q V).getD (p + i) 0 = (recB V k).getD i 0) := fun i hi => by rw [hp, hk0]; exact pageB_at hjn i (by rw [← hk0, ← hln]; exact hi)
          have hcw : ∀ i, i < 3 + ln → wr.cell? ⟨g, p + i, none⟩ = some (.int .u8 ((recB V k).getD i 0 : Nat)) := fun i hi => by
            have := keep_below HBr.out _ _ (HC.out.at0 (p + i) (by rw [HL.out]; omega))
            rwa [HAt.out i hi, Nat.zero_add] at this
          have q0 : wr.cell? ⟨g, p, none⟩ = some (.int .u8 (k : Nat)) := hcw 0 (by omega)
          have q1 : wr.cell? ⟨g, p + 1, none⟩ = some (.int .u8 ((ln % 256 : Nat) : Nat)) := by rw [hln]; exact hcw 1 (by omega)
          have q2 : wr.cell? ⟨g, p + 2, none⟩ = some (.int .u8 ((ln / 256 % 256 : Nat) : Nat)) := by rw [hln]; exact hcw 2 (by omega)
          have HDat : Hid (Cells8 wr (some ⟨g, p + 3, none⟩) (valOf V k)) := fun i hi => ⟨g, p + 3, rfl, by
            have := hcw (3 + i) (by omega)
            rw [← Nat.add_assoc] at this
            rw [this, Nat.add_comm 3 i]
            rfl⟩
          have HNx : Hid (14 + (recsB V ((keysOf V).take (j + 1))).length = p + (ln + 3)) := by unfold Hid; rw [recsB_take_succ V j hjn, ← hk0, ← hln, hp]; omega
          rw [← hp]
          obtain ⟨m, hm⟩ : ∃ m, m = n - p := ⟨_, rfl⟩
          obtain ⟨mc, hmc⟩ : ∃ mc, mc = c - p := ⟨_, rfl⟩
          rw [← hm, ← hmc]
          have hm1 : 3 + ln + 2 ≤ m ∧ m ≤ 512 ∧ m ≤ mc := by omega
          have HM := Lib.hid (And.intro hm hmc)
          have hln2 : ln < 65536 := by omega
          obtain ⟨lo, hlo⟩ : ∃ lo, lo = ln % 256 := ⟨_, rfl⟩
          obtain ⟨hi, hhi⟩ : ∃ hi, hi = ln / 256 % 256 := ⟨_, rfl⟩
          rw [← hlo] at q1
          rw [← hhi] at q2
          have hlo2 : lo < 256 := by omega
          have hhi2 : hi < 256 := by omega
          have HOr := Lib.hid (or_len lo hi ln hlo hhi hln2)
          obtain ⟨hm1, hm2, hm3⟩ := hm1
          clear hk0 hln hp hm hmc hcw hlo hhi hc14 hlt
          have hor := HOr.out
          have hm3 : decide ((m : Int) < 3) = false := by simp; omega
          go_wp2
          go_quiet (fail)
          clear hor q1 q2
          have hwr : IntKind.i64.wrap (3 + (ln : Int)) = ((ln + 3 : Nat) : Int) := by rw [IntKind.wrap_i64]; omega
          have hwm : IntKind.i64.wrap ((m : Int) - 3) = (m : Int) - 3 := by rw [IntKind.wrap_i64]; omega
          have hgl : ¬ (ln : Int) > (m : Int) - 3 := by omega
          have hgV : g ∉ [w.heap.size] := by
            have := World.block_lt_of_cell? w _ (HC.out.at0 0 (by rw [HL.out]; omega))
            simp at this ⊢; omega
          have k0 : ∀ t : Kept (wr.drewN nq) [w.heap.size], t.u.cell? ⟨g, p, none⟩ = some (.int .u8 (k : Nat)) := fun t => t.h.cell (show (wr.drewN nq).cell? _ = _ from q0) hgV
          go_wp2
          (refine region_kept ([w.heap.size]) [0, 1, 2, 3, 4, 5, 6, 7, 8] [9, 10] (by kernel_rfl) (by kernel_rfl) (fun _ _ _ _ _ h => h) ?_; simp only [List.filterMap_cons, List.getElem?_cons_zero, List.getElem?_cons_succ, List.filterMap_nil]; (repeat ((show wpQuiet _ _ _ _ (_ :: _) _); go_big_quiet_step (fail))); refine wpQuiet_nil ?_)
          clear k0
          refine wpSeqS_step ?_
          have hs4 : Src (wr.drewN nq).drew 1 (some ⟨g, p + 3, none⟩) ln (intsV .u8 (valOf V k)) := by rw [HLn.out]; exact Src.bytes HDat.out
          go_wp2_with fail
          refine (CloneB_any (some ⟨g, p + 3, none⟩) ln (mc - 3) (intsV .u8 (valOf V k)) (by unfold reachBytes; omega) _ hs4 (intsV_one .u8 _)).mono ?_
          rintro e w4 ⟨A', c', rfl, ho4, hb4⟩
          have hBz := HBr.out.size
          have hb4' : Below wr.heap.size wr w4 := (below_drewN0 (Below.refl wr.heap.size wr) nq).drew.trans hb4
          have hsl : SlIs w4 w.heap.size (.slice A' ln c') (valOf V k) := by
            unfold SlIs
            rw [← HLn.out]
            exact own_mono ho4 hBz
          obtain ⟨w5, hr5, hv5, ht5⟩ := (HVr.out.below hb4').set hk32 hsl
          have HV5 : Hid (ValsIs w5 w.heap.size w.heap.size (firstV V (j + 1))) := by unfold Hid; rw [firstV_succ V j hjn, ← HK.out]; exact hv5
          have HT5 := Lib.hid ht5
          have HB4 := Lib.hid hb4'
          have HT4 : Hid (Turns (wr.drewN nq) w4 [w.heap.size]) := Turns.of_below ((Below.refl _ _).drew.trans hb4) _
          have HB5 : Hid (Below w.heap.size w w5) := ht5.below (HBr.out.trans (hb4'.mono hBz)) (Nat.le_trans hBz hb4'.size) (by simp)
          clear hs4 ho4 hb4 hb4' hsl hv5 ht5 HVr HBr
          go_wp2_with fail
          refine outQ_normal HT4.out ?_
          refine wpSeqS_last ?_
          go_wp2
          have e1 : n - (p + (ln + 3)) = m - (ln + 3) := by have := HM.out; omega
          have e2 : c - (p + (ln + 3)) = mc - (ln + 3) := by have := HM.out; omega
          go_roundw
          case rel => exact ⟨j + 1, by omega, by go_num, by rw [HNx.out, e1, e2], HV5.out, HB5.out⟩
          case measure => simp [intOf]; omega
        · obtain rfl : j = (keysOf V).length := by omega
          have hv := HVr.out
          rw [firstV_all HVo.out (Nat.le_refl _)] at hv
          have HV := Lib.hid hv
          clear hv HVr
          go_wp2
          refine bodyPost_ret (v := .tuple #[.int .u64 q, .map (some w.heap.size), .bool true]) (by simp [results, Tryz.results65, go_sem]) rfl ⟨_, rfl, HV.out, Nat.le_refl _, HBr.out⟩
end Go.Proofs.YthjomnaejhehoaaGreatDoor
