/- crash: a map of ints to true; its keys, sorted. -/
import Derived.Test.YtomigaldomiefaaCrShelf
namespace Go.Proofs.Ytomigaldomiefaa
open Go.RowKit Go.MapKept Go.ChangeMaps Go.Sort Go.Shelf
open Go.Maps (Keyed)
set_option linter.unusedVariables false
set_option linter.unusedSimpArgs false

theorem intKeyed : Keyed Try.prog 3 := Go.Maps.int_keyed Try.underlying3
theorem seen_under : Try.prog.underlying 88 = some (.map 3 4) := Try.underlying88
theorem int_key {k : Nat} (h : k < 4294967296) : keyOf Try.prog 3 (.int .i64 (k : Nat)) = some (.int .i64 (k : Nat)) := Go.Maps.keyOf_int_mk Try.underlying3 (WalkArith.wf_i64 (by omega))
/-- Ints that were seen, as a map. -/
def SeenIs (w : World) (Q nb : Nat) (bad : Nat → Bool) : Prop :=
  ∃ n f, MapIs Try.prog 3 w Q n f ∧ ∀ key v, f key = some v ↔ ∃ k : Nat, k < nb ∧ bad k = true ∧ key = .int .i64 k ∧ v = .bool true
def setSeen (bad : Nat → Bool) (k : Nat) : Nat → Bool := fun i => i == k || bad i
section
variable {w w' : World} {Q nb : Nat} {bad : Nat → Bool}
theorem SeenIs.lt (h : SeenIs w Q nb bad) : Q < w.heap.size := by obtain ⟨n, f, h, _⟩ := h; exact h.lt
theorem SeenIs.turns {T : List Nat} (h : SeenIs w Q nb bad) (ht : Turns w w' T) (hb : Q ∉ T) : SeenIs w' Q nb bad := by obtain ⟨n, f, h, h2⟩ := h; exact ⟨n, f, h.turns ht hb, h2⟩
theorem SeenIs.not_row (h : SeenIs w Q nb bad) (t : TypeId) (cs : Array Value) : ¬ Row w Q t cs := by
  obtain ⟨n, f, ⟨es, clock, hb, _⟩, _⟩ := h
  intro hr
  unfold Row at hr
  rw [hr] at hb; cases hb
theorem SeenIs.fresh (w : World) (nb : Nat) : SeenIs (w.alloc (.map #[] 0)) w.heap.size nb (fun _ => false) := ⟨_, _, MapIs.fresh _ _ w, by simp⟩
theorem SeenIs.look (h : SeenIs w Q nb bad) (hn : nb < 4294967296) {k : Nat} (hk : k < nb) : (Instr.lookup 88 (.map (some Q)) (.int .i64 k) false).run Try.prog w = .ok (.bool (bad k)) w := by
  obtain ⟨n, f, h, h2⟩ := h
  rw [(h.look intKeyed seen_under (zero_bool w) (int_key (by omega))).1]
  cases hb : bad k with
  | true => rw [(h2 (.int .i64 k) (.bool true)).2 ⟨k, hk, hb, rfl, rfl⟩]; rfl
  | false =>
    cases hf : f (.int .i64 k) with
    | none => rfl
    | some v =>
      obtain ⟨k', _, h3, h4, _⟩ := (h2 _ _).1 hf
      injection h4 with _ h4
      obtain rfl : k = k' := by omega
      rw [hb] at h3; cases h3
theorem SeenIs.set (h : SeenIs w Q nb bad) (hn : nb < 4294967296) {k : Nat} (hk : k < nb) :
    ∃ w', (Instr.mapUpdate 88 (.map (some Q)) (.int .i64 k) (.bool true)).run Try.prog w = .ok () w' ∧ SeenIs w' Q nb (setSeen bad k) ∧ Turns w w' [Q] := by
  obtain ⟨n, f, h, h2⟩ := h
  obtain ⟨w', hr, hm, hg⟩ := h.update (val := .bool true) intKeyed seen_under (int_key (k := k) (by omega))
  refine ⟨w', hr, ⟨_, _, hm, fun key v => ?_⟩, Turns.of_grown hg⟩
  by_cases he : key = .int .i64 k
  · subst he
    rw [updK_same]
    constructor
    · rintro h; injection h with h; exact ⟨k, hk, by simp [setSeen], rfl, h.symm⟩
    · rintro ⟨k', _, _, _, rfl⟩; rfl
  · rw [updK_ne _ _ _ he, h2]
    constructor
    · rintro ⟨k', h1, h3, h4, h5⟩
      exact ⟨k', h1, by simp [setSeen, h3], h4, h5⟩
    · rintro ⟨k', h1, h3, rfl, h5⟩
      have : k' ≠ k := fun e => he (by rw [e])
      exact ⟨k', h1, by simpa [setSeen, this] using h3, rfl, h5⟩
end
/-- They, in order. -/
def seenL (nb : Nat) (bad : Nat → Bool) : List Int := ((List.range nb).filter bad).map fun (k : Nat) => (k : Int)
set_option maxRecDepth 100000 in
theorem SeenIs.owned {w : World} {Q nb : Nat} {bad : Nat → Bool} (h : SeenIs w Q nb bad) (hn : nb < 4294967296) :
    ∃ (nn : Nat) (D0 : DataW Unit), w.ownsMap Try.prog 3 (fun _ => some (.nil, [])) Q nn D0 ∧ Maps.size D0 ≤ nb ∧ (intKeys D0).Perm (seenL nb bad) := by
  obtain ⟨n, f, ⟨es, clock, hb, hs, hsz, hk, hf⟩, h2⟩ := h
  have hkey : ∀ x ∈ es.toList, ∃ k : Nat, k < nb ∧ bad k = true ∧ x.key = .int .i64 k := fun x hx => by
    obtain ⟨k, h3, h4, h5, _⟩ := (h2 x.key x.val).1 ((hf _ _).2 ⟨x, hx, rfl, rfl⟩)
    exact ⟨k, h3, h4, h5⟩
  have hnd : (es.toList.map (·.key)).Pairwise (· ≠ ·) := List.pairwise_map.2 ((stamped_iff es clock).1 hs).2.2
  have hle : es.size ≤ nb := by
    have := nodup_le (l := es.toList.map (·.key)) (m := (List.range nb).map fun (k : Nat) => Value.int .i64 (k : Int)) hnd (fun y hy => by
      obtain ⟨x, hx, rfl⟩ := List.mem_map.1 hy
      obtain ⟨k, h3, _, h5⟩ := hkey x hx
      exact List.mem_map.2 ⟨k, List.mem_range.2 h3, h5.symm⟩)
    simpa using this
  have hF : WideElems.Fit (H := Unit) Try.prog 3 (fun _ => some (.nil, [])) es clock := ⟨by unfold maxLen; omega, hs, fun x hx => by
    obtain ⟨l, hl⟩ := hk x hx
    exact ⟨(l, .nil), by unfold WideElems.rd; rw [hl]; rfl⟩⟩
  refine ⟨es.size, _, ⟨es, clock, hb, hF, Nat.le_refl _, rfl⟩, ?_, ?_⟩
  · exact Nat.le_trans (World.ownsMap.size_le ⟨es, clock, hb, hF, Nat.le_refl _, rfl⟩) hle
  · have hrg : ∀ x ∈ es.toList, ∀ k : Nat, k < nb → x.key = .int .i64 k → Go.intOf (WideElems.rg (H := Unit) Try.prog 3 (fun _ => some (.nil, [])) x).1 = k := fun x hx k hk hkk => by
      have e : WideElems.rd (H := Unit) Try.prog 3 (fun _ => some (.nil, [])) x = some (.int .i64 k, .nil) := by
        unfold WideElems.rd; rw [hkk, int_key (by omega)]; rfl
      rw [WideElems.rg_of e]; rfl
    have hp1 := (Go.WideShapes.sorted_perm (es.toList.map (WideElems.rg (H := Unit) Try.prog 3 (fun _ => some (.nil, []))))).map fun p => Go.intOf p.1
    refine hp1.trans ?_
    rw [List.map_map]
    refine (List.perm_ext_iff_of_nodup ?_ ?_).2 fun y => ?_
    · refine List.pairwise_map.2 (((stamped_iff es clock).1 hs).2.2.imp_of_mem fun {x z} hx hz hne e => hne ?_)
      obtain ⟨k1, h1, _, e1⟩ := hkey x hx
      obtain ⟨k3, h3, _, e3⟩ := hkey z hz
      have a1 := hrg x hx k1 h1 e1
      have a3 := hrg z hz k3 h3 e3
      simp only [Function.comp_apply] at e
      rw [a1, a3] at e
      rw [e1, e3, e]
    · refine List.pairwise_map.2 ((List.nodup_range.filter bad).imp fun {x z} hne e => hne ?_)
      omega
    · rw [List.mem_map]
      unfold seenL
      rw [List.mem_map]
      constructor
      · rintro ⟨x, hx, rfl⟩
        obtain ⟨k1, h1, hb1, e1⟩ := hkey x hx
        refine ⟨k1, List.mem_filter.2 ⟨List.mem_range.2 h1, hb1⟩, ?_⟩
        rw [Function.comp_apply]
        exact (hrg x hx k1 h1 e1).symm
      · rintro ⟨k1, hk1, rfl⟩
        obtain ⟨h1, hb1⟩ := List.mem_filter.1 hk1
        rw [List.mem_range] at h1
        obtain ⟨x, hx, e1, _⟩ := (hf _ _).1 ((h2 (.int .i64 k1) (.bool true)).2 ⟨k1, h1, hb1, rfl, rfl⟩)
        refine ⟨x, hx, ?_⟩
        rw [Function.comp_apply]
        exact hrg x hx k1 h1 e1
theorem seenL_sorted (nb : Nat) (bad : Nat → Bool) : (seenL nb bad).mergeSort (fun x y => decide (x ≤ y)) = seenL nb bad := by
  have tr : ∀ a b c : Int, decide (a ≤ b) = true → decide (b ≤ c) = true → decide (a ≤ c) = true := fun a b c h1 h2 => by simp only [decide_eq_true_eq] at *; exact Int.le_trans h1 h2
  have tt : ∀ a b : Int, (decide (a ≤ b) || decide (b ≤ a)) = true := fun a b => by simp only [Bool.or_eq_true, decide_eq_true_eq]; exact Int.le_total a b
  have hL : (seenL nb bad).Pairwise fun a b => decide (a ≤ b) = true := List.pairwise_map.2 ((List.pairwise_lt_range.filter bad).imp fun {x z} h => decide_eq_true (by omega))
  refine List.Perm.eq_of_pairwise (le := fun a b => decide (a ≤ b) = true) (fun a b _ _ h1 h2 => ?_) (List.pairwise_mergeSort tr tt _) hL (List.mergeSort_perm _ _)
  simp only [decide_eq_true_eq] at h1 h2
  exact Int.le_antisymm h1 h2

theorem sortsA (m : Nat) : AnyZI.SortsIn Try.prog Try.sortedA_ren Fence.wide m :=
  ⟨fun blk off cap ss W hH hblk hsz => callsIn_wide.2 (AnyM.slices_Sort_int Try.sortA blk off cap ss W hH hblk hsz),
   fun p cap W => callsIn_wide.2 (AnyM.slices_Sort_int_none Try.sortA p cap W)⟩
theorem keysA_any (mb : Option Nat) (W : World) : Calls Try.prog 52 #[.map mb] W fun e w' => e = .returned (.func (.func 68) #[] #[.pointer (some ⟨W.heap.size, 0, none⟩)]) ∧ w' = W.alloc (.cells #[.map mb] 88) :=
  (callsIn_wide (n := 5)).1 (AnyZI.keys_in Try.keysA Fence.wide 5 trivial rfl mb W)
set_option maxHeartbeats 1000000 in
theorem sortedA_any {Q nb : Nat} {bad : Nat → Bool} (w : World) (h : SeenIs w Q nb bad) (hn : nb < 4294967296) :
    Calls Try.prog 51 #[.func (.func 68) #[] #[.pointer (some ⟨w.heap.size, 0, none⟩)]] (w.alloc (.cells #[.map (some Q)] 88)) fun e w' => ∃ v, e = .returned v ∧
      w'.ownsRow (w.heap.size + 1) 3 1 v (seenL nb bad).length ((seenL nb bad).map encZ) ∧ Below (w.heap.size + 1) (w.alloc (.cells #[.map (some Q)] 88)) w' := by
  obtain ⟨nn, D0, hown, hsz, hp⟩ := h.owned hn
  have hbl := h.lt
  have hseq : SeqGives Fence.wide 2 Try.prog 68 #[.pointer (some ⟨w.heap.size, 0, none⟩)] encZ (fun ss => ss.Perm (intKeys D0)) (Maps.size D0) (w.alloc (.cells #[.map (some Q)] 88)) :=
    AnyZI.keys_gives (ρ := Try.keysA_ren) { Try.keysA with } Fence.wide _ trivial rfl (by omega) w.heap.size Q nn D0 _ (by simp) (by simp) (by
      obtain ⟨es, clock, hb, Ft, hs, hD⟩ := hown
      exact ⟨es, clock, (Below.heap_alloc _ _ Q hbl).trans hb, Ft, hs, hD⟩)
  have cS := AnyZI.sorted_in Try.sortedA Fence.wide 5 trivial trivial trivial trivial rfl (by omega) (sortsA _) (enters_of Try.func67 (by kernel_rfl) rfl) 68 #[.pointer (some ⟨w.heap.size, 0, none⟩)] trivial (enters_of Try.func68 (by kernel_rfl) rfl) _ _ (by unfold maxLen; omega) (by omega) _ hseq
  change CallsIn _ _ Try.prog 51 _ _ _ at cS
  refine ((callsIn_wide (n := 5)).1 cS).mono ?_
  rintro e w' ⟨v, ss, rfl, hS, hrow, _, hb⟩
  rw [World.size_alloc] at hrow hb
  have hp2 := hS.trans hp
  have e1 : ss.mergeSort (fun x y => decide (x ≤ y)) = seenL nb bad := (mergeSort_of_perm_i hp2).trans (seenL_sorted _ _)
  rw [e1, hp2.length_eq] at hrow
  exact ⟨v, rfl, hrow, hb⟩
end Go.Proofs.Ytomigaldomiefaa
