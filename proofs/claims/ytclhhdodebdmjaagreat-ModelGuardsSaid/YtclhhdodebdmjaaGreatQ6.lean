/- What follows is laid together from several texts of mine, in their order. -/
import Derived.Test.YtclhhdodebdmjaaGreatQ3
import Derived.Test.YtclhhdodebdmjaaGreatQ5
import Derived.Test.YtclhhdodebdmjaaGreatQ2
import Derived.Deep.OwnRows

namespace Go.Proofs.YtclhhdodebdmjaaGreat
open Go.RowKit Go.MapKept Go.ChangeMaps
open Go.Maps (Keyed)
attribute [local go_sem] Oper.semAt_some
set_option linter.unusedVariables false
set_option linter.unusedSimpArgs false
set_option maxRecDepth 100000
theorem wide_fn (id : FuncId) : Fence.wide.fn id := trivial
attribute [local simp, local go_sem] wide_fn

theorem laidOut0 : laidOutB Tryz.prog = true := by kernel_rfl
abbrev atV (s i : Int) : Value := .agg #[.int .i64 s, .int .i64 i]
abbrev wayV (x : Int × Int × Int) : Value := .agg #[.int .i64 x.1, .int .i64 x.2.1, .int .i64 x.2.2]
theorem at_wide : (match Tryz.prog.underlying 298 with | some (.array _ _) | some (.struct _) => true | _ => false) = true := by kernel_rfl
theorem at_row : (298 : TypeId) < Tryz.prog.types.size := of_decide_eq_true (by kernel_rfl)
theorem at_keyed : Keyed Tryz.prog 298 := Keyed.of_law (deep_law_laid laidOut0 (m := 2) (by omega) at_row (by kernel_rfl) at_wide)
theorem at_under : Tryz.prog.underlying 295 = some (.map 298 293) := Tryz.underlying295
theorem zero_way (w : World) : (zeroValue 293).run Tryz.prog w = .ok (wayV (0, 0, 0)) w := by kernel_rfl
def W64 (a : Int) : Prop := (Lit.int .i64 a).wf = true
theorem W64.iff (a : Int) : W64 a ↔ -9223372036854775808 ≤ a ∧ a ≤ 9223372036854775807 := by
  simp [W64, Lit.wf, IntKind.min, IntKind.max, IntKind.signed, IntKind.bits]
theorem keyOf_two {P : Program} {k e : TypeId} {f0 f1 : Field} (hu : P.underlying k = some (.struct #[f0, f1])) (he : P.underlying e = some (.int .i64)) (hk : P.keyType k = true) (hc : P.cellsOf k = 2) (hce : P.cellsOf e = 1)
    (h0 : f0.type = e ∧ f0.offset = 0 ∧ (f0.name != "_") = true) (h1 : f1.type = e ∧ f1.offset = 1 ∧ (f1.name != "_") = true) (hsz : 0 < P.types.size) {a s : Int} (ha : W64 a) (hs : W64 s) :
    keyOf P k (atV a s) = some (.string (keyBytes [.int .i64 a, .int .i64 s])) := by
  obtain ⟨m, hm⟩ : ∃ m, P.types.size = m + 1 := ⟨P.types.size - 1, by omega⟩
  unfold W64 at ha hs
  obtain ⟨t0, o0, n0⟩ := h0
  obtain ⟨t1, o1, n1⟩ := h1
  have e0 : P.keyLits (m + 1) e [Value.int .i64 a] = some [.int .i64 a] := by simp [Program.keyLits, he, ha]
  have e1 : P.keyLits (m + 1) e [Value.int .i64 s] = some [.int .i64 s] := by simp [Program.keyLits, he, hs]
  have hl : P.keyLits (m + 1 + 1) k [Value.int .i64 a, Value.int .i64 s] = some [.int .i64 a, .int .i64 s] := by
    simp at n0 n1
    simp [Program.keyLits, hu, hc, t0, o0, n0, t1, o1, n1, hce, he, ha, hs]
  simp [keyOf, hu, hk, Value.formed, hc, Value.cells, hm, hl]
theorem at_keyOf (a s : Int) (ha : W64 a) (hs : W64 s) : keyOf Tryz.prog 298 (atV a s) = some (.string (keyBytes [.int .i64 a, .int .i64 s])) :=
  keyOf_two Tryz.underlying298 Tryz.underlying3 (by kernel_rfl) (by kernel_rfl) (by kernel_rfl) ⟨rfl, rfl, by decide⟩ ⟨rfl, rfl, by decide⟩ (of_decide_eq_true (by kernel_rfl)) ha hs
/-- The entries of the map's literal, by their operations' numbers. -/
def keyI : Nat → Int × Int
  | 3 => (0, 1) | 6 => (1, 2) | 9 => (2, 3) | 12 => (3, 7) | 15 => (3, 9) | 18 => (3, 13) | 21 => (4, 7) | 24 => (4, 13) | 27 => (6, 12) | _ => (6, 13)
def valI : Nat → Int × Int × Int
  | 3 => (0, 1, 0) | 6 => (0, 2, 0) | 9 => (0, 3, 0) | 12 => (2, 4, 3) | 15 => (1, 3, 0) | 18 => (1, 3, 0) | 21 => (3, 3, 0) | 24 => (1, 4, 0) | 27 => (0, 4, 0) | _ => (1, 6, 0)
def insI : List Nat := [3, 6, 9, 12, 15, 18, 21, 24, 27, 30]
def goF : List Nat → Int → Int → Option (Int × Int × Int)
  | [], _, _ => none
  | i :: d, s, j => if (s, j) = keyI i then some (valI i) else goF d s j
theorem keyI_inj : ∀ i ∈ insI, ∀ j ∈ insI, keyI i = keyI j → i = j := by decide
theorem goF_none (s j : Int) : ∀ d, (∀ i ∈ d, keyI i ≠ (s, j)) → goF d s j = none
  | [], _ => rfl
  | i :: d, h => by unfold goF; rw [if_neg (fun e => h i (by simp) e.symm)]; exact goF_none s j d (fun i hi => h i (by simp [hi]))
theorem goF_some (s j : Int) (x : Nat) (hx : x ∈ insI) (hk : keyI x = (s, j)) : ∀ d, (∀ i ∈ d, i ∈ insI) → x ∈ d → goF d s j = some (valI x)
  | i :: d, hs, h => by
    unfold goF
    by_cases e : (s, j) = keyI i
    · rw [if_pos e, keyI_inj x hx i (hs i (by simp)) (by rw [hk, e])]
    · rw [if_neg e]
      rcases List.mem_cons.1 h with rfl | h
      · exact absurd hk.symm e
      · exact goF_some s j x hx hk d (fun i hi => hs i (by simp [hi])) h
theorem goF_all {d : List Nat} (h1 : ∀ i ∈ insI, i ∈ d) (h2 : ∀ i ∈ d, i ∈ insI) (s j : Int) : goF d s j = goF insI s j := by
  by_cases h : ∃ x ∈ insI, keyI x = (s, j)
  · obtain ⟨x, hx, hk⟩ := h
    rw [goF_some s j x hx hk d h2 (h1 x hx), goF_some s j x hx hk insI (fun _ h => h) hx]
  · rw [goF_none s j d (fun i hi e => h ⟨i, h2 i hi, e⟩), goF_none s j insI (fun i hi e => h ⟨i, hi, e⟩)]
def transL : List Int := [6, 8, 17, 18, 23, 28, 29, 30, 35, 36, 38]
def writeL : List Int := [24, 25]
def waysV (s j : Int) : Option (Int × Int × Int) := if s = 4 ∧ j ∈ writeL then some (0, 6, 0) else if s = 4 ∧ j ∈ transL then some (0, 4, 0) else goF insI s j
theorem atV_inj {a b c d : Int} (h : atV a b = atV c d) : a = c ∧ b = d := by
  injection h with h
  simp at h
  exact h
/-- The map at a time. -/
def WayMap (w : World) (Q : Nat) (g : Int → Int → Option (Int × Int × Int)) : Prop := ∃ n f, MapIs Tryz.prog 298 w Q n f ∧ ∀ s j, f (atV s j) = (g s j).map wayV
theorem WayMap.put {w : World} {Q : Nat} {g : Int → Int → Option (Int × Int × Int)} (h : WayMap w Q g) {a b : Int} (ha : W64 a) (hb : W64 b) (x : Int × Int × Int) :
    ∃ w', (Instr.mapUpdate 295 (.map (some Q)) (atV a b) (wayV x)).run Tryz.prog w = .ok () w' ∧ WayMap w' Q (fun s j => if (s, j) = (a, b) then some x else g s j) ∧ w.grownBy w' (some Q) := by
  obtain ⟨n, f, hm, hf⟩ := h
  obtain ⟨w', h1, h2, h3⟩ := hm.update at_keyed at_under (val := wayV x) (at_keyOf a b ha hb)
  refine ⟨w', h1, ⟨_, _, h2, fun s j => ?_⟩, h3⟩
  by_cases e : (s, j) = (a, b)
  · injection e with e1 e2
    subst e1 e2
    rw [updK_same]
    show some (wayV x) = Option.map wayV (if (s, j) = (s, j) then some x else g s j)
    rw [if_pos rfl]; rfl
  · rw [updK_ne _ _ _ (fun h => e (by obtain ⟨h1, h2⟩ := atV_inj h; rw [h1, h2]))]
    show f (atV s j) = Option.map wayV (if (s, j) = (a, b) then some x else g s j)
    rw [if_neg e]
    exact hf s j
theorem WayMap.look {w : World} {Q : Nat} {g : Int → Int → Option (Int × Int × Int)} (h : WayMap w Q g) {a b : Int} (ha : W64 a) (hb : W64 b) :
    (Instr.lookup 295 (.map (some Q)) (atV a b) true).run Tryz.prog w = .ok (.tuple #[wayV ((g a b).getD (0, 0, 0)), .bool (g a b).isSome]) w := by
  obtain ⟨n, f, hm, hf⟩ := h
  have h1 := (hm.look at_keyed at_under (zero_way w) (at_keyOf a b ha hb)).2
  rw [hf a b] at h1
  cases hg : g a b with
  | none => rw [hg] at h1; exact h1
  | some x => rw [hg] at h1; exact h1
theorem ints_cell {w : World} {g : Nat} {t : TypeId} {L : List Int} (h : Row w g t (L.map (Value.int .i64)).toArray) (j : Nat) (hj : j < L.length) : w.cell? ⟨g, j, none⟩ = some (.int .i64 (L.getD j 0)) := by
  rw [h.cell, List.getElem?_toArray, List.getElem?_map, List.getElem?_eq_getElem hj, List.getD_eq_getElem?_getD, List.getElem?_eq_getElem hj]
  rfl
theorem take_getDI (vs : List Int) (k : Nat) (hk : k < vs.length) : vs.take (k + 1) = vs.take k ++ [vs.getD k 0] := by
  rw [List.take_succ_eq_append_getElem hk, List.getD_eq_getElem?_getD, List.getElem?_eq_getElem hk]; rfl
/-- What the loops make of it. -/
def upG (L : List Int) (x : Int × Int × Int) (g : Int → Int → Option (Int × Int × Int)) (k : Nat) : Int → Int → Option (Int × Int × Int) := fun s j => if s = 4 ∧ j ∈ L.take k then some x else g s j
theorem upG_zero (L : List Int) (x : Int × Int × Int) (g : Int → Int → Option (Int × Int × Int)) : upG L x g 0 = g := by funext s j; simp [upG]
theorem upG_succ (L : List Int) (x : Int × Int × Int) (g : Int → Int → Option (Int × Int × Int)) (k : Nat) (hk : k < L.length) : (fun s j => if (s, j) = (4, L.getD k 0) then some x else upG L x g k s j) = upG L x g (k + 1) := by
  funext s j
  unfold upG
  rw [take_getDI L k hk]
  by_cases h1 : s = 4
  · subst h1
    by_cases h2 : j = L.getD k 0
    · subst h2; simp
    · by_cases h3 : j ∈ L.take k
      · simp [h3]
      · simp [h2, h3]
  · simp [h1]
theorem transL_64 (k : Nat) : W64 (transL.getD k 0) ∧ W64 (writeL.getD k 0) := by
  rw [W64.iff, W64.iff]
  constructor
  · rcases Nat.lt_or_ge k 11 with h | h
    · match k, h with
      | 0, _ | 1, _ | 2, _ | 3, _ | 4, _ | 5, _ | 6, _ | 7, _ | 8, _ | 9, _ | 10, _ => exact ⟨by decide, by decide⟩
    · rw [List.getD_eq_getElem?_getD, List.getElem?_eq_none (by simpa [transL] using h)]; exact ⟨by decide, by decide⟩
  · rcases Nat.lt_or_ge k 2 with h | h
    · match k, h with
      | 0, _ | 1, _ => exact ⟨by decide, by decide⟩
    · rw [List.getD_eq_getElem?_getD, List.getElem?_eq_none (by simpa [writeL] using h)]; exact ⟨by decide, by decide⟩
theorem WayMap.lt {w : World} {Q : Nat} {g : Int → Int → Option (Int × Int × Int)} (h : WayMap w Q g) : Q < w.heap.size := by obtain ⟨n, f, h, _⟩ := h; exact h.lt
set_option maxRecDepth 100000 in
set_option maxHeartbeats 8000000 in
theorem ways_any (w : World) : Calls Tryz.prog 201 #[] w fun e w' => ∃ Q, e = .returned (.map (some Q)) ∧ WayMap w' Q waysV ∧ Below w.heap.size w w' := by
  go_enter Tryz.func201, Tryz.ntmps201
  go_wp2
  refine wp_region_noPanic ?_
  refine region_treeW (fun u => True) (Tn.takes [1, 2, 4, 5, 7, 8, 10, 11, 13, 14, 16, 17, 19, 20, 22, 23, 25, 26, 28, 29] (.one 0 (.any [3, 6, 9, 12, 15, 18, 21, 24, 27, 30] (Tn.takes [31, 32] .nil)))) (by kernel_rfl) (by kernel_rfl) (fun _ _ _ _ _ h => h) trivial ?_
  simp only [Tn.takes]
  (repeat ((with_reducible refine wpTree_take (by with_unfolding_all exact rfl) ?_); (with_reducible (show wpQuiet _ _ _ _ (_ :: _) _)); go_big_quiet_step (fail); (with_reducible refine wpQuiet_nil ?_)))
  (with_reducible refine wpTree_one (by with_unfolding_all exact rfl) ?_)
  have hmm := @run_makeMap Tryz.prog
  gi_wp2_with fail
  (with_reducible refine outQ_normal ?_ ?_); exact trivial
  obtain ⟨w1, hw1⟩ : ∃ w1, w1 = (w.alloc (.map #[] 0)).drew := ⟨_, rfl⟩
  have HE1 := Lib.hid hw1
  have hb1 : Below w.heap.size w w1 := by rw [hw1]; exact ((Below.refl _ _).alloc (Nat.le_refl _) _).drew
  have hm1 : WayMap w1 w.heap.size (goF []) := ⟨0, _, by rw [hw1]; exact MapIs.fresh _ _ w, fun s j => rfl⟩
  rw [← hw1]
  clear hw1
  refine wpTree_any (fun done u => WayMap u w.heap.size (goF done) ∧ Below w.heap.size w u) ⟨hm1, hb1⟩ trivial ?_ ?_
  · intro done i u hi hid hdn hsub hJ _
    obtain ⟨hJ1, hJ2⟩ := hJ
    simp only [List.mem_cons, List.not_mem_nil, or_false] at hi
    rcases hi with rfl | rfl | rfl | rfl | rfl | rfl | rfl | rfl | rfl | rfl
    · obtain ⟨u', h1, h2, h3⟩ := hJ1.put (a := (keyI 3).1) (b := (keyI 3).2) (by rw [W64.iff]; decide) (by rw [W64.iff]; decide) (valI 3)
      have HJ : Hid (WayMap u' w.heap.size (goF (3 :: done)) ∧ Below w.heap.size w u') := ⟨h2, hJ2.grown h3 hJ2.size (fun q hq => by injection hq with hq; omega)⟩
      dsimp only [keyI, valI, wayV, atV] at h1
      clear hJ1 hJ2 h2 h3
      simp only [List.getElem?_cons_succ, List.getElem?_cons_zero]
      gi_wp2_with fail
      exact ⟨rfl, trivial, HJ.out⟩
    · obtain ⟨u', h1, h2, h3⟩ := hJ1.put (a := (keyI 6).1) (b := (keyI 6).2) (by rw [W64.iff]; decide) (by rw [W64.iff]; decide) (valI 6)
      have HJ : Hid (WayMap u' w.heap.size (goF (6 :: done)) ∧ Below w.heap.size w u') := ⟨h2, hJ2.grown h3 hJ2.size (fun q hq => by injection hq with hq; omega)⟩
      dsimp only [keyI, valI, wayV, atV] at h1
      clear hJ1 hJ2 h2 h3
      simp only [List.getElem?_cons_succ, List.getElem?_cons_zero]
      gi_wp2_with fail
      exact ⟨rfl, trivial, HJ.out⟩
    · obtain ⟨u', h1, h2, h3⟩ := hJ1.put (a := (keyI 9).1) (b := (keyI 9).2) (by rw [W64.iff]; decide) (by rw [W64.iff]; decide) (valI 9)
      have HJ : Hid (WayMap u' w.heap.size (goF (9 :: done)) ∧ Below w.heap.size w u') := ⟨h2, hJ2.grown h3 hJ2.size (fun q hq => by injection hq with hq; omega)⟩
      dsimp only [keyI, valI, wayV, atV] at h1
      clear hJ1 hJ2 h2 h3
      simp only [List.getElem?_cons_succ, List.getElem?_cons_zero]
      gi_wp2_with fail
      exact ⟨rfl, trivial, HJ.out⟩
    · obtain ⟨u', h1, h2, h3⟩ := hJ1.put (a := (keyI 12).1) (b := (keyI 12).2) (by rw [W64.iff]; decide) (by rw [W64.iff]; decide) (valI 12)
      have HJ : Hid (WayMap u' w.heap.size (goF (12 :: done)) ∧ Below w.heap.size w u') := ⟨h2, hJ2.grown h3 hJ2.size (fun q hq => by injection hq with hq; omega)⟩
      dsimp only [keyI, valI, wayV, atV] at h1
      clear hJ1 hJ2 h2 h3
      simp only [List.getElem?_cons_succ, List.getElem?_cons_zero]
      gi_wp2_with fail
      exact ⟨rfl, trivial, HJ.out⟩
    · obtain ⟨u', h1, h2, h3⟩ := hJ1.put (a := (keyI 15).1) (b := (keyI 15).2) (by rw [W64.iff]; decide) (by rw [W64.iff]; decide) (valI 15)
      have HJ : Hid (WayMap u' w.heap.size (goF (15 :: done)) ∧ Below w.heap.size w u') := ⟨h2, hJ2.grown h3 hJ2.size (fun q hq => by injection hq with hq; omega)⟩
      dsimp only [keyI, valI, wayV, atV] at h1
      clear hJ1 hJ2 h2 h3
      simp only [List.getElem?_cons_succ, List.getElem?_cons_zero]
      gi_wp2_with fail
      exact ⟨rfl, trivial, HJ.out⟩
    · obtain ⟨u', h1, h2, h3⟩ := hJ1.put (a := (keyI 18).1) (b := (keyI 18).2) (by rw [W64.iff]; decide) (by rw [W64.iff]; decide) (valI 18)
      have HJ : Hid (WayMap u' w.heap.size (goF (18 :: done)) ∧ Below w.heap.size w u') := ⟨h2, hJ2.grown h3 hJ2.size (fun q hq => by injection hq with hq; omega)⟩
      dsimp only [keyI, valI, wayV, atV] at h1
      clear hJ1 hJ2 h2 h3
      simp only [List.getElem?_cons_succ, List.getElem?_cons_zero]
      gi_wp2_with fail
      exact ⟨rfl, trivial, HJ.out⟩
    · obtain ⟨u', h1, h2, h3⟩ := hJ1.put (a := (keyI 21).1) (b := (keyI 21).2) (by rw [W64.iff]; decide) (by rw [W64.iff]; decide) (valI 21)
      have HJ : Hid (WayMap u' w.heap.size (goF (21 :: done)) ∧ Below w.heap.size w u') := ⟨h2, hJ2.grown h3 hJ2.size (fun q hq => by injection hq with hq; omega)⟩
      dsimp only [keyI, valI, wayV, atV] at h1
      clear hJ1 hJ2 h2 h3
      simp only [List.getElem?_cons_succ, List.getElem?_cons_zero]
      gi_wp2_with fail
      exact ⟨rfl, trivial, HJ.out⟩
    · obtain ⟨u', h1, h2, h3⟩ := hJ1.put (a := (keyI 24).1) (b := (keyI 24).2) (by rw [W64.iff]; decide) (by rw [W64.iff]; decide) (valI 24)
      have HJ : Hid (WayMap u' w.heap.size (goF (24 :: done)) ∧ Below w.heap.size w u') := ⟨h2, hJ2.grown h3 hJ2.size (fun q hq => by injection hq with hq; omega)⟩
      dsimp only [keyI, valI, wayV, atV] at h1
      clear hJ1 hJ2 h2 h3
      simp only [List.getElem?_cons_succ, List.getElem?_cons_zero]
      gi_wp2_with fail
      exact ⟨rfl, trivial, HJ.out⟩
    · obtain ⟨u', h1, h2, h3⟩ := hJ1.put (a := (keyI 27).1) (b := (keyI 27).2) (by rw [W64.iff]; decide) (by rw [W64.iff]; decide) (valI 27)
      have HJ : Hid (WayMap u' w.heap.size (goF (27 :: done)) ∧ Below w.heap.size w u') := ⟨h2, hJ2.grown h3 hJ2.size (fun q hq => by injection hq with hq; omega)⟩
      dsimp only [keyI, valI, wayV, atV] at h1
      clear hJ1 hJ2 h2 h3
      simp only [List.getElem?_cons_succ, List.getElem?_cons_zero]
      gi_wp2_with fail
      exact ⟨rfl, trivial, HJ.out⟩
    · obtain ⟨u', h1, h2, h3⟩ := hJ1.put (a := (keyI 30).1) (b := (keyI 30).2) (by rw [W64.iff]; decide) (by rw [W64.iff]; decide) (valI 30)
      have HJ : Hid (WayMap u' w.heap.size (goF (30 :: done)) ∧ Below w.heap.size w u') := ⟨h2, hJ2.grown h3 hJ2.size (fun q hq => by injection hq with hq; omega)⟩
      dsimp only [keyI, valI, wayV, atV] at h1
      clear hJ1 hJ2 h2 h3
      simp only [List.getElem?_cons_succ, List.getElem?_cons_zero]
      gi_wp2_with fail
      exact ⟨rfl, trivial, HJ.out⟩
  · intro done u hdn hall hsub hJ _
    obtain ⟨Q, hQ⟩ : ∃ Q, Q = w.heap.size := ⟨_, rfl⟩
    have HM2 : Hid (WayMap u Q (goF insI)) := by
      unfold Hid
      have e : goF done = goF insI := by funext s j; exact goF_all hall hsub s j
      rw [← e, hQ]; exact hJ.1
    have HB2 := Lib.hid hJ.2
    have HQ : Hid (w.heap.size ≤ Q) := by unfold Hid; omega
    rw [← hQ]
    clear hJ hdn hall hsub hm1 hb1 HE1 hQ hmm
    (repeat ((with_reducible refine wpTree_take (by with_unfolding_all exact rfl) ?_); (with_reducible (show wpQuiet _ _ _ _ (_ :: _) _)); go_big_quiet_step (fail); (with_reducible refine wpQuiet_nil ?_)))
    with_reducible refine wpTree_nil ?_
    refine NoPanic.normal ?_
    obtain ⟨w3, hw3⟩ : ∃ w3, w3 = (u).alloc (.cells #[.int .i64 6, .int .i64 8, .int .i64 17, .int .i64 18, .int .i64 23, .int .i64 28, .int .i64 29, .int .i64 30, .int .i64 35, .int .i64 36, .int .i64 38] 3) := ⟨_, rfl⟩
    have hb3 : Below (u).heap.size u w3 := by rw [hw3]; exact (Below.refl _ _).alloc (Nat.le_refl _) _
    obtain ⟨g, hg⟩ : ∃ g, g = (u).heap.size := ⟨_, rfl⟩
    have HR3 : Hid (Row w3 g 3 (transL.map (Value.int .i64)).toArray) := by unfold Hid; rw [hw3, hg]; exact Row.fresh _ _ _
    have HM3 : Hid (WayMap w3 Q (upG transL (0, 4, 0) (goF insI) 0)) := by
      unfold Hid; rw [upG_zero]
      obtain ⟨n, f, h1, h2⟩ := HM2.out
      exact ⟨n, f, h1.turns (Turns.of_below hb3 []) (by simp), h2⟩
    have HB3 : Hid (Below w.heap.size w w3) := HB2.out.trans (hb3.mono HB2.out.size)
    have HE3 := Lib.hid (And.intro hw3 hg)
    have HGQ : Hid (g ≠ Q ∧ w.heap.size ≤ Q) := ⟨by have := HM2.out.lt; omega, HQ.out⟩
    clear hw3 hb3 hg
    go_wp2_with fail
    rw [← HE3.out.1, ← HE3.out.2]
    go_loopw [30] (fun v wr => ∃ k : Nat, v = .int .i64 k ∧ k ≤ 11 ∧ WayMap wr Q (upG transL (0, 4, 0) (goF insI) k) ∧ Turns w3 wr [Q]) (fun v _ => 11 - (intOf v).toNat)
    case atStart => exact ⟨0, rfl, by omega, HM3.out, Turns.refl _ _⟩
    case round =>
      obtain ⟨k, rfl, hk, hm, ht⟩ := hrel
      by_cases hk1 : k < 11
      · obtain ⟨x, hx⟩ : ∃ x, x = transL.getD k 0 := ⟨_, rfl⟩
        have cx := ht.cell (ints_cell HR3.out k (by simpa [transL] using hk1)) (by simpa using HGQ.out.1)
        rw [← hx] at cx
        obtain ⟨w4, h1, h2, h3⟩ := hm.put (a := 4) (b := x) (by rw [W64.iff]; decide) (by rw [hx]; exact (transL_64 k).1) (0, 4, 0)
        have HM4 : Hid (WayMap w4 Q (upG transL (0, 4, 0) (goF insI) (k + 1))) := by
          unfold Hid
          rw [← upG_succ transL _ _ k (by simpa [transL] using hk1), ← hx]; exact h2
        have HT4 : Hid (Turns w3 w4 [Q]) := ht.trans (Turns.of_grown h3) (by simp)
        clear hm ht h2 h3 hx
        dsimp only [wayV, atV] at h1
        go_wp2_with fail
        go_roundw
        case rel => exact ⟨k + 1, by go_num, by omega, HM4.out, HT4.out⟩
        case measure => simp [intOf]; omega
      · obtain rfl : k = 11 := by omega
        obtain ⟨W5, hW5⟩ : ∃ W5, W5 = wr := ⟨_, rfl⟩
        subst hW5
        have HM5 := Lib.hid hm
        have HB5 : Hid (Below w.heap.size w W5) := ht.below HB3.out HB3.out.size (by simpa using HGQ.out.2)
        clear hm ht HR3 HM3 HE3 HGQ HB3 HM2 HB2 hk1
        obtain ⟨w3, hw3⟩ : ∃ w3, w3 = (W5).alloc (.cells #[.int .i64 24, .int .i64 25] 3) := ⟨_, rfl⟩
        have hb3 : Below (W5).heap.size W5 w3 := by rw [hw3]; exact (Below.refl _ _).alloc (Nat.le_refl _) _
        obtain ⟨g, hg⟩ : ∃ g, g = (W5).heap.size := ⟨_, rfl⟩
        have HR3 : Hid (Row w3 g 3 (writeL.map (Value.int .i64)).toArray) := by unfold Hid; rw [hw3, hg]; exact Row.fresh _ _ _
        have HM3 : Hid (WayMap w3 Q (upG writeL (0, 6, 0) (upG transL (0, 4, 0) (goF insI) 11) 0)) := by
          unfold Hid; rw [upG_zero]
          obtain ⟨n, f, h1, h2⟩ := HM5.out
          exact ⟨n, f, h1.turns (Turns.of_below hb3 []) (by simp), h2⟩
        have HB3 : Hid (Below w.heap.size w w3) := HB5.out.trans (hb3.mono HB5.out.size)
        have HE3 := Lib.hid (And.intro hw3 hg)
        have HGQ : Hid (g ≠ Q ∧ w.heap.size ≤ Q) := ⟨by have := HM5.out.lt; omega, HQ.out⟩
        clear hw3 hb3 hg
        go_wp2_with fail
        rw [← HE3.out.1, ← HE3.out.2]
        go_loopw [41] (fun v wr => ∃ k : Nat, v = .int .i64 k ∧ k ≤ 2 ∧ WayMap wr Q (upG writeL (0, 6, 0) (upG transL (0, 4, 0) (goF insI) 11) k) ∧ Turns w3 wr [Q]) (fun v _ => 2 - (intOf v).toNat)
        case atStart => exact ⟨0, rfl, by omega, HM3.out, Turns.refl _ _⟩
        case round =>
          obtain ⟨k, rfl, hk, hm, ht⟩ := hrel
          by_cases hk1 : k < 2
          · obtain ⟨x, hx⟩ : ∃ x, x = writeL.getD k 0 := ⟨_, rfl⟩
            have cx := ht.cell (ints_cell HR3.out k (by simpa [writeL] using hk1)) (by simpa using HGQ.out.1)
            rw [← hx] at cx
            obtain ⟨w4, h1, h2, h3⟩ := hm.put (a := 4) (b := x) (by rw [W64.iff]; decide) (by rw [hx]; exact (transL_64 k).2) (0, 6, 0)
            have HM4 : Hid (WayMap w4 Q (upG writeL (0, 6, 0) (upG transL (0, 4, 0) (goF insI) 11) (k + 1))) := by
              unfold Hid
              rw [← upG_succ writeL _ _ k (by simpa [writeL] using hk1), ← hx]; exact h2
            have HT4 : Hid (Turns w3 w4 [Q]) := ht.trans (Turns.of_grown h3) (by simp)
            clear hm ht h2 h3 hx
            dsimp only [wayV, atV] at h1
            go_wp2_with fail
            go_roundw
            case rel => exact ⟨k + 1, by go_num, by omega, HM4.out, HT4.out⟩
            case measure => simp [intOf]; omega
          · obtain rfl : k = 2 := by omega
            have HM6 : Hid (WayMap wr Q waysV) := hm
            have HB6 : Hid (Below w.heap.size w wr) := ht.below HB3.out HB3.out.size (by simpa using HGQ.out.2)
            clear hm ht
            go_wp2
            go_ret
            exact ⟨Q, rfl, HM6.out, HB6.out⟩
end Go.Proofs.YtclhhdodebdmjaaGreat

namespace Go.Proofs.YtclhhdodebdmjaaGreat
open Go.RowKit
set_option linter.unusedVariables false
set_option linter.unusedSimpArgs false

/-- Integers as cells. -/
def intsV (k : IntKind) (l : List Nat) : List Value := l.map fun (x : Nat) => Value.int k (x : Int)
theorem intsV_get (k : IntKind) (l : List Nat) (i : Nat) (hi : i < l.length) : (intsV k l)[i]? = some (.int k (l.getD i 0 : Nat)) := by simp [intsV, List.getD, hi]
theorem intsV_length (k : IntKind) (l : List Nat) : (intsV k l).length = l.length := by simp [intsV]
theorem intsV_one (k : IntKind) (l : List Nat) : ∀ u ∈ intsV k l, u.oneCell' = true := by
  intro u hu; obtain ⟨x, _, rfl⟩ := List.mem_map.1 hu; rfl
theorem intsV_set (k : IntKind) (l : List Nat) (i x : Nat) : intsV k (l.set i x) = (intsV k l).set i (.int k (x : Int)) := by simp [intsV, List.map_set]

/-- An owned row at a block: its cell i. -/
theorem own_cell {w : World} {B : Nat} {t : TypeId} {k : IntKind} {L n c : Nat} {l : List Nat} (h : w.ownsRow B t 1 (.slice (some ⟨L, 0, none⟩) n c) n (intsV k l)) (i : Nat) (hi : i < l.length) : w.cell? ⟨L, i, none⟩ = some (.int k (l.getD i 0 : Nat)) := by
  have := h.cells (g := L) rfl i _ (intsV_get k l i hi)
  rw [addr_add, Nat.zero_add] at this
  exact this
theorem own_thaw {w : World} {B : Nat} {t : TypeId} {L n c : Nat} {xs : List Value} (h : w.ownsRow B t 1 (.slice (some ⟨L, 0, none⟩) n c) n xs) (i : Nat) : w.frozen? ⟨L, i, none⟩ = false := by
  obtain ⟨_, cur, hr, _⟩ := own_row h
  exact hr.frozen i
theorem own_put {w : World} {B : Nat} {t : TypeId} {k : IntKind} {L n c : Nat} {l : List Nat} (h : w.ownsRow B t 1 (.slice (some ⟨L, 0, none⟩) n c) n (intsV k l)) (i x : Nat) (hi : i < l.length) : (w.setCell ⟨L, i, none⟩ (.int k (x : Int))).ownsRow B t 1 (.slice (some ⟨L, 0, none⟩) n c) n (intsV k (l.set i x)) := by
  obtain ⟨hB, cur, hr, hs, hn, hm, ht⟩ := own_row h
  have hl := h.1
  rw [intsV_length] at hl
  refine ⟨by rw [intsV_length, List.length_set]; exact hl, .inr ⟨L, c, cur.setIfInBounds i (.int k (x : Int)), rfl, hB, hr.put i _, hn, hm, by simpa using hs, ?_⟩⟩
  rw [intsV_set, ← ht, Array.toList_setIfInBounds, List.take_set]
/-- The object at G, its slice's row at L. -/
structure Held (tS tE : TypeId) (k : IntKind) (w : World) (B G L c : Nat) (ks : List Nat) : Prop where
  hG : B ≤ G
  row : Row w G tS #[.slice (some ⟨L, 0, none⟩) ks.length c]
  own : w.ownsRow B tE 1 (.slice (some ⟨L, 0, none⟩) ks.length c) ks.length (intsV k ks)
section
variable {tS tE : TypeId} {k : IntKind} {w : World} {B G L c : Nat} {ks : List Nat}
theorem Held.cellG (h : Held tS tE k w B G L c ks) : w.cell? ⟨G, 0, none⟩ = some (.slice (some ⟨L, 0, none⟩) ks.length c) := by rw [h.row.cell]; simp
theorem Held.cell (h : Held tS tE k w B G L c ks) (i : Nat) (hi : i < ks.length) : w.cell? ⟨L, i, none⟩ = some (.int k (ks.getD i 0 : Nat)) := own_cell h.own i hi
theorem Held.thaw (h : Held tS tE k w B G L c ks) (i : Nat) : w.frozen? ⟨L, i, none⟩ = false := own_thaw h.own i
theorem Held.hL (h : Held tS tE k w B G L c ks) : B ≤ L ∧ L < w.heap.size ∧ ks.length ≤ c ∧ c ≤ maxLen := by
  obtain ⟨h1, cur, hr, _, h2, h3, _⟩ := own_row h.own
  exact ⟨h1, hr.lt, h2, h3⟩
theorem Held.ne (h : Held tS tE k w B G L c ks) (ht : tS ≠ tE) : G ≠ L := by
  obtain ⟨_, cur, hr, _⟩ := own_row h.own
  exact h.row.ne_type hr ht
theorem Held.turns {w' : World} {S : List Nat} (h : Held tS tE k w B G L c ks) (ht : Turns w w' S) (hG : G ∉ S) (hL : L ∉ S) : Held tS tE k w' B G L c ks :=
  ⟨h.hG, ht.row h.row hG, ht.own h.own (fun g hg => by injection hg with hg; subst hg; exact hL)⟩
theorem Held.below {w' : World} (h : Held tS tE k w B G L c ks) (hb : Below w.heap.size w w') : Held tS tE k w' B G L c ks := h.turns (Turns.of_below hb []) (by simp) (by simp)
theorem Held.drewN (h : Held tS tE k w B G L c ks) (n : Nat) : Held tS tE k (w.drewN n) B G L c ks := ⟨h.hG, h.row, h.own⟩
theorem Held.put (h : Held tS tE k w B G L c ks) (ht : tS ≠ tE) (i x : Nat) (hi : i < ks.length) : Held tS tE k (w.setCell ⟨L, i, none⟩ (.int k (x : Int))) B G L c (ks.set i x) :=
  ⟨h.hG, by rw [List.length_set]; exact h.row.far (h.ne ht) _, by rw [List.length_set]; exact own_put h.own i x hi⟩
theorem Held.mono {B' : Nat} (h : Held tS tE k w B G L c ks) (hB : B' ≤ B) : Held tS tE k w B' G L c ks := ⟨Nat.le_trans hB h.hG, h.row, own_mono h.own hB⟩
end
end Go.Proofs.YtclhhdodebdmjaaGreat
