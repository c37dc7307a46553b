/- MediaNew: its own rows, what it counts. -/
import Derived.Test.YtlidbkofjchnnaaDoorKnown
import Derived.Test.YtlidbkofjchnnaaDoorSorts
import Derived.Test.YtlidbkofjchnnaaDoorLaid
import Derived.Test.YtlidbkofjchnnaaDoorBegun
namespace Go.Proofs.YtlidbkofjchnnaaDoor
open Go.RowKit
set_option linter.unusedVariables false
set_option linter.unusedSimpArgs false

/-- Which of so many blocks were named. -/
def isA (nb : Nat) (f : Nat → Bool) : Array Value := ((List.range nb).map fun k => Value.bool (f k)).toArray
theorem isA_size (nb : Nat) (f : Nat → Bool) : (isA nb f).size = nb := by simp [isA]
theorem isA_get (nb : Nat) (f : Nat → Bool) (k : Nat) (h : k < nb) : (isA nb f)[k]? = some (.bool (f k)) := by simp [isA, h]
theorem isA_start (nb : Nat) : madeCells #[Value.bool false] nb = isA nb (inL []) := by
  apply Array.ext_getElem?
  intro i
  by_cases h : i < nb
  · rw [made_at _ _ _ h, isA_get nb _ i h]; rfl
  · rw [Array.getElem?_eq_none (by rw [size_madeCells]; omega), Array.getElem?_eq_none (by rw [isA_size]; omega)]
theorem isA_set (nb : Nat) (f : Nat → Bool) (k : Nat) (h : k < nb) : (isA nb f).setIfInBounds k (.bool true) = isA nb (setBad f k) := by
  apply Array.ext_getElem?
  intro i
  rw [Array.getElem?_setIfInBounds]
  by_cases hi : i < nb
  · rw [isA_get nb _ i hi, isA_get nb _ i hi]
    by_cases e : k = i
    · subst e; rw [if_pos rfl, if_pos (by rw [isA_size]; exact h)]; simp [setBad]
    · rw [if_neg e]
      have : (i == k) = false := by simpa using Ne.symm e
      simp [setBad, this]
  · have h1 : (isA nb f)[i]? = none := Array.getElem?_eq_none (by rw [isA_size]; omega)
    have h2 : (isA nb (setBad f k))[i]? = none := Array.getElem?_eq_none (by rw [isA_size]; omega)
    rw [h1, h2, if_neg (by omega)]
theorem inL_out (l : List Int) (k : Nat) (h : k < l.length) (nb : Nat) (ho : outI nb (l.getD k 0) = true) : isA nb (inL (l.take (k + 1))) = isA nb (inL (l.take k)) := by
  unfold isA
  congr 1
  apply List.map_congr_left
  intro i hi
  rw [List.mem_range] at hi
  congr 1
  unfold inL
  rw [any_takeI _ l k h]
  have : ((l.getD k 0) == (i : Int)) = false := by
    unfold outI at ho
    rw [decide_eq_true_iff] at ho
    simp only [beq_eq_false_iff_ne]
    omega
  rw [this, Bool.or_false]
theorem any_takeO (nb : Nat) (l : List Int) (k : Nat) (h : k < l.length) : (l.take (k + 1)).any (outI nb) = ((l.take k).any (outI nb) || outI nb (l.getD k 0)) := any_takeI _ l k h
/-- How many are bad ahead of k. -/
def cntB (bad : Nat → Bool) (k : Nat) : Nat := ((List.range k).filter bad).length
theorem cntB_step (bad : Nat → Bool) (k : Nat) : cntB bad (k + 1) = cntB bad k + (if bad k then 1 else 0) := by
  unfold cntB
  rw [List.range_succ, List.filter_append, List.length_append]
  cases h : bad k <;> simp [h]
theorem cntB_le (bad : Nat → Bool) (k : Nat) : cntB bad k ≤ k := by
  unfold cntB
  have := List.length_filter_le bad (List.range k)
  simpa using this
theorem badL_length (nb : Nat) (bad : Nat → Bool) : (badL nb bad).length = cntB bad nb := by unfold badL cntB; simp
theorem badL_at (nb : Nat) (bad : Nat → Bool) (k : Nat) (hk : k < nb) (hb : bad k = true) : (badL nb bad)[cntB bad k]? = some (k : Int) ∧ cntB bad k < cntB bad nb := by
  obtain ⟨r, rfl⟩ : ∃ r, nb = k + (1 + r) := ⟨nb - k - 1, by omega⟩
  have e : (List.range (k + (1 + r))).filter bad = (List.range k).filter bad ++ (k :: (((List.range r).map fun i => k + (1 + i)).filter bad)) := by
    rw [List.range_add, List.filter_append, List.range_add, List.map_append, List.filter_append]
    congr 1
    rw [show (List.map (fun x => k + x) (List.range 1)) = [k] from by simp]
    rw [List.filter_cons_of_pos hb]
    simp [List.map_map, Function.comp_def]
  constructor
  · unfold badL
    rw [e, List.map_append, List.getElem?_append_right (by unfold cntB; simp)]
    simp [cntB]
  · show cntB bad k < ((List.range (k + (1 + r))).filter bad).length
    rw [e, List.length_append, List.length_cons]
    unfold cntB
    omega
section
variable {w w' : World} {B M Q F L n : Nat} {P : Nat → Nat} {S : Fl} {bad : Nat → Bool} {md : Int}
theorem MedIs.aside {T : List Nat} (h : MedIs w B M Q F L P S n bad md) (ht : Turns w w' T) (hT : ∀ g ∈ T, g ∉ medT M Q F L P S.nb) (hb : ∀ g cs, Row w g 5 cs → g ∉ T) (h0 : 0 ∉ T) : MedIs w' B M Q F L P S n bad md :=
  ⟨h.hB, h.hM, h.hQ, h.fl.turns ht (fun g hg hx => hT g hg (fl_med hx)) hb, ht.row h.row (fun hm => hT _ hm (mem_medT.2 (.inl rfl))), h.bad.turns ht (fun hm => hT _ hm (mem_medT.2 (.inr (.inl rfl)))), h.bytes, h.tab.turns ht h0⟩
theorem Flash_any (h : MedIs w B M Q F L P S n bad md) : Calls Tryd.prog 17 #[.pointer (some ⟨M, 0, none⟩)] w fun e w' => e = .returned (.pointer (some ⟨F, 0, none⟩)) ∧ w = w' := by
  have c1 : w.cell? ⟨M, 1, none⟩ = some (.pointer (some ⟨F, 0, none⟩)) := h.row.cell 1
  clear h
  go_enter Tryd.func17, Tryd.ntmps17
  go_wp2
  go_ret
  exact ⟨rfl, rfl⟩
end
set_option maxRecDepth 100000 in
open Go.ChangeShapes Go.WideShapes Go.ChangeAt in
theorem ints_view {H : Type} {enc : TypeId × Value → H} (W : World) {base : Nat} {v : Value} {d : DataW H} {p : List MemPlace}
    (o : Value.okWide Tryd.prog W .any base 51 v) (h : DataW.Trod enc Tryd.prog W 0 (fun _ => true) true 51 v d p) :
    ∃ (a : Option Addr) (l : List Int) (cap : Nat), v = .slice a l.length cap ∧ l.length ≤ cap ∧ cap ≤ maxLen ∧ CellsI W a l := by
  obtain ⟨a, len, cap, rfl⟩ := okWide_slice Tryd.underlying51 o
  obtain ⟨fuel, hf⟩ := h
  rcases open_ints Tryd.underlying51 Tryd.underlying3 (by kernel_rfl) hf with ⟨hcs, _⟩ | ⟨x, len', c, zs, hcs, _, hl, hm, hz, _, hcell, hwz⟩
  · simp [Value.cells] at hcs
    obtain ⟨rfl, rfl, rfl⟩ := hcs
    exact ⟨none, [], 0, rfl, Nat.le_refl _, by simp [maxLen], fun i h => absurd h (by simp)⟩
  · simp [Value.cells] at hcs
    obtain ⟨rfl, rfl, rfl⟩ := hcs
    have hzl : zs.length = cap := by simpa using hz
    have hlen : (zs.take len).length = len := by simp; omega
    refine ⟨some x, zs.take len, cap, by rw [hlen], by omega, hm, fun i hi => ?_⟩
    rw [hlen] at hi
    obtain ⟨b, off, spot⟩ := x
    have hc := hcell i (by omega)
    have hspot : spot = none := by
      have h0 := hcell 0 (by omega)
      simpa [Addr.add] using World.cell?_spot h0
    subst hspot
    refine ⟨b, off, rfl, ?_⟩
    rw [addr_add] at hc
    rw [hc]
    congr 2
    rw [List.getD_eq_getElem?_getD, List.getD_eq_getElem?_getD, List.getElem?_take, if_pos hi]
end Go.Proofs.YtlidbkofjchnnaaDoor
