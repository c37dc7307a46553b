/- What the acts do to a list of kinds. -/
import Derived.Test.YtallanlajecmhaaGuardKnown
namespace Go.Proofs.Ytallanlajecmhaa
open Go.RowKit
set_option linter.unusedVariables false
set_option linter.unusedSimpArgs false

/-- Kinds. -/
def Kinds (n : Nat) (ks : List Nat) : Prop := ks.length = n ∧ ∀ x ∈ ks, x < 4
theorem set_lt {ks : List Nat} {i x : Nat} (h : ∀ y ∈ ks, y < 4) (hx : x < 4) : ∀ y ∈ ks.set i x, y < 4 := by
  intro y hy
  rcases List.mem_or_eq_of_mem_set hy with h1 | h1
  · exact h y h1
  · omega
theorem getD_lt (ks : List Nat) (h : ∀ y ∈ ks, y < 4) (i : Nat) : ks.getD i 0 < 4 := by
  by_cases hi : i < ks.length
  · exact h _ (getD_mem _ _ hi)
  · simp [List.getD, hi]
theorem getD_set (ks : List Nat) (i j x : Nat) : (ks.set i x).getD j 0 = if i = j ∧ j < ks.length then x else ks.getD j 0 := by
  simp only [List.getD, List.getElem?_set]
  by_cases h : i = j
  · subst h
    by_cases hl : i < ks.length <;> simp [hl]
  · simp [h]
theorem setK_kinds {n : Nat} {ks : List Nat} (h : Kinds n ks) (g k : Int) : Kinds n (setK ks g k) := by
  unfold setK
  split
  · rename_i hc
    exact ⟨by rw [List.length_set]; exact h.1, set_lt h.2 (by have := getD_lt ks h.2 g.toNat; omega)⟩
  · exact h
theorem clearK_kinds {n : Nat} {ks : List Nat} (h : Kinds n ks) (g : Int) : Kinds n (clearK ks g) := by
  unfold clearK
  split
  · exact ⟨by rw [List.length_set]; exact h.1, set_lt h.2 (by omega)⟩
  · exact h
theorem lastK_kinds {n : Nat} {ks : List Nat} (h : Kinds n ks) : Kinds n (lastK ks) := by
  refine ⟨by rw [lastK_length]; exact h.1, fun x hx => ?_⟩
  simp only [lastK, List.mem_map] at hx
  obtain ⟨y, hy, rfl⟩ := hx
  have := h.2 y hy
  split <;> omega
/-- For good is for good. -/
theorem setK_good {n : Nat} {ks : List Nat} (h : Kinds n ks) (g k : Int) (i : Nat) (hi : ks.getD i 0 = 3) : (setK ks g k).getD i 0 = 3 := by
  unfold setK
  split
  · rename_i hc
    rw [getD_set]
    split
    · rename_i e
      rw [e.1, hi]; omega
    · exact hi
  · exact hi
theorem clearK_good {n : Nat} {ks : List Nat} (h : Kinds n ks) (g : Int) (i : Nat) (hi : ks.getD i 0 = 3) : (clearK ks g).getD i 0 = 3 := by
  unfold clearK
  split
  · rename_i hc
    rw [getD_set]
    split
    · rename_i e
      have := hc.2
      rw [e.1, hi] at this; omega
    · exact hi
  · exact hi
theorem clearR_good {ks : List Nat} (i : Nat) (hi : ks.getD i 0 = 3) : clearR ks (i : Int) ≠ 0 := by
  unfold clearR
  rw [Int.toNat_natCast, hi]
  split
  · decide
  · decide
theorem lastK_good {ks : List Nat} (i : Nat) (hl : i < ks.length) (hi : ks.getD i 0 = 3) : (lastK ks).getD i 0 = 3 := by
  rw [lastK_get ks i hl, hi]; rfl
end Go.Proofs.Ytallanlajecmhaa
