/- CrashWhole, in plain Lean. -/
import Derived.Test.YtomigaldomiefaaCrDurable
namespace Go.Proofs.Ytomigaldomiefaa
set_option linter.unusedVariables false
set_option linter.unusedSimpArgs false

/-- What writes leave at a place. -/
def stepW (pl : Int) (h : List Nat) (x : Ws) : List Nat := if x.s = pl ∧ x.l.length = 2 then x.l else h
def hasOf (pl : Int) (its : List Ws) : List Nat := its.foldl (stepW pl) [0, 0]
theorem hasOf_take (pl : Int) (its : List Ws) (k : Nat) (x : Ws) (h : its[k]? = some x) : hasOf pl (its.take (k + 1)) = stepW pl (hasOf pl (its.take k)) x := by
  unfold hasOf
  rw [List.take_add_one, h, List.foldl_append]; rfl
theorem hasOf_length (pl : Int) (its : List Ws) : (hasOf pl its).length = 2 := by
  unfold hasOf
  suffices ∀ h : List Nat, h.length = 2 → (its.foldl (stepW pl) h).length = 2 from this _ rfl
  induction its with
  | nil => intro h hh; exact hh
  | cons x its ih =>
    intro h hh
    rw [List.foldl_cons]
    refine ih _ ?_
    unfold stepW
    split
    · rename_i hx; exact hx.2
    · exact hh
theorem durable_base0 (n p : Nat) (hp : p < n) (its : List Ws) : ∀ S : Cr, S.sz = 2 → (S.durable (rightL n 2 its)).base0 p = its.foldl (stepW p) (S.base0 p) ∧ (S.durable (rightL n 2 its)).loose p = (S.durable (rightL n 2 its)).loose p := by
  induction its with
  | nil => intro S _; exact ⟨rfl, rfl⟩
  | cons x its ih =>
    intro S hS
    refine ⟨?_, rfl⟩
    by_cases hx : 0 ≤ x.s ∧ x.s < (n : Int) ∧ x.l.length = 2
    · have e : rightL n 2 (x :: its) = x.key :: rightL n 2 its := by
        unfold rightL
        rw [List.filter_cons_of_pos (by simpa using hx)]; rfl
      rw [e]
      show ((S.put x.key).durable (rightL n 2 its)).base0 p = _
      rw [(ih (S.put x.key) hS).1, List.foldl_cons]
      congr 1
      unfold stepW Cr.base0 Cr.put updH
      show (if p = x.s.toNat then some x.l else S.has p).getD (zs S.sz) = _
      by_cases h : p = x.s.toNat
      · rw [if_pos h, if_pos ⟨by omega, hx.2.2⟩]; rfl
      · rw [if_neg h, if_neg (fun h2 => h (by have := h2.1; omega))]
    · have e : rightL n 2 (x :: its) = rightL n 2 its := by
        unfold rightL
        rw [List.filter_cons_of_neg (by simpa using hx)]
      rw [e, (ih S hS).1, List.foldl_cons]
      congr 1
      unfold stepW
      rw [if_neg (fun h => hx ⟨by omega, by omega, h.2⟩)]
theorem durable_loose (l : List Wr) : ∀ S : Cr, (∀ p, S.loose p = false) → ∀ p, (S.durable l).loose p = false := by
  induction l with
  | nil => intro S h; exact h
  | cons x l ih =>
    intro S h
    refine ih (S.put x) (fun p => ?_)
    unfold Cr.put updL
    show (if p = x.1 then false else S.loose p) = false
    split
    · rfl
    · exact h p
section
variable (n : Nat) (its : List Ws)
theorem whole_level (k p : Nat) (hp : p < n) : ((cr0 n 2).durable (rightL n 2 its)).level k p = [hasOf p its] := by
  obtain ⟨h1, h2, h3, h4⟩ := durable_same (rightL n 2 its) (cr0 n 2)
  have h5 := durable_loose (rightL n 2 its) (cr0 n 2) (fun _ => rfl) p
  have hm : ((cr0 n 2).durable (rightL n 2 its)).mov p = false := by
    unfold Cr.mov
    rw [h3, h4, h5]; rfl
  rw [still_level hm, (durable_base0 n p hp its (cr0 n 2) rfl).1]
  rfl
theorem whole_may (pl : Int) (o : List Nat) (ho : o.length = 2) (hbo : ∀ u ∈ o, u < 256) : ((cr0 n 2).durable (rightL n 2 its)).may (fun p => if (p : Int) = pl then o else []) = (!decide (0 ≤ pl ∧ pl < (n : Int)) || (o == hasOf pl its)) := by
  obtain ⟨h1, h2, h3, h4⟩ := durable_same (rightL n 2 its) (cr0 n 2)
  rw [Bool.eq_iff_iff, Cr.may_iff, h3, h1]
  show (∃ k, k ≤ 0 ∧ ∀ p, p < n → _) ↔ _
  simp only [Bool.or_eq_true, Bool.not_eq_true', decide_eq_false_iff_not, beq_iff_eq]
  have hat : ∀ k p, p < n → ∀ b : List Nat, ((cr0 n 2).durable (rightL n 2 its)).at k p b = true ↔ (b = hasOf p its ∨ b = []) := fun k p hp b => by
    unfold Cr.at
    rw [whole_level n its k p hp]
    simp only [Bool.or_eq_true, List.contains_iff_mem, List.mem_singleton, List.isEmpty_iff]
  constructor
  · rintro ⟨k, _, h⟩
    by_cases hin : 0 ≤ pl ∧ pl < (n : Int)
    · right
      have h6 := h pl.toNat (by omega)
      rw [hat k _ (by omega), if_pos (by omega)] at h6
      rcases h6 with h6 | h6
      · rw [h6]; congr 1; omega
      · rw [h6] at ho; cases ho
    · exact .inl hin
  · intro h
    refine ⟨0, Nat.le_refl _, fun p hp => ?_⟩
    rw [hat 0 p hp]
    by_cases e : (p : Int) = pl
    · rw [if_pos e]
      rcases h with h | h
      · exact absurd ⟨by omega, by omega⟩ h
      · left; rw [h, e]
    · rw [if_neg e]; right; rfl
end
end Go.Proofs.Ytomigaldomiefaa
