/- CrashWhole: Values there; what slices.Values' closure reads. -/
import Derived.Test.YtomigaldomiefaaCrWhole
namespace Go.Proofs.Ytomigaldomiefaa
open Go.RowKit Go.Shelf Go.MapKept Go.ChangeMaps
set_option linter.unusedVariables false
set_option linter.unusedSimpArgs false

theorem valsAt_vl {w : World} {T : List Nat} {B Z : Nat} {vs : List (List Nat)} (h : ValsAt w B Z vs) (hZ : Z ∉ T) (hT : ∀ g ∈ T, ∀ cs, ¬ Row w g 9 cs) : ∃ A c, ∀ V, KpC T w V → VlAt V Z c A vs := by
  obtain ⟨h1, v, h2, h3⟩ := h
  obtain ⟨A, c, rfl, _, _⟩ := own_shape h3
  refine ⟨A, c, fun V hk => ?_⟩
  have h4 := own_kpc h3 hk hT
  have h5 := (hk.row h2 hZ).cell 0
  simp only [List.getElem?_toArray, List.getElem?_cons_zero] at h5
  refine ⟨h5, fun k x hx => ?_⟩
  have hkl := (List.getElem?_eq_some_iff.1 hx).1
  rcases h4.2 with ⟨_, h0⟩ | ⟨g, cap, cur, e1, _, hr, a1, a2, a3, a4⟩
  · omega
  · injection e1 with e1 _ _
    refine ⟨g, e1, ?_⟩
    have h6 : (cur.toList.take (vs.length * 1))[k]? = some (.string (textOf x)) := by rw [a4, List.getElem?_map, hx]; rfl
    rw [List.getElem?_take, if_pos (by omega)] at h6
    rw [(show Row V g _ cur from hr).cell]
    simpa using h6
theorem hasOf_small (pl : Int) (its : List Ws) (h : ∀ x ∈ its, ∀ u ∈ x.l, u < 256) : ∀ u ∈ hasOf pl its, u < 256 := by
  unfold hasOf
  suffices ∀ a : List Nat, (∀ u ∈ a, u < 256) → ∀ u ∈ its.foldl (stepW pl) a, u < 256 from this _ (by simp)
  induction its with
  | nil => intro a ha; exact ha
  | cons x its ih =>
    intro a ha
    rw [List.foldl_cons]
    refine ih (fun y hy => h y (List.mem_cons_of_mem _ hy)) _ ?_
    unfold stepW
    split
    · exact h x (by simp)
    · exact ha
/-- What Values hands on, of a state that has only what lasts. -/
def wholeL (n : Nat) (pl : Int) (its : List Ws) : List (List Nat) := if 0 ≤ pl ∧ pl < (n : Int) then [hasOf pl its] else []
theorem whole_vals (n : Nat) (its : List Ws) (pl : Int) (B C H L : Nat) (v4 v5 : Value) (w : World) (h : CrIs w B C H L v4 v5 ((cr0 n 2).durable (rightL n 2 its))) :
    Calls Try.prog 19 #[.pointer (some ⟨C, 0, none⟩), .int .i64 pl] w fun e w' => ∃ (Z : Nat), e = .returned (.func (.func 59) #[] #[.pointer (some ⟨Z, 0, none⟩)]) ∧ w.heap.size ≤ Z ∧ ValsAt w' w.heap.size Z (wholeL n pl its) ∧ Below w.heap.size w w' := by
  obtain ⟨h1, h2, h3, h4⟩ := durable_same (rightL n 2 its) (cr0 n 2)
  unfold wholeL
  by_cases hin : 0 ≤ pl ∧ pl < (n : Int)
  · rw [if_pos hin]
    obtain ⟨p, rfl⟩ := Int.eq_ofNat_of_zero_le hin.1
    refine (Values_in B C H L v4 v5 _ p (by rw [h1]; show p < n; omega) w h).mono ?_
    rintro e w' ⟨Z, vs, rfl, hZ, hv, hnd, hm, hb⟩
    refine ⟨Z, rfl, hZ, ?_, hb⟩
    have hm2 : ∀ d, d ∈ vs ↔ d = hasOf p its := fun d => by
      rw [hm, h3]
      show d ∈ (List.range (0 + 1)).flatMap _ ↔ _
      rw [show List.range (0 + 1) = [0] from rfl, List.flatMap_singleton, whole_level n its 0 p (by omega), List.mem_singleton]
    have : vs = [hasOf p its] := by
      match vs, hnd, hm2 with
      | [], _, hm2 => exact absurd ((hm2 _).2 rfl) (by simp)
      | [x], _, hm2 => rw [(hm2 x).1 (by simp)]
      | x :: y :: l, hnd, hm2 =>
        have ex := (hm2 x).1 (by simp)
        have ey := (hm2 y).1 (by simp)
        rw [List.nodup_cons] at hnd
        exact absurd (by rw [ex, ← ey]; simp) hnd.1
    rw [this] at hv
    exact hv
  · rw [if_neg hin]
    refine (Values_out B C H L v4 v5 _ pl (by rw [h1]; exact hin) w h).mono ?_
    rintro e w' ⟨Z, rfl, hZ, hv, hb⟩
    exact ⟨Z, rfl, hZ, hv, hb⟩
end Go.Proofs.Ytomigaldomiefaa
