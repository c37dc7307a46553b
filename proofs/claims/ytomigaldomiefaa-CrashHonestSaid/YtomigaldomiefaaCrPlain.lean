/- crash, in plain Lean: what a place may have. -/
import Derived.Test.YtomigaldomiefaaBase
namespace Go.Proofs.Ytomigaldomiefaa
set_option linter.unusedVariables false
set_option linter.unusedSimpArgs false

/-- A write that may be: its place, its bytes. -/
abbrev Wr := Nat × List Nat
structure Cr where
  n : Nat
  sz : Nat
  has : Nat → Option (List Nat)
  loose : Nat → Bool
  groups : List (List Wr)
  fly : List Wr
def ofP (l : List Wr) (p : Nat) : List (List Nat) := l.filterMap fun x => if x.1 = p then some x.2 else none
def zs (n : Nat) : List Nat := List.replicate n 0
def Cr.base0 (S : Cr) (p : Nat) : List Nat := (S.has p).getD (zs S.sz)
def Cr.ahead (S : Cr) (k p : Nat) : List (List Nat) := (S.groups.take k).flatMap fun g => ofP g p
def Cr.base (S : Cr) (k p : Nat) : List Nat := (S.ahead k p).getLast?.getD (S.base0 p)
def Cr.level (S : Cr) (k p : Nat) : List (List Nat) := S.base k p :: ((if S.loose p && (S.ahead k p).isEmpty then [zs S.sz] else []) ++ (ofP S.fly p ++ ofP (S.groups.getD k []) p))
def Cr.at (S : Cr) (k p : Nat) (b : List Nat) : Bool := (S.level k p).contains b || b.isEmpty
def inW (l : List Wr) (p : Nat) : Bool := l.any fun x => x.1 == p
def Cr.mov (S : Cr) (p : Nat) : Bool := S.groups.any (fun g => inW g p) || inW S.fly p || S.loose p
def Cr.may (S : Cr) (rd : Nat → List Nat) : Bool :=
  ((List.range S.n).all fun p => S.mov p || S.at 0 p (rd p)) && ((List.range (S.groups.length + 1)).any fun k => (List.range S.n).all fun p => !S.mov p || S.at k p (rd p))
theorem ofP_none {l : List Wr} {p : Nat} (h : inW l p = false) : ofP l p = [] := by
  unfold inW at h
  unfold ofP
  rw [List.filterMap_eq_nil_iff]
  intro x hx
  rw [List.any_eq_false] at h
  have := h x hx
  rw [if_neg (by simpa using this)]
theorem mem_ofP {l : List Wr} {p : Nat} {b : List Nat} : b ∈ ofP l p ↔ (p, b) ∈ l := by
  unfold ofP
  rw [List.mem_filterMap]
  constructor
  · rintro ⟨⟨q, d⟩, hx, he⟩
    by_cases h : q = p
    · rw [if_pos h] at he; injection he with he; subst h; subst he; exact hx
    · rw [if_neg h] at he; cases he
  · intro h; exact ⟨(p, b), h, by simp⟩
theorem still_level {S : Cr} {p : Nat} (h : S.mov p = false) (k : Nat) : S.level k p = [S.base0 p] := by
  unfold Cr.mov at h
  simp only [Bool.or_eq_false_iff] at h
  obtain ⟨⟨hg, hf⟩, hl⟩ := h
  rw [List.any_eq_false] at hg
  have ha : S.ahead k p = [] := by
    unfold Cr.ahead
    rw [List.flatMap_eq_nil_iff]
    intro g hgm
    exact ofP_none (by simpa using hg g (List.mem_of_mem_take hgm))
  have hk : ofP (S.groups.getD k []) p = [] := by
    rw [List.getD_eq_getElem?_getD]
    cases hx : S.groups[k]? with
    | none => rfl
    | some g => exact ofP_none (by simpa using hg g (List.mem_of_getElem? hx))
  unfold Cr.level Cr.base
  rw [ha, hl, ofP_none hf, hk]
  rfl
theorem Cr.may_iff (S : Cr) (rd : Nat → List Nat) : S.may rd = true ↔ ∃ k, k ≤ S.groups.length ∧ ∀ p, p < S.n → S.at k p (rd p) = true := by
  unfold Cr.may
  rw [Bool.and_eq_true, List.all_eq_true, List.any_eq_true]
  simp only [List.mem_range, List.all_eq_true]
  constructor
  · rintro ⟨h1, k, hk, h2⟩
    refine ⟨k, by omega, fun p hp => ?_⟩
    cases hm : S.mov p with
    | true => have := h2 p hp; rw [hm] at this; simpa using this
    | false =>
      have := h1 p hp
      rw [hm] at this
      unfold Cr.at at this ⊢
      rw [still_level hm] at this ⊢
      simpa using this
  · rintro ⟨k, hk, h⟩
    refine ⟨fun p hp => ?_, k, by omega, fun p hp => by rw [h p hp]; simp⟩
    cases hm : S.mov p with
    | true => simp
    | false =>
      have := h p hp
      unfold Cr.at at this ⊢
      rw [still_level hm] at this ⊢
      simpa using this
/-- The state at the start. -/
def cr0 (n sz : Nat) : Cr := ⟨n, sz, fun _ => none, fun _ => false, [], []⟩
/-- CrashStrict, in plain Lean. -/
theorem strict_plain (n : Nat) (one two : Nat) (h1 : one < n) (h2 : two < n) (hne : one ≠ two) (first then' : List Nat) (hf : first.length = 2) (ht : then'.length = 2) (f0 : first.getD 0 0 ≠ 0) (t0 : then'.getD 0 0 ≠ 0) (last : List Wr) (hl : ∀ x ∈ last, x.1 ≠ one ∧ x.1 ≠ two) (rd : Nat → List Nat) (r1 : rd one = [0, 0]) (r2 : rd two = then') :
    ({ cr0 n 2 with groups := [[(one, first)], (two, then') :: last] } : Cr).may rd = false := by
  rw [Bool.eq_false_iff]
  intro h
  rw [Cr.may_iff] at h
  obtain ⟨k, hk, h⟩ := h
  have ho : ∀ p, p = one ∨ p = two → ofP last p = [] := fun p hp => ofP_none (by
    unfold inW
    rw [List.any_eq_false]
    intro x hx
    obtain ⟨a, b⟩ := hl x hx
    rcases hp with rfl | rfl <;> simpa using by assumption)
  have hfz : first ≠ [0, 0] := fun e => f0 (by rw [e]; rfl)
  have htz : then' ≠ [0, 0] := fun e => t0 (by rw [e]; rfl)
  have htn : then' ≠ [] := fun e => by rw [e] at ht; cases ht
  have e1 : ofP ((two, then') :: last) one = [] := by
    have := ho one (.inl rfl)
    unfold ofP at this ⊢
    rw [List.filterMap_cons_none (by simp [Ne.symm hne])]; exact this
  have e2 : ofP [(one, first)] two = [] := by simp [ofP, hne]
  have e3 : ofP [(one, first)] one = [first] := by simp [ofP]
  match k, hk with
  | 0, _ =>
    have h := h two h2
    rw [r2] at h
    simp [Cr.at, Cr.level, Cr.base, Cr.ahead, Cr.base0, cr0, e2, ofP, zs, htz, htn, hne, List.replicate] at h
  | 1, _ =>
    have h := h one h1
    rw [r1] at h
    simp [Cr.at, Cr.level, Cr.base, Cr.ahead, Cr.base0, cr0, e1, e3, show ofP [] one = [] from rfl, Ne.symm hfz] at h
  | 2, _ =>
    have h := h one h1
    rw [r1] at h
    simp [Cr.at, Cr.level, Cr.base, Cr.ahead, Cr.base0, cr0, e1, e3, show ofP [] one = [] from rfl, Ne.symm hfz] at h
  | k + 3, hk => simp at hk
end Go.Proofs.Ytomigaldomiefaa
