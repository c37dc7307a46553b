/- CrashHonest, in plain Lean. -/
import Derived.Test.YtomigaldomiefaaCrWholeP
import Derived.Test.YtomigaldomiefaaCrSettle
namespace Go.Proofs.Ytomigaldomiefaa
set_option linter.unusedVariables false
set_option linter.unusedSimpArgs false

/-- A write that is put. -/
def putH (n : Nat) (h : Nat → List Nat) (x : Ws) : Nat → List Nat := fun p => if (0 ≤ x.s ∧ x.s < (n : Int) ∧ x.l.length = 2) ∧ p = x.s.toNat then x.l else h p
def oneL (n : Nat) (x : Ws) : List Wr := if 0 ≤ x.s ∧ x.s < (n : Int) ∧ x.l.length = 2 then [x.key] else []
theorem ofP_append (l m : List Wr) (p : Nat) : ofP (l ++ m) p = ofP l p ++ ofP m p := by unfold ofP; rw [List.filterMap_append]
theorem ofP_one (n : Nat) (x : Ws) (p : Nat) : ofP (oneL n x) p = if (0 ≤ x.s ∧ x.s < (n : Int) ∧ x.l.length = 2) ∧ p = x.s.toNat then [x.l] else [] := by
  unfold oneL
  by_cases h : 0 ≤ x.s ∧ x.s < (n : Int) ∧ x.l.length = 2
  · rw [if_pos h]
    by_cases hp : p = x.s.toNat
    · rw [if_pos ⟨h, hp⟩, hp]; simp [ofP]
    · rw [if_neg (fun h2 => hp h2.2)]; simp [ofP, Ne.symm hp]
  · rw [if_neg h, if_neg (fun h2 => h h2.1)]; rfl
theorem putH_last (n : Nat) (h : Nat → List Nat) (x : Ws) (p : Nat) : putH n h x p = (ofP (oneL n x) p).getLast?.getD (h p) := by
  rw [ofP_one]
  unfold putH
  split <;> rfl
theorem putH_mem (n : Nat) (h : Nat → List Nat) (x : Ws) (p : Nat) : putH n h x p = h p ∨ putH n h x p ∈ ofP (oneL n x) p := by
  rw [ofP_one]
  unfold putH
  split
  · right; simp
  · left; rfl
theorem putH_step (n : Nat) (h : Nat → List Nat) (x : Ws) (p : Nat) (hp : p < n) : putH n h x p = stepW p (h p) x := by
  unfold putH stepW
  by_cases h1 : x.s = p ∧ x.l.length = 2
  · rw [if_pos h1, if_pos ⟨⟨by omega, by omega, h1.2⟩, by omega⟩]
  · rw [if_neg h1, if_neg (fun h2 => h1 ⟨by omega, h2.1.2.2⟩)]
theorem last_append {α : Type} (l m : List α) (b : α) : (l ++ m).getLast?.getD b = m.getLast?.getD (l.getLast?.getD b) := by
  rw [List.getLast?_append]
  cases m.getLast? <;> rfl
theorem right_step (n : Nat) (its : List Ws) (k : Nat) (x : Ws) (hx : its[k]? = some x) : rightL n 2 (its.take (k + 1)) = rightL n 2 (its.take k) ++ oneL n x := rightL_take n 2 its k x hx
theorem putH_length (n : Nat) (h : Nat → List Nat) (x : Ws) (p : Nat) (hh : (h p).length = 2) : (putH n h x p).length = 2 := by
  unfold putH
  split
  · rename_i hx; exact hx.1.2.2
  · exact hh
section
variable {S : Cr} {gss : List Gs} (hG : S.groups = rightG S.n 2 gss)
include hG
theorem group_at (g : Nat) (G : Gs) (h : gss[g]? = some G) : S.groups.getD g [] = rightL S.n 2 G.its := by
  rw [hG, rightG, List.getD_eq_getElem?_getD, List.getElem?_map, h]; rfl
/-- Ahead of a level: each write of a group. -/
def Front (S : Cr) (g : Nat) (gi : List Ws) (i : Nat) (h : Nat → List Nat) : Prop := ∀ p, p < S.n → h p = (S.ahead g p ++ ofP (rightL S.n 2 (gi.take i)) p).getLast?.getD (S.base0 p)
/-- At a level: some writes of a group. -/
def Some' (S : Cr) (g : Nat) (l : List Wr) (h : Nat → List Nat) : Prop := ∀ p, p < S.n → h p = S.base g p ∨ h p ∈ ofP l p
omit hG in
theorem front_start (g : Nat) (gi : List Ws) (h : Nat → List Nat) (hb : ∀ p, p < S.n → h p = S.base g p) : Front S g gi 0 h := fun p hp => by
  rw [hb p hp]; simp [rightL, ofP, Cr.base]
omit hG in
theorem front_step (g : Nat) (gi : List Ws) (i : Nat) (x : Ws) (hx : gi[i]? = some x) (h : Nat → List Nat) (hf : Front S g gi i h) : Front S g gi (i + 1) (putH S.n h x) := fun p hp => by
  rw [putH_last, hf p hp, right_step S.n gi i x hx, ofP_append, ← List.append_assoc, last_append (S.ahead g p ++ _)]
theorem front_end (g : Nat) (G : Gs) (hg : gss[g]? = some G) (h : Nat → List Nat) (hf : Front S g G.its G.its.length h) : ∀ p, p < S.n → h p = S.base (g + 1) p := fun p hp => by
  rw [hf p hp, List.take_length]
  unfold Cr.base
  congr 2
  have hgr : S.groups[g]? = some (rightL S.n 2 G.its) := by rw [hG, rightG, List.getElem?_map, hg]; rfl
  unfold Cr.ahead
  rw [List.take_add_one, hgr, List.flatMap_append]; simp
omit hG in
theorem some_start (g : Nat) (h : Nat → List Nat) (hb : ∀ p, p < S.n → h p = S.base g p) : Some' S g [] h := fun p hp => .inl (hb p hp)
omit hG in
theorem some_step (g : Nat) (gi : List Ws) (i : Nat) (x : Ws) (hx : gi[i]? = some x) (h : Nat → List Nat) (hf : Some' S g (rightL S.n 2 (gi.take i)) h) : Some' S g (rightL S.n 2 (gi.take (i + 1))) (putH S.n h x) ∧ Some' S g (rightL S.n 2 (gi.take (i + 1))) h := by
  refine ⟨fun p hp => ?_, fun p hp => ?_⟩ <;> rw [right_step S.n gi i x hx, ofP_append]
  · rcases putH_mem S.n h x p with e | e
    · rw [e]; exact (hf p hp).imp id fun h => List.mem_append_left _ h
    · exact .inr (List.mem_append_right _ e)
  · exact (hf p hp).imp id fun h => List.mem_append_left _ h
end
/-- Behind the groups: at some level. -/
def Mid (S : Cr) (h : Nat → List Nat) : Prop := ∃ k, k ≤ S.groups.length ∧ Some' S k (S.groups.getD k []) h
/-- At the head of the round of a group. -/
def Outer (S : Cr) (level : Int) (g : Nat) (h : Nat → List Nat) : Prop := (∀ p, p < S.n → h p = S.base g p) ∨ (level < (g : Int) ∧ 1 ≤ g ∧ Some' S (g - 1) (S.groups.getD (g - 1) []) h)
theorem outer_mid (S : Cr) (level : Int) (g : Nat) (h : Nat → List Nat) (hg : g ≤ S.groups.length) (ho : Outer S level g h) : Mid S h := by
  rcases ho with h1 | ⟨_, h2, h3⟩
  · exact ⟨g, hg, fun p hp => .inl (h1 p hp)⟩
  · exact ⟨g - 1, by omega, h3⟩
/-- In flight, some. -/
def Last (S : Cr) (l : List Wr) (h : Nat → List Nat) : Prop := ∃ k, k ≤ S.groups.length ∧ ∀ p, p < S.n → (h p = S.base k p ∨ h p ∈ ofP (S.groups.getD k []) p) ∨ h p ∈ ofP l p
theorem last_start (S : Cr) (h : Nat → List Nat) (hm : Mid S h) : Last S [] h := by
  obtain ⟨k, hk, hs⟩ := hm
  exact ⟨k, hk, fun p hp => .inl (hs p hp)⟩
theorem last_step (S : Cr) (gi : List Ws) (i : Nat) (x : Ws) (hx : gi[i]? = some x) (h : Nat → List Nat) (hf : Last S (rightL S.n 2 (gi.take i)) h) : Last S (rightL S.n 2 (gi.take (i + 1))) (putH S.n h x) ∧ Last S (rightL S.n 2 (gi.take (i + 1))) h := by
  obtain ⟨k, hk, hs⟩ := hf
  refine ⟨⟨k, hk, fun p hp => ?_⟩, ⟨k, hk, fun p hp => ?_⟩⟩ <;> rw [right_step S.n gi i x hx, ofP_append]
  · rcases putH_mem S.n h x p with e | e
    · rw [e]; exact (hs p hp).imp id fun h => List.mem_append_left _ h
    · exact .inr (List.mem_append_right _ e)
  · exact (hs p hp).imp id fun h => List.mem_append_left _ h
theorem last_may (S : Cr) (h : Nat → List Nat) (hl : Last S S.fly h) : S.may h = true := by
  rw [Cr.may_iff]
  obtain ⟨k, hk, hs⟩ := hl
  refine ⟨k, hk, fun p hp => ?_⟩
  unfold Cr.at Cr.level
  rw [Bool.or_eq_true, List.contains_iff_mem]
  left
  simp only [List.mem_cons, List.mem_append]
  rcases hs p hp with (h1 | h1) | h1
  · exact .inl h1
  · exact .inr (.inr (.inr h1))
  · exact .inr (.inr (.inl h1))
theorem settled_may (S : Cr) (h : Nat → List Nat) (hl : ∀ p, p < S.n → (h p).length = S.sz) : (S.settled h S.n).may h = true := by
  rw [Cr.may_iff]
  refine ⟨0, Nat.zero_le _, fun p hp => ?_⟩
  have hp' : p < S.n := hp
  unfold Cr.at Cr.level Cr.base Cr.ahead Cr.base0 Cr.settled
  simp [hp', hl p hp']
theorem may_congr (S : Cr) (r r' : Nat → List Nat) (h : ∀ p, p < S.n → r p = r' p) : S.may r = S.may r' := by
  rw [Bool.eq_iff_iff, Cr.may_iff, Cr.may_iff]
  constructor <;> rintro ⟨k, hk, h1⟩ <;> refine ⟨k, hk, fun p hp => ?_⟩
  · rw [← h p hp]; exact h1 p hp
  · rw [h p hp]; exact h1 p hp
end Go.Proofs.Ytomigaldomiefaa
