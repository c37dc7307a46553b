/- What follows is laid together from several texts of mine, in their order. -/
import Derived.Test.YtclhhdodebdmjaaGreatQ2
import Derived.Deep.RegionHeldLaw

namespace Go.Proofs.YtclhhdodebdmjaaGreat
open Go.RowKit
set_option linter.unusedVariables false
set_option linter.unusedSimpArgs false

/-- An operation that yields a value and nothing else. -/
def yieldsOnly (o : Oper) : Bool :=
  match o.op with
  | .move _ | .assign _ | .pick .. | .load .. | .binOp .. | .unOp .. | .convert .. | .build .. | .slice .. | .fieldAddr .. | .field .. | .indexAddr .. | .index .. | .lookup .. | .extract .. | .makeFunc .. | .makeInterface .. => true
  | .call c => match c.callee with | .builtin .len | .builtin .cap => true | _ => false
  | .nilCheck _ => true
  | _ => false
section
variable {P : Program}
theorem value_of_bind {s : Sem Value} {w w' : World} {r : Next} (h : (do pure (Next.value (← s)) : Sem Next).run P w = .ok r w') : ∃ v, r = .value v := by
  simp only [Sem.run_bind] at h
  generalize s.run P w = x at h
  cases x with
  | ok v w1 => simp only [Result.andThen_ok, Sem.run_pure] at h; injection h with h _; exact ⟨v, h.symm⟩
  | halt a b => simp [Result.andThen] at h
theorem yieldsOnly_spec {o : Oper} (h : yieldsOnly o = true) (ρ : Operand → Value) {w w' : World} {r : Next} (hr : (execOp ρ o).run P w = .ok r w') : ∃ v, r = .value v := by
  obtain ⟨dst, op, type, pos, after, guard⟩ := o
  cases op <;> simp only [yieldsOnly] at h <;> try (cases h; done)
  case move x => simp only [execOp, Sem.run_pure] at hr; injection hr with hr _; exact ⟨_, hr.symm⟩
  case assign x => simp only [execOp, Sem.run_pure] at hr; injection hr with hr _; exact ⟨_, hr.symm⟩
  case pick c a b =>
    simp only [execOp, Sem.run_bind] at hr
    generalize (asBool (ρ c)).run P w = x at hr
    cases x with
    | ok v w1 => simp only [Result.andThen_ok, Sem.run_pure] at hr; injection hr with hr _; exact ⟨_, hr.symm⟩
    | halt a b => simp [Result.andThen] at hr
  case nilCheck x =>
    simp only [execOp] at hr
    repeat' split at hr
    all_goals first
      | (simp [runtimePanic] at hr; done)
      | (simp only [Sem.run_pure] at hr; injection hr with hr _; exact ⟨_, hr.symm⟩)
      | skip
    all_goals
      simp only [Sem.run_bind, run_program, Result.andThen_ok] at hr
      generalize (nilAhead _ _ _ _).run P w = y at hr
      cases y with
      | ok v w1 =>
        simp only [Result.andThen_ok] at hr
        split at hr
        · simp [unsupported] at hr
        · simp only [Sem.run_bind, Sem.run_pure, Result.andThen_ok] at hr; injection hr with hr _; exact ⟨_, hr.symm⟩
      | halt a b => simp [Result.andThen] at hr
  case call c =>
    obtain ⟨callee, args, ats⟩ := c
    cases callee <;> simp only at h <;> try (cases h; done)
    rename_i b
    cases b <;> simp only at h <;> try (cases h; done)
    · rw [BigFrame.execOp_builtin] at hr; exact value_of_bind hr
    · rw [BigFrame.execOp_builtin] at hr; exact value_of_bind hr
  all_goals exact value_of_bind hr

/-- What is asked at the end: of the way on, or of another way out. -/
def outQ (Q : Exit → Act → World → Prop) (N : Act → World → Prop) : Exit → Act → World → Prop
  | .normal, a, w => N a w
  | e, a, w => Q e a w
theorem oper_wp_post {o : Oper} {a : Act} {w : World} {K : Act → World → Prop} {Q Q' : Exit → Act → World → Prop} (hp : ∀ c a w, Q (.panic c) a w → Q' (.panic c) a w) (ho : LetsOut Q → LetsOut Q')
    (h : o.wp P a w K Q) : o.wp P a w K Q' := by
  unfold Oper.wp at *
  generalize (execOp a.eval o).run P w = r at *
  cases r with
  | ok n w' =>
    cases n <;> simp only [Oper.upon] at h ⊢ <;>
      first
        | exact h
        | exact Calls.mono h (fun e w'' he => by cases e <;> first | exact he | exact hp _ _ _ he | exact ho he)
  | halt x w' => cases x <;> simp only [Oper.upon] at h ⊢ <;> first | exact h | exact hp _ _ _ h
theorem letsOut_outQ {Q : Exit → Act → World → Prop} {N N' : Act → World → Prop} (h : LetsOut (outQ Q N)) : LetsOut (outQ Q N') := by
  obtain ⟨a, w, h⟩ := h; exact ⟨a, w, h⟩
theorem letsOut_of_outQ {Q : Exit → Act → World → Prop} {N : Act → World → Prop} (h : LetsOut (outQ Q N)) : LetsOut Q := by
  obtain ⟨a, w, h⟩ := h; exact ⟨a, w, h⟩

def gOk (n : Nat) (o : Oper) : Bool := match o.guard with | some (g, _) => decide (g < n) | none => true
theorem wanted_take {l : List Oper} {n : Nat} {o : Oper} (hg : gOk n o = true) (tmps : Array Value) : Region.wanted o (yielded (l.take n).toArray tmps) = Region.wanted o (yielded l.toArray tmps) := by
  unfold Region.wanted
  unfold gOk at hg
  cases hgd : o.guard with
  | none => rfl
  | some g =>
    obtain ⟨j, want⟩ := g
    rw [hgd] at hg
    simp only [decide_eq_true_eq] at hg
    have : yielded (l.take n).toArray tmps j = yielded l.toArray tmps j := by
      unfold yielded
      simp [List.getElem?_take, hg]
    show (yielded (l.take n).toArray tmps j == some want) = (yielded l.toArray tmps j == some want)
    rw [this]

/-- One operation after the other; behind each but the last S is shown anew. -/
def wpSeqS (P : Program) (ops : Array Oper) (S : World → Prop) (Q : Exit → Act → World → Prop) : List Oper → Act → World → Prop
  | [], a, w => Q .normal a w
  | [o], a, w => wpList P ops Q [o] a w
  | o :: o' :: rest, a, w => wpList P ops (outQ Q fun a' w' => S w' ∧ wpSeqS P ops S Q (o' :: rest) a' w') [o] a w
theorem wpSeqS_step {ops : Array Oper} {S : World → Prop} {Q : Exit → Act → World → Prop} {o o' : Oper} {rest : List Oper} {a : Act} {w : World} (h : wpList P ops (outQ Q fun a' w' => S w' ∧ wpSeqS P ops S Q (o' :: rest) a' w') [o] a w) : wpSeqS P ops S Q (o :: o' :: rest) a w := h
theorem wpSeqS_last {ops : Array Oper} {S : World → Prop} {Q : Exit → Act → World → Prop} {o : Oper} {a : Act} {w : World} (h : wpList P ops Q [o] a w) : wpSeqS P ops S Q [o] a w := h
theorem outQ_normal {Q : Exit → Act → World → Prop} {S : World → Prop} {N : Act → World → Prop} {a : Act} {w : World} (hS : S w) (h : N a w) : outQ Q (fun a w => S w ∧ N a w) .normal a w := ⟨hS, h⟩
/-- These may be taken first, one behind the other. -/
def takesB (ops : Array Oper) : Array Bool → List Nat → Bool
  | _, [] => true
  | listed, i :: is => Region.free .any ops listed i && (Region.ready .any ops listed).contains i && takesB ops (listed.setIfInBounds i true) is
/-- Of these each is the one that may come up, and then there is none. -/
def chainB (ops : Array Oper) : Array Bool → List Nat → Bool
  | listed, [] => (Region.ready .any ops listed).isEmpty
  | listed, i :: is => (Region.ready .any ops listed) == [i] && chainB ops (listed.setIfInBounds i true) is
def listAll (listed : Array Bool) (is : List Nat) : Array Bool := is.foldl (fun l i => l.setIfInBounds i true) listed

variable {l : List Oper} {S : World → Prop} {Q : Exit → Act → World → Prop}
theorem anyH_takes (n : Nat) {N : Act → World → Prop} (hs : Region.noSelect (l.take n).toArray = true) : ∀ (rs : List Nat) (fuel : Nat) (listed : Array Bool) (a : Act) (w : World), takesB (l.take n).toArray listed rs = true → (∀ i ∈ rs, ∃ o, l[i]? = some o ∧ i < n ∧ yieldsOnly o = true ∧ gOk n o = true) → S w →
    (∀ c a d v w, outQ Q N (.panic c) (a.put d v) w → outQ Q N (.panic c) a w) →
    wpQuiet P l.toArray S (fun a' => wpAnyH P .any (l.take n).toArray (outQ Q N) S fuel (listAll listed rs) a' w) (rs.filterMap (l[·]?)) a →
    wpAnyH P .any (l.take n).toArray (outQ Q N) S (fuel + rs.length) listed a w
  | [], fuel, listed, a, w, _, _, _, _, h => by simpa [listAll, wpQuiet] using h
  | i :: rs, fuel, listed, a, w, hB, hr, hS, hQ, h => by
    obtain ⟨o, ho, hin, hy, hg⟩ := hr i (by simp)
    simp only [takesB, Bool.and_eq_true] at hB
    obtain ⟨⟨hf, hc⟩, hB⟩ := hB
    have ho' : (l.take n).toArray[i]? = some o := by simp [List.getElem?_take, hin, ho]
    rw [List.filterMap_cons, ho] at h
    simp only at h
    unfold wpQuiet at h
    have key : ∃ v, YieldsIf P (l.take n).toArray S o v a ∧ wpQuiet P l.toArray S (fun a' => wpAnyH P .any (l.take n).toArray (outQ Q N) S fuel (listAll listed (i :: rs)) a' w) (rs.filterMap (l[·]?)) (a.put o.dst v) := by
      by_cases hw : Region.wanted o (yielded l.toArray a.tmps) = true
      · rw [if_pos hw] at h
        obtain ⟨v, hv, hn⟩ := h
        refine ⟨v, .inl ⟨by rw [wanted_take hg]; exact hw, fun w1 hw1 => ?_⟩, hn⟩
        have h1 := hv w1 hw1
        unfold Oper.quietAt at h1
        cases hx : (execOp a.eval o).run P w1 with
        | halt x w2 => rw [hx] at h1; exact h1.elim
        | ok r w2 =>
          obtain ⟨v2, rfl⟩ := yieldsOnly_spec hy _ hx
          rw [hx] at h1
          obtain ⟨rfl, rfl⟩ := h1
          rfl
      · rw [if_neg hw] at h
        exact ⟨undef, .inr ⟨by rw [wanted_take hg]; simpa using hw, rfl⟩, h⟩
    obtain ⟨v, hy', hn⟩ := key
    refine wpAnyH_take ho' hs hf hc (fun c a' w' h' => hQ c a' _ _ w' h') hy' hS ?_
    exact anyH_takes n hs rs fuel _ _ w hB (fun j hj => hr j (by simp [hj])) hS hQ hn

theorem wpSeqS_cons {ops : Array Oper} {o : Oper} {rest : List Oper} (hr : rest ≠ []) {a : Act} {w : World} (h : wpSeqS P ops S Q (o :: rest) a w) : wpList P ops (outQ Q fun a' w' => S w' ∧ wpSeqS P ops S Q rest a' w') [o] a w := by
  cases rest with
  | nil => exact absurd rfl hr
  | cons o' rest => exact h
theorem wpOp_of_list {n i : Nat} {o : Oper} (ho : l[i]? = some o) (hin : i < n) (hg : gOk n o = true) {N N' : Act → World → Prop} {K : Act → World → Prop} {a : Act} {w : World} (hK : ∀ a w, N' a w → K a w)
    (h : wpList P l.toArray (outQ Q N') [o] a w) : wpOp P (l.take n).toArray (outQ Q N) i K a w := by
  have ho' : (l.take n).toArray[i]? = some o := by simp [List.getElem?_take, hin, ho]
  unfold wpOp
  simp only [ho']
  unfold wpList at h
  rw [wanted_take hg]
  by_cases hw : Region.wanted o (yielded l.toArray a.tmps) = true
  · rw [if_pos hw] at h ⊢
    rcases h with h | h
    · exact .inl (oper_wp_post (fun c a w h => h) letsOut_outQ (Oper.wp_mono (fun a w h => hK a w h) h))
    · exact .inr ⟨h.1, letsOut_outQ h.2⟩
  · rw [if_neg hw] at h ⊢
    exact hK _ _ h
theorem anyH_chain (n : Nat) {last : Oper} : ∀ (ts : List Nat) (listed : Array Bool) (a : Act) (w : World), chainB (l.take n).toArray listed ts = true → (∀ i ∈ ts, ∃ o, l[i]? = some o ∧ i < n ∧ gOk n o = true) →
    wpSeqS P l.toArray S Q (ts.filterMap (l[·]?) ++ [last]) a w → wpAnyH P .any (l.take n).toArray (outQ Q fun a w => wpList P l.toArray Q [last] a w) S ts.length listed a w
  | [], listed, a, w, hB, _, h => wpAnyH_done (by simpa [chainB] using hB) h _
  | t :: ts, listed, a, w, hB, hr, h => by
    obtain ⟨o, ho, hin, hg⟩ := hr t (by simp)
    simp only [chainB, Bool.and_eq_true, beq_iff_eq] at hB
    rw [List.filterMap_cons, ho] at h
    have h := wpSeqS_cons (rest := ts.filterMap (l[·]?) ++ [last]) (by simp) h
    refine wpAnyH_all hB.1 (by simp) (fun i hi => ?_)
    simp only [List.mem_singleton] at hi
    subst hi
    exact wpOp_of_list ho hin hg (fun a' w' h' => ⟨h'.1, anyH_chain n ts _ a' w' hB.2 (fun j hj => hr j (by simp [hj])) h'.2⟩) h

/-- The last operation stands behind all others; each other stands behind elder ones alone. -/
def lastB (l : List Oper) : Bool :=
  (match l[l.length - 1]? with | some o => o.guard.isNone && o.after.all (fun e => decide (e.on < l.length - 1)) && (List.range (l.length - 1)).all (fun i => (o.after.any fun e => e.on == i && Region.binds .any e) || (List.range (l.length - 1)).any fun j => decide (i < j) && (match l[j]? with | some oj => oj.after.any fun e => e.on == i && Region.binds .any e | none => false)) | none => false) &&
  (List.range (l.length - 1)).all (fun i => match l[i]? with | some o => o.after.all (fun e => decide (e.on < i)) && gOk (l.length - 1) o | none => false)
theorem any_last (n : Nat) {last : Oper} (hn : l.length = n + 1) (hlast : l[n]? = some last) (hB : lastB l = true) : ∀ (fuel : Nat) (listed : Array Bool) (a : Act) (w : World), listed.size = n → (∀ j oj, l[j]? = some oj → j < n → listed.getD j false = true → ∀ e ∈ oj.after, Region.binds .any e = true → listed.getD e.on false = true) →
    wpAny P .any (l.take n).toArray (outQ Q fun a w => wpList P l.toArray Q [last] a w) fuel listed a w → wpAny P .any l.toArray Q (fuel + 1) (listed.push false) a w := by
  simp only [lastB, hn, Nat.add_sub_cancel, hlast, Bool.and_eq_true, List.all_eq_true, List.mem_range] at hB
  obtain ⟨⟨⟨hgl, hle⟩, hall⟩, hpre⟩ := hB
  rw [Array.all_eq_true_iff_forall_mem] at hle
  have hpre' : ∀ i, i < n → ∃ o, l[i]? = some o ∧ (∀ e ∈ o.after, e.on < i) ∧ gOk n o = true := fun i hi => by
    have := hpre i hi
    cases ho : l[i]? with
    | none => rw [ho] at this; cases this
    | some o =>
      rw [ho] at this
      simp only [Bool.and_eq_true, Array.all_eq_true_iff_forall_mem, decide_eq_true_eq] at this
      exact ⟨o, rfl, this.1, this.2⟩
  have r1 : ∀ (listed : Array Bool), listed.size = n → ∀ i, i < n → (i ∈ Region.ready .any l.toArray (listed.push false) ↔ i ∈ Region.ready .any (l.take n).toArray listed) := by
    intro listed hl i hi
    obtain ⟨o, ho, he, _⟩ := hpre' i hi
    have ho' : (l.take n).toArray[i]? = some o := by simp [List.getElem?_take, hi, ho]
    have ho2 : l.toArray[i]? = some o := by simpa using ho
    have hg : ∀ (d : Bool) j, j < n → (listed.push false).getD j d = listed.getD j d := fun d j hj => by
      simp [Array.getD, hl, hj, Nat.lt_succ_of_lt hj, Array.getElem_push]
    rw [mem_ready, mem_ready, hg _ i hi]
    simp only [ho', ho2, Option.some.injEq, exists_eq_left']
    constructor
    · rintro ⟨h1, h2⟩
      exact ⟨h1, fun e hm hb => by have := h2 e hm hb; rwa [hg _ _ (by have := he e hm; omega)] at this⟩
    · rintro ⟨h1, h2⟩
      exact ⟨h1, fun e hm hb => by rw [hg _ _ (by have := he e hm; omega)]; exact h2 e hm hb⟩
  have r3 : ∀ (listed : Array Bool), listed.size = n → Region.ready .any (l.take n).toArray listed = [] → ∀ i, i < n → listed.getD i false = true := by
    intro listed hl hr i
    induction i using Nat.strongRecOn with
    | _ i ih =>
      intro hi
      obtain ⟨o, ho, he, _⟩ := hpre' i hi
      have ho' : (l.take n).toArray[i]? = some o := by simp [List.getElem?_take, hi, ho]
      have hd : listed.getD i false = listed.getD i true := by simp [Array.getD, hl, hi]
      cases hc : listed.getD i false with
      | true => rfl
      | false =>
        have : i ∈ Region.ready .any (l.take n).toArray listed := mem_ready.2 ⟨by rw [← hd]; exact hc, o, ho', fun e hm hb => ih e.on (he e hm) (by have := he e hm; omega)⟩
        rw [hr] at this; cases this
  have r2 : ∀ (listed : Array Bool), listed.size = n → (∀ j oj, l[j]? = some oj → j < n → listed.getD j false = true → ∀ e ∈ oj.after, Region.binds .any e = true → listed.getD e.on false = true) → (n ∈ Region.ready .any l.toArray (listed.push false) ↔ ∀ i, i < n → listed.getD i false = true) := by
    intro listed hl hcl
    have hl2 : l.toArray[n]? = some last := by simpa using hlast
    rw [mem_ready]
    simp only [hl2, Option.some.injEq, exists_eq_left']
    have hp : (listed.push false).getD n true = false := by subst hl; simp [Array.getD]
    have hg : ∀ j, j < n → (listed.push false).getD j false = listed.getD j false := fun j hj => by
      simp [Array.getD, hl, hj, Nat.lt_succ_of_lt hj, Array.getElem_push]
    constructor
    · rintro ⟨_, h⟩ i hi
      have key : ∀ k i, i < n → n - i ≤ k → listed.getD i false = true := by
        intro k
        induction k with
        | zero => intro i hi hk; omega
        | succ k ih =>
          intro i hi hk
          have := hall i hi
          rw [Bool.or_eq_true] at this
          rcases this with h1 | h1
          · rw [Array.any_eq_true] at h1
            obtain ⟨k, hk, he⟩ := h1
            obtain ⟨e, hm, hek⟩ : ∃ e, e ∈ last.after ∧ e = last.after[k] := ⟨_, Array.getElem_mem hk, rfl⟩
            rw [← hek] at he
            simp only [Bool.and_eq_true, beq_iff_eq] at he
            have h2 := h e hm he.2
            rw [he.1, hg i hi] at h2
            exact h2
          · rw [List.any_eq_true] at h1
            obtain ⟨j, hj, h1⟩ := h1
            rw [List.mem_range] at hj
            simp only [Bool.and_eq_true, decide_eq_true_eq] at h1
            obtain ⟨hij, h1⟩ := h1
            cases hoj : l[j]? with
            | none => rw [hoj] at h1; cases h1
            | some oj =>
              rw [hoj] at h1
              simp only at h1
              rw [Array.any_eq_true] at h1
              obtain ⟨k', hk', he⟩ := h1
              obtain ⟨e, hm, hek⟩ : ∃ e, e ∈ oj.after ∧ e = oj.after[k'] := ⟨_, Array.getElem_mem hk', rfl⟩
              rw [← hek] at he
              simp only [Bool.and_eq_true, beq_iff_eq] at he
              have h2 := hcl j oj hoj hj (ih j hj (by omega)) e hm he.2
              rw [he.1] at h2
              exact h2
      exact key (n - i) i hi (Nat.le_refl _)
    · intro h
      refine ⟨hp, fun e hm hb => ?_⟩
      have := hle e hm
      simp only [decide_eq_true_eq] at this
      rw [hg _ this]; exact h _ this
  have rin : ∀ (listed : Array Bool), ∀ i ∈ Region.ready .any l.toArray listed, i < n + 1 := by
    intro listed i hi
    obtain ⟨_, o, ho, _⟩ := mem_ready.1 hi
    have ho : l[i]? = some o := by simpa using ho
    have := (List.getElem?_eq_some_iff.1 ho).1
    omega
  have fin : ∀ (fuel : Nat) (listed : Array Bool) (a : Act) (w : World), listed.size = n → (∀ j oj, l[j]? = some oj → j < n → listed.getD j false = true → ∀ e ∈ oj.after, Region.binds .any e = true → listed.getD e.on false = true) → (∀ i, i < n → listed.getD i false = true) → wpList P l.toArray Q [last] a w → wpAny P .any l.toArray Q (fuel + 1) (listed.push false) a w := by
    intro fuel listed a w hl hcl ha h
    have hlt : ∀ d i, i < n → listed.getD i d = true := fun d i hi => by have := ha i hi; simpa [Array.getD, hl, hi] using this
    refine ⟨fun h0 => ?_, fun i hi => ?_⟩
    · have := (r2 listed hl hcl).2 ha
      rw [h0] at this; cases this
    · have hin := rin _ i hi
      by_cases hi2 : i < n
      · have := (mem_ready.1 ((r1 listed hl i hi2).1 hi)).1
        rw [hlt true i hi2] at this; cases this
      · obtain rfl : i = n := by omega
        have hl2 : l.toArray[i]? = some last := by simpa using hlast
        have hdone : Region.ready .any l.toArray ((listed.push false).setIfInBounds i true) = [] := by
          rw [List.eq_nil_iff_forall_not_mem]
          intro j hj
          have hjn := rin _ j hj
          have h1 := (mem_ready.1 hj).1
          by_cases hji : j = i
          · subst hji
            simp [Array.getD, hl] at h1
          · have hji2 : j < i := by omega
            have h2 := hlt true j hji2
            simp [Array.getD, hl, hji2, Nat.lt_succ_of_lt hji2, Array.getElem_push, Array.getElem_setIfInBounds, Ne.symm hji] at h1 h2
            rw [h2] at h1; cases h1
        have hK : ∀ a' w', Q .normal a' w' → wpAny P .any l.toArray Q fuel ((listed.push false).setIfInBounds i true) a' w' := fun a' w' hq => by
          cases fuel with
          | zero => exact ⟨hdone, hq⟩
          | succ k => exact ⟨fun _ => hq, by rw [hdone]; simp⟩
        unfold wpOp
        simp only [hl2]
        unfold wpList at h
        split
        · rename_i hw
          rw [if_pos hw] at h
          rcases h with h | h
          · exact .inl (Oper.wp_mono (fun a w h => hK a w h) h)
          · exact .inr h
        · rename_i hw
          rw [if_neg hw] at h
          exact hK _ _ h
  intro fuel
  induction fuel with
  | zero =>
    intro listed a w hl hcl h
    exact fin 0 listed a w hl hcl (r3 listed hl h.1) h.2
  | succ fuel ih =>
    intro listed a w hl hcl h
    by_cases h0 : Region.ready .any (l.take n).toArray listed = []
    · exact fin _ listed a w hl hcl (r3 listed hl h0) (h.1 h0)
    · refine ⟨fun h1 => ?_, fun i hi => ?_⟩
      · obtain ⟨j, hj⟩ := List.exists_mem_of_ne_nil _ h0
        obtain ⟨_, o, ho, _⟩ := mem_ready.1 hj
        have hjn : j < n := by
          have ho : (l.take n)[j]? = some o := by simpa using ho
          have := (List.getElem?_eq_some_iff.1 ho).1
          simp at this; omega
        have := (r1 listed hl j hjn).2 hj
        rw [h1] at this; cases this
      · have hin := rin _ i hi
        by_cases hi2 : i < n
        · obtain ⟨o, ho, _, hg⟩ := hpre' i hi2
          have h2 := h.2 i ((r1 listed hl i hi2).1 hi)
          have ho' : (l.take n).toArray[i]? = some o := by simp [List.getElem?_take, hi2, ho]
          have ho2 : l.toArray[i]? = some o := by simpa using ho
          have hK : ∀ a' w', wpAny P .any (l.take n).toArray (outQ Q fun a w => wpList P l.toArray Q [last] a w) fuel (listed.setIfInBounds i true) a' w' → wpAny P .any l.toArray Q (fuel + 1) ((listed.push false).setIfInBounds i true) a' w' := fun a' w' hq => by
            have := ih (listed.setIfInBounds i true) a' w' (by simpa using hl) (fun j oj hoj hj hlj e hm hb => by
              have hs : ∀ k, k < n → (listed.setIfInBounds i true).getD k false = if i = k then true else listed.getD k false := fun k hk => by
                by_cases e : i = k
                · subst e; simp [Array.getD, hl, hk]
                · simp [Array.getD, hl, hk, e, Array.getElem_setIfInBounds]
              have hej : e.on < n := by
                obtain ⟨o', ho', he', _⟩ := hpre' j hj
                rw [hoj] at ho'; injection ho' with ho'; subst ho'
                have := he' e hm; omega
              rw [hs _ hej]
              split
              · rfl
              · rw [hs _ hj] at hlj
                by_cases e1 : i = j
                · subst e1
                  obtain ⟨_, o3, ho3, h3⟩ := mem_ready.1 ((r1 listed hl i hi2).1 hi)
                  rw [ho'] at ho3; injection ho3 with ho3; subst ho3
                  rw [hoj] at ho; injection ho with ho; subst ho
                  exact h3 e hm hb
                · rw [if_neg e1] at hlj
                  exact hcl j oj hoj hj hlj e hm hb) hq
            have e : (listed.setIfInBounds i true).push false = (listed.push false).setIfInBounds i true := by
              apply Array.ext_getElem?
              intro j
              simp only [Array.getElem?_setIfInBounds, Array.getElem?_push, Array.size_push, Array.size_setIfInBounds, hl]
              by_cases hj : i = j
              · subst hj; simp [hi2, Nat.lt_succ_of_lt hi2, Nat.ne_of_lt hi2]
              · simp [hj]
            rw [← e]; exact this
          unfold wpOp at h2 ⊢
          simp only [ho', ho2] at h2 ⊢
          rw [wanted_take hg] at h2
          split
          · rename_i hw
            rw [if_pos hw] at h2
            rcases h2 with h2 | h2
            · exact .inl (oper_wp_post (fun c a w h => h) (letsOut_of_outQ (N := fun a w => wpList P l.toArray Q [last] a w)) (Oper.wp_mono hK h2))
            · exact .inr ⟨h2.1, letsOut_of_outQ (N := fun a w => wpList P l.toArray Q [last] a w) h2.2⟩
          · rename_i hw
            rw [if_neg hw] at h2
            exact hK _ _ h2
        · obtain rfl : i = n := by omega
          exfalso
          have ha := (r2 listed hl hcl).1 hi
          refine h0 (List.eq_nil_iff_forall_not_mem.2 fun j hj => ?_)
          obtain ⟨h1, o, ho, _⟩ := mem_ready.1 hj
          have hjn : j < i := by
            have ho : (l.take i)[j]? = some o := by simpa using ho
            have := (List.getElem?_eq_some_iff.1 ho).1
            simp at this; omega
          have := ha j hjn
          simp [Array.getD, hl, hjn] at this h1
          rw [this] at h1; cases h1

def atB (l : List Oper) (i : Nat) (f : Oper → Bool) : Bool := match l[i]? with | some o => f o | none => false
theorem atB_spec {l : List Oper} {i : Nat} {f : Oper → Bool} (h : atB l i f = true) : ∃ o, l[i]? = some o ∧ f o = true := by
  unfold atB at h
  cases ho : l[i]? with
  | none => rw [ho] at h; cases h
  | some o => rw [ho] at h; exact ⟨o, rfl, h⟩
theorem quiet_imp {ops : Array Oper} {C : World → Prop} {A B : Act → Prop} (hi : ∀ a, A a → B a) : ∀ (rl : List Oper) (a : Act), wpQuiet P ops C A rl a → wpQuiet P ops C B rl a
  | [], a, h => hi a h
  | o :: rl, a, h => by
    unfold wpQuiet at h ⊢
    split
    · rename_i hw
      rw [if_pos hw] at h
      obtain ⟨v, h1, h2⟩ := h
      exact ⟨v, h1, quiet_imp hi rl _ h2⟩
    · rename_i hw
      rw [if_neg hw] at h
      exact quiet_imp hi rl _ h
def seqB (l : List Oper) (rs ts : List Nat) : Bool :=
  lastB l && Region.noSelect (l.take (l.length - 1)).toArray && takesB (l.take (l.length - 1)).toArray (Array.replicate (l.length - 1) false) rs && chainB (l.take (l.length - 1)).toArray (listAll (Array.replicate (l.length - 1) false) rs) ts.dropLast &&
  (decide (ts.getLast? = some (l.length - 1)) && decide (rs.length + ts.dropLast.length = l.length - 1) && decide (0 < l.length)) &&
  rs.all (fun i => decide (i < l.length - 1) && atB l i fun o => yieldsOnly o && gOk (l.length - 1) o) && ts.dropLast.all (fun i => decide (i < l.length - 1) && atB l i fun o => gOk (l.length - 1) o)
/-- **A REGION THAT DRAWS ITS ORDER**: its reads (rs), each of which yields one value in every world that meets S; then the others (ts), each but the last leaving S. -/
theorem region_seq {id : Nat} {a : Act} {w : World} (S : World → Prop) (rs ts : List Nat) (hm : P.follows .mixedOrders = true) (hB : seqB l rs ts = true) (hS : S w.drew) (hQ : ∀ c (a : Act) k v w, Q (.panic c) { a with tmps := a.tmps.setIfInBounds k v } w → Q (.panic c) a w)
    (h : wpQuiet P l.toArray S (fun a' => wpSeqS P l.toArray S Q (ts.filterMap (l[·]?)) a' w.drew) (rs.filterMap (l[·]?)) a) : (Code.region id l.toArray true).wp P Q a w := by
  simp only [seqB, Bool.and_eq_true, decide_eq_true_eq, List.all_eq_true] at hB
  obtain ⟨⟨⟨⟨⟨⟨h1, h2⟩, h3⟩, h4⟩, ⟨⟨h5, h6⟩, h7⟩⟩, h8⟩, h9⟩ := hB
  obtain ⟨n, hn⟩ : ∃ n, l.length = n + 1 := ⟨l.length - 1, by omega⟩
  rw [hn, Nat.add_sub_cancel] at h2 h3 h4 h5 h6 h8 h9
  obtain ⟨last, hlast⟩ : ∃ last, l[n]? = some last := ⟨_, List.getElem?_eq_getElem (by omega)⟩
  have hts : ts = ts.dropLast ++ [n] := by
    obtain ⟨ys, hy⟩ := List.getLast?_eq_some_iff.1 h5
    rw [hy]; simp
  rw [hts, List.filterMap_append, List.filterMap_cons, hlast, List.filterMap_nil] at h
  refine wp_region_any hm ?_
  have hsz : l.toArray.size = n + 1 := by simpa using hn
  rw [hsz, show Array.replicate (n + 1) false = (Array.replicate n false).push false from Array.replicate_succ]
  refine any_last n hn hlast h1 n _ a _ (by simp) (fun j oj _ hj hlj => by simp [Array.getD, hj] at hlj) ?_
  have h10 := anyH_takes (P := P) (S := S) (Q := Q) (N := fun a w => wpList P l.toArray Q [last] a w) n h2 rs ts.dropLast.length (Array.replicate n false) a w.drew h3 (fun i hi => by
    obtain ⟨hin, hat⟩ := h8 i hi
    obtain ⟨o, ho, hy⟩ := atB_spec hat
    simp only [Bool.and_eq_true] at hy
    exact ⟨o, ho, hin, hy.1, hy.2⟩) hS (fun c a d v w h => by cases d with | none => exact h | some k => exact hQ c a k v w h) (quiet_imp (fun a' h' => anyH_chain (P := P) (S := S) (Q := Q) n ts.dropLast _ a' w.drew h4 (fun i hi => by
      obtain ⟨hin, hat⟩ := h9 i hi
      obtain ⟨o, ho, hy⟩ := atB_spec hat
      exact ⟨o, ho, hin, hy⟩) h') _ _ h)
  rw [Nat.add_comm, h6] at h10
  exact wpAny_of_held _ _ _ _ h10
end
/-- A world in which, since w, no old block but these has turned. -/
structure Kept (w : World) (S : List Nat) where
  u : World
  h : Turns w u S
instance (w : World) (S : List Nat) : Nonempty (Kept w S) := ⟨⟨w, Turns.refl _ _⟩⟩
theorem region_kept {P : Program} {l : List Oper} {Q : Exit → Act → World → Prop} {id : Nat} {a : Act} {w : World} (B : List Nat) (rs ts : List Nat) (hm : P.follows .mixedOrders = true) (hB : seqB l rs ts = true) (hQ : ∀ c (a : Act) k v w, Q (.panic c) { a with tmps := a.tmps.setIfInBounds k v } w → Q (.panic c) a w)
    (h : wpQuiet P l.toArray (fun u => ∃ t : Kept w B, u = t.u) (fun a' => wpSeqS P l.toArray (fun u => Turns w u B) Q (ts.filterMap (l[·]?)) a' w.drew) (rs.filterMap (l[·]?)) a) : (Code.region id l.toArray true).wp P Q a w := by
  have e : (fun u => ∃ t : Kept w B, u = t.u) = fun u => Turns w u B := by
    funext u; apply propext
    exact ⟨fun ⟨t, e⟩ => by subst e; exact t.h, fun h => ⟨⟨u, h⟩, rfl⟩⟩
  rw [e] at h
  exact region_seq _ rs ts hm hB (Turns.refl w B).drew hQ h
end Go.Proofs.YtclhhdodebdmjaaGreat
