/- What follows is laid together from several texts of mine, in their order. -/
import Derived.Test.YthjomnaejhehoaaGreatDoorQ3
import Derived.Deep.RegionHeldLaw
import Derived.Test.YthjomnaejhehoaaGreatDoorQ4

namespace Go.Proofs.YthjomnaejhehoaaGreatDoor
open Go.RowKit
set_option linter.unusedVariables false
set_option linter.unusedSimpArgs false

/-- An operation that yields a value and nothing else. -/
def yieldsOnly (o : Oper) : Bool :=
  match o.op with
  | .move _ | .assign _ | .pick .. | .load .. | .binOp .. | .unOp .. | .convert .. | .build .. | .slice .. | .fieldAddr .. | .field .. | .indexAddr .. | .index .. | .lookup .. | .extract .. | .makeFunc .. => true
  | .call c => match c.callee with | .builtin .len | .builtin .cap => true | _ => false
  | .nilCheck _ => true
  | _ => false
section
variable {P : Program}
theorem value_of_bind {s : Sem Value} {w w' : World} {r : Next} (h : (do pure (Next.value (← s)) : Sem Next).run P w = .ok r w') : ∃ v, r = .value v := by
  simp only [Sem.run_bind] at h
  generalize s.run P w = x at h
  cases x with
  | ok v w1 => simp only [Result.andThen_ok, Sem.run_pure] at h; injection h with h _; exact ⟨v, h.symm⟩
  | halt a b => simp [Result.andThen] at h
theorem yieldsOnly_spec {o : Oper} (h : yieldsOnly o = true) (ρ : Operand → Value) {w w' : World} {r : Next} (hr : (execOp ρ o).run P w = .ok r w') : ∃ v, r = .value v := by
  obtain ⟨dst, op, type, pos, after, guard⟩ := o
  cases op <;> simp only [yieldsOnly] at h <;> try (cases h; done)
  case move x => simp only [execOp, Sem.run_pure] at hr; injection hr with hr _; exact ⟨_, hr.symm⟩
  case assign x => simp only [execOp, Sem.run_pure] at hr; injection hr with hr _; exact ⟨_, hr.symm⟩
  case pick c a b =>
    simp only [execOp, Sem.run_bind] at hr
    generalize (asBool (ρ c)).run P w = x at hr
    cases x with
    | ok v w1 => simp only [Result.andThen_ok, Sem.run_pure] at hr; injection hr with hr _; exact ⟨_, hr.symm⟩
    | halt a b => simp [Result.andThen] at hr
  case nilCheck x =>
    simp only [execOp] at hr
    repeat' split at hr
    all_goals first
      | (simp [runtimePanic] at hr; done)
      | (simp only [Sem.run_pure] at hr; injection hr with hr _; exact ⟨_, hr.symm⟩)
      | skip
    all_goals
      simp only [Sem.run_bind, run_program, Result.andThen_ok] at hr
      generalize (nilAhead _ _ _ _).run P w = y at hr
      cases y with
      | ok v w1 =>
        simp only [Result.andThen_ok] at hr
        split at hr
        · simp [unsupported] at hr
        · simp only [Sem.run_bind, Sem.run_pure, Result.andThen_ok] at hr; injection hr with hr _; exact ⟨_, hr.symm⟩
      | halt a b => simp [Result.andThen] at hr
  case call c =>
    obtain ⟨callee, args, ats⟩ := c
    cases callee <;> simp only at h <;> try (cases h; done)
    rename_i b
    cases b <;> simp only at h <;> try (cases h; done)
    · rw [BigFrame.execOp_builtin] at hr; exact value_of_bind hr
    · rw [BigFrame.execOp_builtin] at hr; exact value_of_bind hr
  all_goals exact value_of_bind hr

/-- What is asked at the end: of the way on, or of another way out. -/
def outQ (Q : Exit → Act → World → Prop) (N : Act → World → Prop) : Exit → Act → World → Prop
  | .normal, a, w => N a w
  | e, a, w => Q e a w
theorem oper_wp_post {o : Oper} {a : Act} {w : World} {K : Act → World → Prop} {Q Q' : Exit → Act → World → Prop} (hp : ∀ c a w, Q (.panic c) a w → Q' (.panic c) a w) (ho : LetsOut Q → LetsOut Q')
    (h : o.wp P a w K Q) : o.wp P a w K Q' := by
  unfold Oper.wp at *
  generalize (execOp a.eval o).run P w = r at *
  cases r with
  | ok n w' =>
    cases n <;> simp only [Oper.upon] at h ⊢ <;>
      first
        | exact h
        | exact Calls.mono h (fun e w'' he => by cases e <;> first | exact he | exact hp _ _ _ he | exact ho he)
  | halt x w' => cases x <;> simp only [Oper.upon] at h ⊢ <;> first | exact h | exact hp _ _ _ h
theorem letsOut_outQ {Q : Exit → Act → World → Prop} {N N' : Act → World → Prop} (h : LetsOut (outQ Q N)) : LetsOut (outQ Q N') := by
  obtain ⟨a, w, h⟩ := h; exact ⟨a, w, h⟩
theorem letsOut_of_outQ {Q : Exit → Act → World → Prop} {N : Act → World → Prop} (h : LetsOut (outQ Q N)) : LetsOut Q := by
  obtain ⟨a, w, h⟩ := h; exact ⟨a, w, h⟩

def gOk (n : Nat) (o : Oper) : Bool := match o.guard with | some (g, _) => decide (g < n) | none => true
theorem wanted_take {l : List Oper} {n : Nat} {o : Oper} (hg : gOk n o = true) (tmps : Array Value) : Region.wanted o (yielded (l.take n).toArray tmps) = Region.wanted o (yielded l.toArray tmps) := by
  unfold Region.wanted
  unfold gOk at hg
  cases hgd : o.guard with
  | none => rfl
  | some g =>
    obtain ⟨j, want⟩ := g
    rw [hgd] at hg
    simp only [decide_eq_true_eq] at hg
    have : yielded (l.take n).toArray tmps j = yielded l.toArray tmps j := by
      unfold yielded
      simp [List.getElem?_take, hg]
    show (yielded (l.take n).toArray tmps j == some want) = (yielded l.toArray tmps j == some want)
    rw [this]

/-- One operation after the other; behind each but the last S is shown anew. -/
def wpSeqS (P : Program) (ops : Array Oper) (S : World → Prop) (Q : Exit → Act → World → Prop) : List Oper → Act → World → Prop
  | [], a, w => Q .normal a w
  | [o], a, w => wpList P ops Q [o] a w
  | o :: o' :: rest, a, w => wpList P ops (outQ Q fun a' w' => S w' ∧ wpSeqS P ops S Q (o' :: rest) a' w') [o] a w
theorem wpSeqS_step {ops : Array Oper} {S : World → Prop} {Q : Exit → Act → World → Prop} {o o' : Oper} {rest : List Oper} {a : Act} {w : World} (h : wpList P ops (outQ Q fun a' w' => S w' ∧ wpSeqS P ops S Q (o' :: rest) a' w') [o] a w) : wpSeqS P ops S Q (o :: o' :: rest) a w := h
theorem wpSeqS_last {ops : Array Oper} {S : World → Prop} {Q : Exit → Act → World → Prop} {o : Oper} {a : Act} {w : World} (h : wpList P ops Q [o] a w) : wpSeqS P ops S Q [o] a w := h
theorem outQ_normal {Q : Exit → Act → World → Prop} {S : World → Prop} {N : Act → World → Prop} {a : Act} {w : World} (hS : S w) (h : N a w) : outQ Q (fun a w => S w ∧ N a w) .normal a w := ⟨hS, h⟩
/-- These may be taken first, one behind the other. -/
def takesB (ops : Array Oper) : Array Bool → List Nat → Bool
  | _, [] => true
  | listed, i :: is => Region.free .any ops listed i && (Region.ready .any ops listed).contains i && takesB ops (listed.setIfInBounds i true) is
/-- Of these each is the one that may come up, and then there is none. -/
def chainB (ops : Array Oper) : Array Bool → List Nat → Bool
  | listed, [] => (Region.ready .any ops listed).isEmpty
  | listed, i :: is => (Region.ready .any ops listed) == [i] && chainB ops (listed.setIfInBounds i true) is
def listAll (listed : Array Bool) (is : List Nat) : Array Bool := is.foldl (fun l i => l.setIfInBounds i true) listed

variable {l : List Oper} {S : World → Prop} {Q : Exit → Act → World → Prop}
theorem anyH_takes (n : Nat) {N : Act → World → Prop} (hs : Region.noSelect (l.take n).toArray = true) : ∀ (rs : List Nat) (fuel : Nat) (listed : Array Bool) (a : Act) (w : World), takesB (l.take n).toArray listed rs = true → (∀ i ∈ rs, ∃ o, l[i]? = some o ∧ i < n ∧ yieldsOnly o = true ∧ gOk n o = true) → S w →
    (∀ c a d v w, outQ Q N (.panic c) (a.put d v) w → outQ Q N (.panic c) a w) →
    wpQuiet P l.toArray S (fun a' => wpAnyH P .any (l.take n).toArray (outQ Q N) S fuel (listAll listed rs) a' w) (rs.filterMap (l[·]?)) a →
    wpAnyH P .any (l.take n).toArray (outQ Q N) S (fuel + rs.length) listed a w
  | [], fuel, listed, a, w, _, _, _, _, h => by simpa [listAll, wpQuiet] using h
  | i :: rs, fuel, listed, a, w, hB, hr, hS, hQ, h => by
    obtain ⟨o, ho, hin, hy, hg⟩ := hr i (by simp)
    simp only [takesB, Bool.and_eq_true] at hB
    obtain ⟨⟨hf, hc⟩, hB⟩ := hB
    have ho' : (l.take n).toArray[i]? = some o := by simp [List.getElem?_take, hin, ho]
    rw [List.filterMap_cons, ho] at h
    simp only at h
    unfold wpQuiet at h
    have key : ∃ v, YieldsIf P (l.take n).toArray S o v a ∧ wpQuiet P l.toArray S (fun a' => wpAnyH P .any (l.take n).toArray (outQ Q N) S fuel (listAll listed (i :: rs)) a' w) (rs.filterMap (l[·]?)) (a.put o.dst v) := by
      by_cases hw : Region.wanted o (yielded l.toArray a.tmps) = true
      · rw [if_pos hw] at h
        obtain ⟨v, hv, hn⟩ := h
        refine ⟨v, .inl ⟨by rw [wanted_take hg]; exact hw, fun w1 hw1 => ?_⟩, hn⟩
        have h1 := hv w1 hw1
        unfold Oper.quietAt at h1
        cases hx : (execOp a.eval o).run P w1 with
        | halt x w2 => rw [hx] at h1; exact h1.elim
        | ok r w2 =>
          obtain ⟨v2, rfl⟩ := yieldsOnly_spec hy _ hx
          rw [hx] at h1
          obtain ⟨rfl, rfl⟩ := h1
          rfl
      · rw [if_neg hw] at h
        exact ⟨undef, .inr ⟨by rw [wanted_take hg]; simpa using hw, rfl⟩, h⟩
    obtain ⟨v, hy', hn⟩ := key
    refine wpAnyH_take ho' hs hf hc (fun c a' w' h' => hQ c a' _ _ w' h') hy' hS ?_
    exact anyH_takes n hs rs fuel _ _ w hB (fun j hj => hr j (by simp [hj])) hS hQ hn

theorem wpSeqS_cons {ops : Array Oper} {o : Oper} {rest : List Oper} (hr : rest ≠ []) {a : Act} {w : World} (h : wpSeqS P ops S Q (o :: rest) a w) : wpList P ops (outQ Q fun a' w' => S w' ∧ wpSeqS P ops S Q rest a' w') [o] a w := by
  cases rest with
  | nil => exact absurd rfl hr
  | cons o' rest => exact h
theorem wpOp_of_list {n i : Nat} {o : Oper} (ho : l[i]? = some o) (hin : i < n) (hg : gOk n o = true) {N N' : Act → World → Prop} {K : Act → World → Prop} {a : Act} {w : World} (hK : ∀ a w, N' a w → K a w)
    (h : wpList P l.toArray (outQ Q N') [o] a w) : wpOp P (l.take n).toArray (outQ Q N) i K a w := by
  have ho' : (l.take n).toArray[i]? = some o := by simp [List.getElem?_take, hin, ho]
  unfold wpOp
  simp only [ho']
  unfold wpList at h
  rw [wanted_take hg]
  by_cases hw : Region.wanted o (yielded l.toArray a.tmps) = true
  · rw [if_pos hw] at h ⊢
    rcases h with h | h
    · exact .inl (oper_wp_post (fun c a w h => h) letsOut_outQ (Oper.wp_mono (fun a w h => hK a w h) h))
    · exact .inr ⟨h.1, letsOut_outQ h.2⟩
  · rw [if_neg hw] at h ⊢
    exact hK _ _ h
theorem anyH_chain (n : Nat) {last : Oper} : ∀ (ts : List Nat) (listed : Array Bool) (a : Act) (w : World), chainB (l.take n).toArray listed ts = true → (∀ i ∈ ts, ∃ o, l[i]? = some o ∧ i < n ∧ gOk n o = true) →
    wpSeqS P l.toArray S Q (ts.filterMap (l[·]?) ++ [last]) a w → wpAnyH P .any (l.take n).toArray (outQ Q fun a w => wpList P l.toArray Q [last] a w) S ts.length listed a w
  | [], listed, a, w, hB, _, h => wpAnyH_done (by simpa [chainB] using hB) h _
  | t :: ts, listed, a, w, hB, hr, h => by
    obtain ⟨o, ho, hin, hg⟩ := hr t (by simp)
    simp only [chainB, Bool.and_eq_true, beq_iff_eq] at hB
    rw [List.filterMap_cons, ho] at h
    have h := wpSeqS_cons (rest := ts.filterMap (l[·]?) ++ [last]) (by simp) h
    refine wpAnyH_all hB.1 (by simp) (fun i hi => ?_)
    simp only [List.mem_singleton] at hi
    subst hi
    exact wpOp_of_list ho hin hg (fun a' w' h' => ⟨h'.1, anyH_chain n ts _ a' w' hB.2 (fun j hj => hr j (by simp [hj])) h'.2⟩) h

/-- The last operation stands behind all others; each other stands behind elder ones alone. -/
def lastB (l : List Oper) : Bool :=
  (match l[l.length - 1]? with | some o => o.guard.isNone && o.after.all (fun e => decide (e.on < l.length - 1)) && (List.range (l.length - 1)).all (fun i => (o.after.any fun e => e.on == i && Region.binds .any e) || (List.range (l.length - 1)).any fun j => decide (i < j) && (match l[j]? with | some oj => oj.after.any fun e => e.on == i && Region.binds .any e | none => false)) | none => false) &&
  (List.range (l.length - 1)).all (fun i => match l[i]? with | some o => o.after.all (fun e => decide (e.on < i)) && gOk (l.length - 1) o | none => false)
theorem any_last (n : Nat) {last : Oper} (hn : l.length = n + 1) (hlast : l[n]? = some last) (hB : lastB l = true) : ∀ (fuel : Nat) (listed : Array Bool) (a : Act) (w : World), listed.size = n → (∀ j oj, l[j]? = some oj → j < n → listed.getD j false = true → ∀ e ∈ oj.after, Region.binds .any e = true → listed.getD e.on false = true) →
    wpAny P .any (l.take n).toArray (outQ Q fun a w => wpList P l.toArray Q [last] a w) fuel listed a w → wpAny P .any l.toArray Q (fuel + 1) (listed.push false) a w := by
  simp only [lastB, hn, Nat.add_sub_cancel, hlast, Bool.and_eq_true, List.all_eq_true, List.mem_range] at hB
  obtain ⟨⟨⟨hgl, hle⟩, hall⟩, hpre⟩ := hB
  rw [Array.all_eq_true_iff_forall_mem] at hle
  have hpre' : ∀ i, i < n → ∃ o, l[i]? = some o ∧ (∀ e ∈ o.after, e.on < i) ∧ gOk n o = true := fun i hi => by
    have := hpre i hi
    cases ho : l[i]? with
    | none => rw [ho] at this; cases this
    | some o =>
      rw [ho] at this
      simp only [Bool.and_eq_true, Array.all_eq_true_iff_forall_mem, decide_eq_true_eq] at this
      exact ⟨o, rfl, this.1, this.2⟩
  have r1 : ∀ (listed : Array Bool), listed.size = n → ∀ i, i < n → (i ∈ Region.ready .any l.toArray (listed.push false) ↔ i ∈ Region.ready .any (l.take n).toArray listed) := by
    intro listed hl i hi
    obtain ⟨o, ho, he, _⟩ := hpre' i hi
    have ho' : (l.take n).toArray[i]? = some o := by simp [List.getElem?_take, hi, ho]
    have ho2 : l.toArray[i]? = some o := by simpa using ho
    have hg : ∀ (d : Bool) j, j < n → (listed.push false).getD j d = listed.getD j d := fun d j hj => by
      simp [Array.getD, hl, hj, Nat.lt_succ_of_lt hj, Array.getElem_push]
    rw [mem_ready, mem_ready, hg _ i hi]
    simp only [ho', ho2, Option.some.injEq, exists_eq_left']
    constructor
    · rintro ⟨h1, h2⟩
      exact ⟨h1, fun e hm hb => by have := h2 e hm hb; rwa [hg _ _ (by have := he e hm; omega)] at this⟩
    · rintro ⟨h1, h2⟩
      exact ⟨h1, fun e hm hb => by rw [hg _ _ (by have := he e hm; omega)]; exact h2 e hm hb⟩
  have r3 : ∀ (listed : Array Bool), listed.size = n → Region.ready .any (l.take n).toArray listed = [] → ∀ i, i < n → listed.getD i false = true := by
    intro listed hl hr i
    induction i using Nat.strongRecOn with
    | _ i ih =>
      intro hi
      obtain ⟨o, ho, he, _⟩ := hpre' i hi
      have ho' : (l.take n).toArray[i]? = some o := by simp [List.getElem?_take, hi, ho]
      have hd : listed.getD i false = listed.getD i true := by simp [Array.getD, hl, hi]
      cases hc : listed.getD i false with
      | true => rfl
      | false =>
        have : i ∈ Region.ready .any (l.take n).toArray listed := mem_ready.2 ⟨by rw [← hd]; exact hc, o, ho', fun e hm hb => ih e.on (he e hm) (by have := he e hm; omega)⟩
        rw [hr] at this; cases this
  have r2 : ∀ (listed : Array Bool), listed.size = n → (∀ j oj, l[j]? = some oj → j < n → listed.getD j false = true → ∀ e ∈ oj.after, Region.binds .any e = true → listed.getD e.on false = true) → (n ∈ Region.ready .any l.toArray (listed.push false) ↔ ∀ i, i < n → listed.getD i false = true) := by
    intro listed hl hcl
    have hl2 : l.toArray[n]? = some last := by simpa using hlast
    rw [mem_ready]
    simp only [hl2, Option.some.injEq, exists_eq_left']
    have hp : (listed.push false).getD n true = false := by subst hl; simp [Array.getD]
    have hg : ∀ j, j < n → (listed.push false).getD j false = listed.getD j false := fun j hj => by
      simp [Array.getD, hl, hj, Nat.lt_succ_of_lt hj, Array.getElem_push]
    constructor
    · rintro ⟨_, h⟩ i hi
      have key : ∀ k i, i < n → n - i ≤ k → listed.getD i false = true := by
        intro k
        induction k with
        | zero => intro i hi hk; omega
        | succ k ih =>
          intro i hi hk
          have := hall i hi
          rw [Bool.or_eq_true] at this
          rcases this with h1 | h1
          · rw [Array.any_eq_true] at h1
            obtain ⟨k, hk, he⟩ := h1
            obtain ⟨e, hm, hek⟩ : ∃ e, e ∈ last.after ∧ e = last.after[k] := ⟨_, Array.getElem_mem hk, rfl⟩
            rw [← hek] at he
            simp only [Bool.and_eq_true, beq_iff_eq] at he
            have h2 := h e hm he.2
            rw [he.1, hg i hi] at h2
            exact h2
          · rw [List.any_eq_true] at h1
            obtain ⟨j, hj, h1⟩ := h1
            rw [List.mem_range] at hj
            simp only [Bool.and_eq_true, decide_eq_true_eq] at h1
            obtain ⟨hij, h1⟩ := h1
            cases hoj : l[j]? with
            | none => rw [hoj] at h1; cases h1
            | some oj =>
              rw [hoj] at h1
              simp only at h1
              rw [Array.any_eq_true] at h1
              obtain ⟨k', hk', he⟩ := h1
              obtain ⟨e, hm, hek⟩ : ∃ e, e ∈ oj.after ∧ e = oj.after[k'] := ⟨_, Array.getElem_mem hk', rfl⟩
              rw [← hek] at he
              simp only [Bool.and_eq_true, beq_iff_eq] at he
              have h2 := hcl j oj hoj hj (ih j hj (by omega)) e hm he.2
              rw [he.1] at h2
              exact h2
      exact key (n - i) i hi (Nat.le_refl _)
    · intro h
      refine ⟨hp, fun e hm hb => ?_⟩
      have := hle e hm
      simp only [decide_eq_true_eq] at this
      rw [hg _ this]; exact h _ this
  have rin : ∀ (listed : Array Bool), ∀ i ∈ Region.ready .any l.toArray listed, i < n + 1 := by
    intro listed i hi
    obtain ⟨_, o, ho, _⟩ := mem_ready.1 hi
    have ho : l[i]? = some o := by simpa using ho
    have := (List.getElem?_eq_some_iff.1 ho).1
    omega
  have fin : ∀ (fuel : Nat) (listed : Array Bool) (a : Act) (w : World), listed.size = n → (∀ j oj, l[j]? = some oj → j < n → listed.getD j false = true → ∀ e ∈ oj.after, Region.binds .any e = true → listed.getD e.on false = true) → (∀ i, i < n → listed.getD i false = true) → wpList P l.toArray Q [last] a w → wpAny P .any l.toArray Q (fuel + 1) (listed.push false) a w := by
    intro fuel listed a w hl hcl ha h
    have hlt : ∀ d i, i < n → listed.getD i d = true := fun d i hi => by have := ha i hi; simpa [Array.getD, hl, hi] using this
    refine ⟨fun h0 => ?_, fun i hi => ?_⟩
    · have := (r2 listed hl hcl).2 ha
      rw [h0] at this; cases this
    · have hin := rin _ i hi
      by_cases hi2 : i < n
      · have := (mem_ready.1 ((r1 listed hl i hi2).1 hi)).1
        rw [hlt true i hi2] at this; cases this
      · obtain rfl : i = n := by omega
        have hl2 : l.toArray[i]? = some last := by simpa using hlast
        have hdone : Region.ready .any l.toArray ((listed.push false).setIfInBounds i true) = [] := by
          rw [List.eq_nil_iff_forall_not_mem]
          intro j hj
          have hjn := rin _ j hj
          have h1 := (mem_ready.1 hj).1
          by_cases hji : j = i
          · subst hji
            simp [Array.getD, hl] at h1
          · have hji2 : j < i := by omega
            have h2 := hlt true j hji2
            simp [Array.getD, hl, hji2, Nat.lt_succ_of_lt hji2, Array.getElem_push, Array.getElem_setIfInBounds, Ne.symm hji] at h1 h2
            rw [h2] at h1; cases h1
        have hK : ∀ a' w', Q .normal a' w' → wpAny P .any l.toArray Q fuel ((listed.push false).setIfInBounds i true) a' w' := fun a' w' hq => by
          cases fuel with
          | zero => exact ⟨hdone, hq⟩
          | succ k => exact ⟨fun _ => hq, by rw [hdone]; simp⟩
        unfold wpOp
        simp only [hl2]
        unfold wpList at h
        split
        · rename_i hw
          rw [if_pos hw] at h
          rcases h with h | h
          · exact .inl (Oper.wp_mono (fun a w h => hK a w h) h)
          · exact .inr h
        · rename_i hw
          rw [if_neg hw] at h
          exact hK _ _ h
  intro fuel
  induction fuel with
  | zero =>
    intro listed a w hl hcl h
    exact fin 0 listed a w hl hcl (r3 listed hl h.1) h.2
  | succ fuel ih =>
    intro listed a w hl hcl h
    by_cases h0 : Region.ready .any (l.take n).toArray listed = []
    · exact fin _ listed a w hl hcl (r3 listed hl h0) (h.1 h0)
    · refine ⟨fun h1 => ?_, fun i hi => ?_⟩
      · obtain ⟨j, hj⟩ := List.exists_mem_of_ne_nil _ h0
        obtain ⟨_, o, ho, _⟩ := mem_ready.1 hj
        have hjn : j < n := by
          have ho : (l.take n)[j]? = some o := by simpa using ho
          have := (List.getElem?_eq_some_iff.1 ho).1
          simp at this; omega
        have := (r1 listed hl j hjn).2 hj
        rw [h1] at this; cases this
      · have hin := rin _ i hi
        by_cases hi2 : i < n
        · obtain ⟨o, ho, _, hg⟩ := hpre' i hi2
          have h2 := h.2 i ((r1 listed hl i hi2).1 hi)
          have ho' : (l.take n).toArray[i]? = some o := by simp [List.getElem?_take, hi2, ho]
          have ho2 : l.toArray[i]? = some o := by simpa using ho
          have hK : ∀ a' w', wpAny P .any (l.take n).toArray (outQ Q fun a w => wpList P l.toArray Q [last] a w) fuel (listed.setIfInBounds i true) a' w' → wpAny P .any l.toArray Q (fuel + 1) ((listed.push false).setIfInBounds i true) a' w' := fun a' w' hq => by
            have := ih (listed.setIfInBounds i true) a' w' (by simpa using hl) (fun j oj hoj hj hlj e hm hb => by
              have hs : ∀ k, k < n → (listed.setIfInBounds i true).getD k false = if i = k then true else listed.getD k false := fun k hk => by
                by_cases e : i = k
                · subst e; simp [Array.getD, hl, hk]
                · simp [Array.getD, hl, hk, e, Array.getElem_setIfInBounds]
              have hej : e.on < n := by
                obtain ⟨o', ho', he', _⟩ := hpre' j hj
                rw [hoj] at ho'; injection ho' with ho'; subst ho'
                have := he' e hm; omega
              rw [hs _ hej]
              split
              · rfl
              · rw [hs _ hj] at hlj
                by_cases e1 : i = j
                · subst e1
                  obtain ⟨_, o3, ho3, h3⟩ := mem_ready.1 ((r1 listed hl i hi2).1 hi)
                  rw [ho'] at ho3; injection ho3 with ho3; subst ho3
                  rw [hoj] at ho; injection ho with ho; subst ho
                  exact h3 e hm hb
                · rw [if_neg e1] at hlj
                  exact hcl j oj hoj hj hlj e hm hb) hq
            have e : (listed.setIfInBounds i true).push false = (listed.push false).setIfInBounds i true := by
              apply Array.ext_getElem?
              intro j
              simp only [Array.getElem?_setIfInBounds, Array.getElem?_push, Array.size_push, Array.size_setIfInBounds, hl]
              by_cases hj : i = j
              · subst hj; simp [hi2, Nat.lt_succ_of_lt hi2, Nat.ne_of_lt hi2]
              · simp [hj]
            rw [← e]; exact this
          unfold wpOp at h2 ⊢
          simp only [ho', ho2] at h2 ⊢
          rw [wanted_take hg] at h2
          split
          · rename_i hw
            rw [if_pos hw] at h2
            rcases h2 with h2 | h2
            · exact .inl (oper_wp_post (fun c a w h => h) (letsOut_of_outQ (N := fun a w => wpList P l.toArray Q [last] a w)) (Oper.wp_mono hK h2))
            · exact .inr ⟨h2.1, letsOut_of_outQ (N := fun a w => wpList P l.toArray Q [last] a w) h2.2⟩
          · rename_i hw
            rw [if_neg hw] at h2
            exact hK _ _ h2
        · obtain rfl : i = n := by omega
          exfalso
          have ha := (r2 listed hl hcl).1 hi
          refine h0 (List.eq_nil_iff_forall_not_mem.2 fun j hj => ?_)
          obtain ⟨h1, o, ho, _⟩ := mem_ready.1 hj
          have hjn : j < i := by
            have ho : (l.take i)[j]? = some o := by simpa using ho
            have := (List.getElem?_eq_some_iff.1 ho).1
            simp at this; omega
          have := ha j hjn
          simp [Array.getD, hl, hjn] at this h1
          rw [this] at h1; cases h1

def atB (l : List Oper) (i : Nat) (f : Oper → Bool) : Bool := match l[i]? with | some o => f o | none => false
theorem atB_spec {l : List Oper} {i : Nat} {f : Oper → Bool} (h : atB l i f = true) : ∃ o, l[i]? = some o ∧ f o = true := by
  unfold atB at h
  cases ho : l[i]? with
  | none => rw [ho] at h; cases h
  | some o => rw [ho] at h; exact ⟨o, rfl, h⟩
theorem quiet_imp {ops : Array Oper} {C : World → Prop} {A B : Act → Prop} (hi : ∀ a, A a → B a) : ∀ (rl : List Oper) (a : Act), wpQuiet P ops C A rl a → wpQuiet P ops C B rl a
  | [], a, h => hi a h
  | o :: rl, a, h => by
    unfold wpQuiet at h ⊢
    split
    · rename_i hw
      rw [if_pos hw] at h
      obtain ⟨v, h1, h2⟩ := h
      exact ⟨v, h1, quiet_imp hi rl _ h2⟩
    · rename_i hw
      rw [if_neg hw] at h
      exact quiet_imp hi rl _ h
def seqB (l : List Oper) (rs ts : List Nat) : Bool :=
  lastB l && Region.noSelect (l.take (l.length - 1)).toArray && takesB (l.take (l.length - 1)).toArray (Array.replicate (l.length - 1) false) rs && chainB (l.take (l.length - 1)).toArray (listAll (Array.replicate (l.length - 1) false) rs) ts.dropLast &&
  (decide (ts.getLast? = some (l.length - 1)) && decide (rs.length + ts.dropLast.length = l.length - 1) && decide (0 < l.length)) &&
  rs.all (fun i => decide (i < l.length - 1) && atB l i fun o => yieldsOnly o && gOk (l.length - 1) o) && ts.dropLast.all (fun i => decide (i < l.length - 1) && atB l i fun o => gOk (l.length - 1) o)
/-- **A REGION THAT DRAWS ITS ORDER**: its reads (rs), each of which yields one value in every world that meets S; then the others (ts), each but the last leaving S. -/
theorem region_seq {id : Nat} {a : Act} {w : World} (S : World → Prop) (rs ts : List Nat) (hm : P.follows .mixedOrders = true) (hB : seqB l rs ts = true) (hS : S w.drew) (hQ : ∀ c (a : Act) k v w, Q (.panic c) { a with tmps := a.tmps.setIfInBounds k v } w → Q (.panic c) a w)
    (h : wpQuiet P l.toArray S (fun a' => wpSeqS P l.toArray S Q (ts.filterMap (l[·]?)) a' w.drew) (rs.filterMap (l[·]?)) a) : (Code.region id l.toArray true).wp P Q a w := by
  simp only [seqB, Bool.and_eq_true, decide_eq_true_eq, List.all_eq_true] at hB
  obtain ⟨⟨⟨⟨⟨⟨h1, h2⟩, h3⟩, h4⟩, ⟨⟨h5, h6⟩, h7⟩⟩, h8⟩, h9⟩ := hB
  obtain ⟨n, hn⟩ : ∃ n, l.length = n + 1 := ⟨l.length - 1, by omega⟩
  rw [hn, Nat.add_sub_cancel] at h2 h3 h4 h5 h6 h8 h9
  obtain ⟨last, hlast⟩ : ∃ last, l[n]? = some last := ⟨_, List.getElem?_eq_getElem (by omega)⟩
  have hts : ts = ts.dropLast ++ [n] := by
    obtain ⟨ys, hy⟩ := List.getLast?_eq_some_iff.1 h5
    rw [hy]; simp
  rw [hts, List.filterMap_append, List.filterMap_cons, hlast, List.filterMap_nil] at h
  refine wp_region_any hm ?_
  have hsz : l.toArray.size = n + 1 := by simpa using hn
  rw [hsz, show Array.replicate (n + 1) false = (Array.replicate n false).push false from Array.replicate_succ]
  refine any_last n hn hlast h1 n _ a _ (by simp) (fun j oj _ hj hlj => by simp [Array.getD, hj] at hlj) ?_
  have h10 := anyH_takes (P := P) (S := S) (Q := Q) (N := fun a w => wpList P l.toArray Q [last] a w) n h2 rs ts.dropLast.length (Array.replicate n false) a w.drew h3 (fun i hi => by
    obtain ⟨hin, hat⟩ := h8 i hi
    obtain ⟨o, ho, hy⟩ := atB_spec hat
    simp only [Bool.and_eq_true] at hy
    exact ⟨o, ho, hin, hy.1, hy.2⟩) hS (fun c a d v w h => by cases d with | none => exact h | some k => exact hQ c a k v w h) (quiet_imp (fun a' h' => anyH_chain (P := P) (S := S) (Q := Q) n ts.dropLast _ a' w.drew h4 (fun i hi => by
      obtain ⟨hin, hat⟩ := h9 i hi
      obtain ⟨o, ho, hy⟩ := atB_spec hat
      exact ⟨o, ho, hin, hy⟩) h') _ _ h)
  rw [Nat.add_comm, h6] at h10
  exact wpAny_of_held _ _ _ _ h10
end
/-- A world in which, since w, no old block but these has turned. -/
structure Kept (w : World) (S : List Nat) where
  u : World
  h : Turns w u S
instance (w : World) (S : List Nat) : Nonempty (Kept w S) := ⟨⟨w, Turns.refl _ _⟩⟩
theorem region_kept {P : Program} {l : List Oper} {Q : Exit → Act → World → Prop} {id : Nat} {a : Act} {w : World} (B : List Nat) (rs ts : List Nat) (hm : P.follows .mixedOrders = true) (hB : seqB l rs ts = true) (hQ : ∀ c (a : Act) k v w, Q (.panic c) { a with tmps := a.tmps.setIfInBounds k v } w → Q (.panic c) a w)
    (h : wpQuiet P l.toArray (fun u => ∃ t : Kept w B, u = t.u) (fun a' => wpSeqS P l.toArray (fun u => Turns w u B) Q (ts.filterMap (l[·]?)) a' w.drew) (rs.filterMap (l[·]?)) a) : (Code.region id l.toArray true).wp P Q a w := by
  have e : (fun u => ∃ t : Kept w B, u = t.u) = fun u => Turns w u B := by
    funext u; apply propext
    exact ⟨fun ⟨t, e⟩ => by subst e; exact t.h, fun h => ⟨⟨u, h⟩, rfl⟩⟩
  rw [e] at h
  exact region_seq _ rs ts hm hB (Turns.refl w B).drew hQ h
end Go.Proofs.YthjomnaejhehoaaGreatDoor

namespace Go.Proofs.YthjomnaejhehoaaGreatDoor
open Go.RowKit
set_option linter.unusedVariables false
set_option linter.unusedSimpArgs false

/-- The first k bytes as a number, the least first. -/
def gw (l : List Nat) : Nat → Nat
  | 0 => 0
  | k + 1 => gw l k ||| (l.getD k 0 * 2 ^ (8 * k))
theorem pow_split (a b : Nat) : 2 ^ (a + b) = 2 ^ a * 2 ^ b := Nat.pow_add 2 a b
theorem gw_lt (l : List Nat) (h : ∀ j, l.getD j 0 < 256) : ∀ k, gw l k < 2 ^ (8 * k)
  | 0 => by simp [gw]
  | k + 1 => by
    unfold gw
    have h1 := gw_lt l h k
    have h2 := h k
    refine Nat.or_lt_two_pow (Nat.lt_of_lt_of_le h1 (Nat.pow_le_pow_right (by omega) (by omega))) ?_
    rw [show 8 * (k + 1) = 8 + 8 * k by omega, pow_split]
    exact Nat.mul_lt_mul_of_pos_right h2 (Nat.two_pow_pos _)
theorem getD_lt {l : List Nat} (h : ∀ u ∈ l, u < 256) (j : Nat) : l.getD j 0 < 256 := by
  rcases Nat.lt_or_ge j l.length with h1 | h1
  · exact h _ (getD_mem l j h1)
  · rw [List.getD_eq_getElem?_getD, List.getElem?_eq_none h1]; simp
set_option maxRecDepth 100000 in
set_option maxHeartbeats 1000000 in
theorem get_any (b off c n : Nat) (l : List Nat) (hl : l.length = n) (hn : 8 ≤ n) (hn2 : n ≤ 1000000) (h256 : ∀ u ∈ l, u < 256) (w : World) (hc : Cells8 w (some ⟨b, off, none⟩) l) :
    Calls Tryz.prog 101 #[.slice (some ⟨b, off, none⟩) n c] w fun e w' => e = .returned (.int .u64 (gw l 8 : Nat)) ∧ w = w' := by
  have HC := Lib.hid hc
  have HL := Lib.hid hl
  have hb := getD_lt h256
  have HB := Lib.hid hb
  have hg : ∀ k, k ≤ 8 → gw l k < 18446744073709551616 := fun k hk => Nat.lt_of_lt_of_le (gw_lt l hb k) (by
    have := Nat.pow_le_pow_right (n := 2) (by omega) (show 8 * k ≤ 64 by omega)
    simpa using this)
  have HG := Lib.hid hg
  obtain ⟨r, hr⟩ : ∃ r, r = gw l 8 := ⟨_, rfl⟩
  have HR := Lib.hid hr
  rw [← hr]
  clear hc hl h256 hb hg hr
  by_cases h8 : n = 8
  · subst h8
    go_enter Tryz.func101, Tryz.ntmps101
    go_wp2
    go_loop [3, 8] (fun v i => ∃ k : Nat, k ≤ 8 ∧ i = .int .i64 k ∧ v = .int .u64 (gw l k : Nat)) (fun _ i => 8 - (intOf i).toNat)
    case atStart => exact ⟨0, by omega, rfl, rfl⟩
    case round =>
      obtain ⟨k, hk, rfl, rfl⟩ := hrel
      by_cases hlt : k < 8
      · have hcell := HC.out.at0 k (by rw [HL.out]; omega)
        have hx := HB.out k
        have hgk := HG.out k (by omega)
        have hgk1 := HG.out (k + 1) (by omega)
        have hS : gw l (k + 1) = gw l k ||| (l.getD k 0 * 2 ^ (8 * k)) := rfl
        have HS := Lib.hid hS
        generalize l.getD k 0 = x at *
        have hkn : k < 8 := by omega
        obtain ⟨p, hp⟩ : ∃ p : Nat, p = x * 2 ^ (8 * k) := ⟨_, rfl⟩
        have hp64 : p < 18446744073709551616 := by
          rw [hp]
          have h1 : x * 2 ^ (8 * k) < 2 ^ 8 * 2 ^ (8 * k) := Nat.mul_lt_mul_of_pos_right hx (Nat.two_pow_pos _)
          rw [← pow_split] at h1
          have h2 := Nat.pow_le_pow_right (n := 2) (by omega) (show 8 + 8 * k ≤ 64 by omega)
          have : (2 : Nat) ^ 64 = 18446744073709551616 := by decide
          omega
        have hw8 : IntKind.i64.wrap (8 * (k : Int)) = ((8 * k : Nat) : Int) := by rw [IntKind.wrap_i64]; omega
        have hor := bits_or_u64_nat (gw l k) p hgk hp64
        rw [← hp] at HS
        clear hS
        generalize gw l k = a at *
        have hwp : IntKind.u64.wrap ((x : Int) * 2 ^ (8 * k)) = (p : Int) := by
          rw [IntKind.wrap_u64, hp]
          rw [hp] at hp64
          have : ((x * 2 ^ (8 * k) : Nat) : Int) = (x : Int) * 2 ^ (8 * k) := by simp
          rw [← this]; omega
        have HWp := Lib.hid hwp
        clear hp hwp
        go_wp2
        go_round
        case rel => exact ⟨k + 1, by omega, by go_num, by rw [HWp.out, hor, HS.out]⟩
        case measure => simp [intOf]; omega
      · obtain rfl : k = 8 := by omega
        go_wp2
        go_ret
        exact ⟨by rw [HR.out]; rfl, rfl⟩
  · have h9 : (8 : Int) < n := by omega
    clear h8
    go_enter Tryz.func101, Tryz.ntmps101
    go_wp2
    go_loop [3, 8] (fun v i => ∃ k : Nat, k ≤ 8 ∧ i = .int .i64 k ∧ v = .int .u64 (gw l k : Nat)) (fun _ i => 8 - (intOf i).toNat)
    case atStart => exact ⟨0, by omega, rfl, rfl⟩
    case round =>
      obtain ⟨k, hk, rfl, rfl⟩ := hrel
      by_cases hlt : k < 8
      · have hcell := HC.out.at0 k (by rw [HL.out]; omega)
        have hx := HB.out k
        have hgk := HG.out k (by omega)
        have hgk1 := HG.out (k + 1) (by omega)
        have hS : gw l (k + 1) = gw l k ||| (l.getD k 0 * 2 ^ (8 * k)) := rfl
        have HS := Lib.hid hS
        generalize l.getD k 0 = x at *
        have hkn : k < n := by omega
        obtain ⟨p, hp⟩ : ∃ p : Nat, p = x * 2 ^ (8 * k) := ⟨_, rfl⟩
        have hp64 : p < 18446744073709551616 := by
          rw [hp]
          have h1 : x * 2 ^ (8 * k) < 2 ^ 8 * 2 ^ (8 * k) := Nat.mul_lt_mul_of_pos_right hx (Nat.two_pow_pos _)
          rw [← pow_split] at h1
          have h2 := Nat.pow_le_pow_right (n := 2) (by omega) (show 8 + 8 * k ≤ 64 by omega)
          have : (2 : Nat) ^ 64 = 18446744073709551616 := by decide
          omega
        have hw8 : IntKind.i64.wrap (8 * (k : Int)) = ((8 * k : Nat) : Int) := by rw [IntKind.wrap_i64]; omega
        have hor := bits_or_u64_nat (gw l k) p hgk hp64
        rw [← hp] at HS
        clear hS
        generalize gw l k = a at *
        have hwp : IntKind.u64.wrap ((x : Int) * 2 ^ (8 * k)) = (p : Int) := by
          rw [IntKind.wrap_u64, hp]
          rw [hp] at hp64
          have : ((x * 2 ^ (8 * k) : Nat) : Int) = (x : Int) * 2 ^ (8 * k) := by simp
          rw [← this]; omega
        have HWp := Lib.hid hwp
        clear hp hwp
        go_wp2
        go_round
        case rel => exact ⟨k + 1, by omega, by go_num, by rw [HWp.out, hor, HS.out]⟩
        case measure => simp [intOf]; omega
      · obtain rfl : k = 8 := by omega
        go_wp2
        go_ret
        exact ⟨by rw [HR.out]; rfl, rfl⟩
end Go.Proofs.YthjomnaejhehoaaGreatDoor
namespace Go.Proofs.YthjomnaejhehoaaGreatDoor
open Go.RowKit
set_option linter.unusedVariables false
set_option linter.unusedSimpArgs false

/-- A number's bytes, the first k of eight. -/
def pb (x k : Nat) : List Nat := (List.range 8).map fun i => if i < k then x / 2 ^ (8 * i) % 256 else 0
theorem pb_length (x k : Nat) : (pb x k).length = 8 := by simp [pb]
theorem pb_lt (x k : Nat) : ∀ u ∈ pb x k, u < 256 := by
  intro u hu
  obtain ⟨i, _, rfl⟩ := List.mem_map.1 hu
  split <;> omega
theorem pb_step (x k : Nat) (hk : k < 8) : pb x (k + 1) = (pb x k).set k (x / 2 ^ (8 * k) % 256) := by
  apply List.ext_getElem
  · simp [pb]
  · intro i h1 h2
    simp only [pb, List.getElem_map, List.getElem_range, List.getElem_set]
    by_cases h : k = i
    · subst h; rw [if_pos (by omega), if_pos rfl]
    · rw [if_neg h]
      by_cases hi : i < k
      · rw [if_pos (by omega), if_pos hi]
      · rw [if_neg (by omega), if_neg hi]
abbrev row8 (l : List Nat) : Array Value := (intsV .u8 l).toArray
theorem row8_set (l : List Nat) (k y : Nat) : row8 (l.set k y) = (row8 l).setIfInBounds k (.int .u8 (y : Nat)) := by simp [row8, intsV_set]
theorem row8_size (l : List Nat) (h : l.length = 8) : (row8 l).size = 8 := by simp [row8, intsV, h]
theorem row8_one (l : List Nat) : (row8 l).all (·.oneCell') = true := by
  rw [Array.all_eq_true_iff_forall_mem]; intro x hx; exact intsV_one .u8 l x (by simpa using hx)
theorem row8_info (l : List Nat) (h : l.length = 8) : (Tryz.prog.info? 182).map (·.size) = some (row8 l).size := by
  rw [row8_size l h]; kernel_rfl
set_option maxRecDepth 100000 in
set_option maxHeartbeats 1000000 in
theorem put_any (x : Nat) (hx : x < 18446744073709551616) (w : World) :
    Calls Tryz.prog 105 #[.int .u64 x] w fun e w' => e = .returned (.agg (row8 (pb x 8))) ∧ Below w.heap.size w w' := by
  obtain ⟨wA, hwA⟩ : ∃ wA, wA = (w.alloc (.cells #[.int .u8 0, .int .u8 0, .int .u8 0, .int .u8 0, .int .u8 0, .int .u8 0, .int .u8 0, .int .u8 0] 182)).alloc (.cells #[.int .u8 0, .int .u8 0, .int .u8 0, .int .u8 0, .int .u8 0, .int .u8 0, .int .u8 0, .int .u8 0] 182) := ⟨_, rfl⟩
  have HB0 : Hid (Below w.heap.size w wA) := by unfold Hid; rw [hwA]; (repeat (first | (with_reducible refine Below.drew ?_) | (with_reducible refine below_drewN0 ?_ _) | ((with_reducible refine Below.setCell ?_ ?_ _); rotate_left; focus (first | omega | (simp; done) | (simp; omega) | (simp at *; omega))) | ((with_reducible refine Below.alloc ?_ ?_ _); rotate_left; focus (first | omega | (simp; done) | (simp; omega) | (simp at *; omega))) | (with_reducible exact Below.refl _ _)))
  have HR0 : Hid (Row wA w.heap.size 182 (row8 (pb x 0))) := by unfold Hid; rw [hwA]; exact (Row.fresh w _ _).alloc _
  have HR1 : Hid (Row wA (w.heap.size + 1) 182 (row8 (pb x 0))) := by
    unfold Hid; rw [hwA]
    have := Row.fresh (w.alloc (.cells #[.int .u8 0, .int .u8 0, .int .u8 0, .int .u8 0, .int .u8 0, .int .u8 0, .int .u8 0, .int .u8 0] 182)) 182 #[.int .u8 0, .int .u8 0, .int .u8 0, .int .u8 0, .int .u8 0, .int .u8 0, .int .u8 0, .int .u8 0]
    rw [World.size_alloc] at this; exact this
  go_enter Tryz.func105, Tryz.ntmps105
  go_wp2
  rw [← hwA]
  clear hwA
  go_loopw [5] (fun i wr => ∃ k : Nat, k ≤ 8 ∧ i = .int .i64 k ∧ Row wr w.heap.size 182 (row8 (pb x 0)) ∧ Row wr (w.heap.size + 1) 182 (row8 (pb x k)) ∧ Below w.heap.size w wr) (fun i _ => 8 - (intOf i).toNat)
  case atStart => exact ⟨0, by omega, rfl, HR0.out, HR1.out, HB0.out⟩
  case round =>
    obtain ⟨k, hk, rfl, h0, h1, hb⟩ := hrel
    have H0 := Lib.hid h0
    have H1 := Lib.hid h1
    have HB := Lib.hid hb
    clear HB0 HR0 HR1 h0 h1 hb
    by_cases hlt : k < 8
    · have hcell := H1.out.cell k
      have hfz := H1.out.frozen k
      rw [show (row8 (pb x k))[k]? = some (.int .u8 ((pb x k).getD k 0 : Nat)) by rw [List.getElem?_toArray]; exact intsV_get .u8 _ k (by rw [pb_length]; exact hlt)] at hcell
      have hw8 : IntKind.i64.wrap (8 * (k : Int)) = ((8 * k : Nat) : Int) := by rw [IntKind.wrap_i64]; omega
      have HS := Lib.hid (pb_step x k hlt)
      obtain ⟨y, hy⟩ : ∃ y, y = x / 2 ^ (8 * k) % 256 := ⟨_, rfl⟩
      have HY := Lib.hid hy
      rw [← hy] at HS
      have HV : Hid ((x : Int) / 2 ^ (8 * k) % 256 = (y : Int)) := by
        unfold Hid; rw [hy]
        simp
      clear hy
      go_wp2
      go_roundw
      case rel =>
        have hb := HB.out
        rw [HV.out]
        exact ⟨k + 1, by omega, by go_num, H0.out.far (by simp) _, by rw [HS.out, row8_set]; exact H1.out.put k _, by (have hsz0 := Below.size hb; repeat (first | (with_reducible refine Below.drew ?_) | (with_reducible refine below_drewN0 ?_ _) | ((with_reducible refine Below.setCell ?_ ?_ _); rotate_left; focus (first | omega | (simp; done) | (simp; omega) | (simp at *; omega))) | ((with_reducible refine Below.alloc ?_ ?_ _); rotate_left; focus (first | omega | (simp; done) | (simp; omega) | (simp at *; omega))) | ((with_reducible refine Below.trans ?_ (Below.mono hb ?_)); rotate_left; focus (first | omega | (simp; done) | (simp; omega) | (simp at *; omega))) | (with_reducible exact Below.refl _ _)))⟩
      case measure => simp [intOf]; omega
    · obtain rfl : k = 8 := by omega
      go_wp2_with (first | (with_reducible refine wpList_load_whole (o := ⟨some 16, .load 182 (.tmp 3), _, _, _, _⟩) rfl 182 (.tmp 3) rfl (w.heap.size + 1) rfl 182 (row8 (pb x 8)) H1.out 8 5 Tryz.underlying182 (row8_info _ (pb_length x 8)) ?_) | (with_reducible refine wpList_store_whole (o := ⟨none, .store 182 (.tmp 2) (.tmp 16), _, _, _, _⟩) rfl 182 (.tmp 2) (.tmp 16) rfl w.heap.size (row8 (pb x 8)) rfl rfl 182 (row8 (pb x 0)) H0.out (row8_info _ (pb_length x 8)) (by rw [row8_size _ (pb_length x 0), row8_size _ (pb_length x 8)]) (row8_one _) ?_))
      intro w3 HR3 hg3
      go_wp2_with fail
      refine bodyPost_ret (v := .agg (row8 (pb x 8))) (results_cell_row rfl _ _ w.heap.size 182 _ (0, 0) _ rfl HR3.out Tryz.underlying182 rfl (row8_info _ (pb_length x 8))) rfl ⟨rfl, ?_⟩
      exact below_grown HB.out hg3 HB.out.size (Nat.le_refl _)
theorem row8_ints (l : List Nat) : row8 l = (((l.map fun (x : Nat) => (x : Int))).map (Value.int .u8)).toArray := by simp [row8, intsV]
theorem run_equal8 (w : World) {i : TypeInfo} (hi : Tryz.prog.info? 5 = some i) (xs : List Int) (hx : xs.length = 8) :
    (Op.equalIn 10000 182 (.agg (xs.map (Value.int .u8)).toArray) (.agg (xs.map (Value.int .u8)).toArray)).run Tryz.prog w = .ok true w := by
  rw [run_equalIn_array w 9999 _ _ Tryz.underlying182 hi, show Tryz.prog.cellsOf 5 = 1 by kernel_rfl, run_eqItems_int w 9998 .u8 xs xs Tryz.underlying5 (by kernel_rfl) _ (fun j hj => by simp at hj; omega)]
  simp
set_option maxRecDepth 100000 in
set_option maxHeartbeats 1000000 in
theorem nought_any (l : List Nat) (hl : l.length = 8) (w : World) :
    Calls Tryz.prog 106 #[.agg (row8 l), .int .i64 8] w fun e w' => e = .returned (.bool true) ∧ Below w.heap.size w w' := by
  obtain ⟨cs, hcs⟩ : ∃ cs, cs = row8 l := ⟨_, rfl⟩
  have HCs := Lib.hid hcs
  have hsz : cs.size = 8 := by rw [hcs]; exact row8_size l hl
  obtain ⟨wA, hwA⟩ : ∃ wA, wA = (w.alloc (.cells cs 182)).alloc (.cells #[.int .u8 0, .int .u8 0, .int .u8 0, .int .u8 0, .int .u8 0, .int .u8 0, .int .u8 0, .int .u8 0] 182) := ⟨_, rfl⟩
  have HB0 : Hid (Below w.heap.size w wA) := by unfold Hid; rw [hwA]; (repeat (first | (with_reducible refine Below.drew ?_) | (with_reducible refine below_drewN0 ?_ _) | ((with_reducible refine Below.setCell ?_ ?_ _); rotate_left; focus (first | omega | (simp; done) | (simp; omega) | (simp at *; omega))) | ((with_reducible refine Below.alloc ?_ ?_ _); rotate_left; focus (first | omega | (simp; done) | (simp; omega) | (simp at *; omega))) | (with_reducible exact Below.refl _ _)))
  have HR0 : Hid (Row wA w.heap.size 182 cs) := by unfold Hid; rw [hwA]; exact (Row.fresh w _ _).alloc _
  have HR1 : Hid (Row wA (w.heap.size + 1) 182 (row8 [0, 0, 0, 0, 0, 0, 0, 0])) := by
    unfold Hid; rw [hwA]
    have := Row.fresh (w.alloc (.cells cs 182)) 182 #[.int .u8 0, .int .u8 0, .int .u8 0, .int .u8 0, .int .u8 0, .int .u8 0, .int .u8 0, .int .u8 0]
    rw [World.size_alloc] at this; exact this
  have HSz := Lib.hid hsz
  rw [← hcs]
  clear hcs hsz
  go_enter Tryz.func106, Tryz.ntmps106
  go_wp2
  rw [← hwA]
  clear hwA
  (refine region_kept ([w.heap.size + 1]) [0, 1, 2] [3] (by kernel_rfl) (by kernel_rfl) (fun _ _ _ _ _ h => h) ?_; simp only [List.filterMap_cons, List.getElem?_cons_zero, List.getElem?_cons_succ, List.filterMap_nil]; (repeat ((show wpQuiet _ _ _ _ (_ :: _) _); go_big_quiet_step (fail))); refine wpQuiet_nil ?_)
  have HSr : Hid (Src wA.drew 1 (some ⟨w.heap.size, 0, none⟩) 8 (intsV .u8 l)) := ⟨by rw [intsV_length, hl], fun _ => ⟨_, rfl, fun j u hu => by
    rw [addr_add, Nat.zero_add, show wA.drew.cell? ⟨w.heap.size, j, none⟩ = wA.cell? ⟨w.heap.size, j, none⟩ from rfl, HR0.out.cell j, HCs.out, List.getElem?_toArray]; exact hu⟩⟩
  refine wpSeqS_last (wpList_copy_grown rfl (.tmp 6) (.tmp 8) 22 22 rfl 5 Tryz.underlying22 (by kernel_rfl) (some ⟨w.heap.size, 0, none⟩) 8 8 8 8 (w.heap.size + 1) 0 rfl rfl (intsV .u8 [0, 0, 0, 0, 0, 0, 0, 0]) 182 HR1.out (intsV .u8 l) HSr.out (intsV_one .u8 l) (by simp [intsV]) ?_)
  intro w3 hr3 hg3
  have HR3 : Hid (Row w3 (w.heap.size + 1) 182 cs) := by
    unfold Hid
    have h := hr3.out
    rw [show splice (intsV .u8 [0, 0, 0, 0, 0, 0, 0, 0]) 0 ((intsV .u8 l).take 8) = intsV .u8 l by rw [List.take_of_length_le (by rw [intsV_length, hl]; exact Nat.le_refl _)]; simp [splice, intsV, hl]] at h
    rw [HCs.out]; exact h
  have HR4 : Hid (Row w3 w.heap.size 182 cs) := grown_row (show Row wA.drew w.heap.size 182 cs from HR0.out) hg3.out (by omega)
  have HB3 : Hid (Below w.heap.size w w3) := below_grown HB0.out.drew hg3.out HB0.out.size (by omega)
  have hi : (Tryz.prog.info? 182).map (·.size) = some cs.size := by rw [HSz.out]; kernel_rfl
  have HI := Lib.hid hi
  have hq : (Op.equalIn 10000 182 (.agg cs) (.agg cs)).run Tryz.prog w3 = .ok true w3 := by
    obtain ⟨ie, hie⟩ : ∃ i, Tryz.prog.info? 5 = some i := Option.isSome_iff_exists.1 (by kernel_rfl)
    rw [HCs.out, row8_ints]
    exact run_equal8 w3 hie _ (by simp [hl])
  clear HSr hr3 hg3 HR0 HR1 HB0 hi hl
  go_wp2_with (first | (with_reducible refine wpList_load_whole (o := ⟨some 10, .load 182 (.tmp 2), _, _, _, _⟩) rfl 182 (.tmp 2) rfl w.heap.size rfl 182 cs HR4.out 8 5 Tryz.underlying182 HI.out ?_) | (with_reducible refine wpList_load_whole (o := ⟨some 11, .load 182 (.tmp 5), _, _, _, _⟩) rfl 182 (.tmp 5) rfl (w.heap.size + 1) rfl 182 cs HR3.out 8 5 Tryz.underlying182 HI.out ?_))
  go_wp2
  go_ret
  exact ⟨rfl, HB3.out⟩
end Go.Proofs.YthjomnaejhehoaaGreatDoor

namespace Go.Proofs.YthjomnaejhehoaaGreatDoor
open Go.RowKit
set_option linter.unusedVariables false
set_option linter.unusedSimpArgs false

theorem u8_info : (Tryz.prog.info? 5).map (fun i => (i.zero, i.size, i.bytes)) = some (some (.int .u8 0), 1, 1) := by kernel_rfl
theorem Cells8.drop {w : World} {b off : Nat} {l : List Nat} (h : Cells8 w (some ⟨b, off, none⟩) l) (k : Nat) : Cells8 w (some ⟨b, off + k, none⟩) (l.drop k) := fun i hi => by
  rw [List.length_drop] at hi
  refine ⟨b, off + k, rfl, ?_⟩
  have := h.at0 (k + i) (by omega)
  rw [← Nat.add_assoc] at this
  rw [this]
  congr 3
  rw [List.getD_eq_getElem?_getD, List.getD_eq_getElem?_getD, List.getElem?_drop]
theorem mem_drop {l : List Nat} {k : Nat} (h : ∀ u ∈ l, u < 256) : ∀ u ∈ l.drop k, u < 256 := fun u hu => h u (List.mem_of_mem_drop hu)
theorem gw_64 (l : List Nat) (h : ∀ u ∈ l, u < 256) : gw l 8 < 18446744073709551616 := by
  have := gw_lt l (getD_lt h) 8
  simpa using this
/-- The checks of the first k words. -/
def chks (l : List Nat) (k : Nat) : List Nat := (List.range k).map fun i => chk (gw (l.drop (8 * i)) 8)
theorem chks_step (l : List Nat) (k : Nat) : chks l (k + 1) = chks l k ++ [chk (gw (l.drop (8 * k)) 8)] := by simp [chks, List.range_succ]
theorem chks_length (l : List Nat) (k : Nat) : (chks l k).length = k := by simp [chks]
theorem chks_lt (l : List Nat) (k : Nat) : ∀ u ∈ chks l k, u < 256 := by
  intro u hu
  obtain ⟨i, _, rfl⟩ := List.mem_map.1 hu
  exact chk_lt _
theorem src_one {w : World} {v : Value} {t : TypeId} : Src (w.alloc (.cells #[v] t)) 1 (some ⟨w.heap.size, 0, none⟩) 1 [v] :=
  ⟨rfl, fun _ => ⟨_, rfl, fun j u hu => by
    have hj : j = 0 := by have := (List.getElem?_eq_some_iff.1 hu).1; simpa using this
    subst hj
    simp at hu; subst hu
    rw [addr_add, Nat.zero_add, (Row.fresh w t #[v]).cell 0]; rfl⟩⟩
theorem below_append {B : Nat} {a w w' : World} {A : Option Addr} {n c : Nat} {e : TypeId} {sz : Nat} {xs : List Value} (h : Below B a w) (ho : w.ownsRow B e sz (.slice A n c) n xs) (hg : w.grownBy w' (Value.slice A n c).ownBlock) (hB : B ≤ w.heap.size) : Below B a w' :=
  h.grown hg hB (fun k hk => (ho.lt k hk).1)
set_option maxRecDepth 100000 in
set_option maxHeartbeats 2000000 in
theorem Words_any (b off c : Nat) (l : List Nat) (hl : l.length = 64) (hc64 : 64 ≤ c) (h256 : ∀ u ∈ l, u < 256) (w : World) (hc : Cells8 w (some ⟨b, off, none⟩) l) (hT : Tab w) :
    Calls Tryz.prog 85 #[.slice (some ⟨b, off, none⟩) 64 c] w fun e w' => ∃ Ao co, e = .returned (.slice Ao 8 co) ∧ w'.ownsRow w.heap.size 5 1 (.slice Ao 8 co) 8 (intsV .u8 (chks l 8)) ∧ Below w.heap.size w w' := by
  obtain ⟨i1, ji, jz0, jz1, jz2⟩ := info_parts u8_info
  have HC := Lib.hid hc
  have HT := Lib.hid hT
  have HL := Lib.hid hl
  have H256 := Lib.hid h256
  clear hc hT hl h256
  go_enter Tryz.func85, Tryz.ntmps85
  go_wp2
  go_loopw [3, 4] (fun ov i wr => ∃ (Ao : Option Addr) (co k : Nat), ov = .slice Ao k co ∧ k ≤ 8 ∧ i = .int .i64 (8 * k : Nat) ∧ wr.ownsRow w.heap.size 5 1 (.slice Ao k co) k (intsV .u8 (chks l k)) ∧ Below w.heap.size w wr) (fun _ i _ => 64 - (intOf i).toNat)
  case atStart => exact ⟨none, 0, 0, rfl, by omega, rfl, World.ownsRow_nil _ _ _ _, Below.refl _ _⟩
  case round =>
    obtain ⟨Ao, co, k, rfl, hk, rfl, ho, hb⟩ := hrel
    have HO := Lib.hid ho
    have HB := Lib.hid hb
    have hCr : Cells8 wr (some ⟨b, off + 8 * k, none⟩) (l.drop (8 * k)) := Cells8.drop (fun i hi => by obtain ⟨b2, o2, e, h⟩ := HC.out i hi; exact ⟨b2, o2, e, keep_below hb _ _ h⟩) _
    have hTr : Tab wr := HT.out.keep (keep_below hb)
    have HTr := Lib.hid hTr
    have HCr := Lib.hid hCr
    clear ho hb hCr hTr
    by_cases hlt : k < 8
    · obtain ⟨n, hn⟩ : ∃ n, n = 8 * k := ⟨_, rfl⟩
      have HN := Lib.hid hn
      have hn1 : n ≤ 56 := by omega
      have HG := Lib.hid (get_any b (off + 8 * k) (c - 8 * k) (64 - 8 * k) (l.drop (8 * k)) (by rw [List.length_drop, HL.out]) (by omega) (by omega) (mem_drop H256.out) wr HCr.out)
      rw [← hn] at HG ⊢
      clear hn
      have hw8 : IntKind.i64.wrap ((n : Int) + 8) = (n : Int) + 8 := by rw [IntKind.wrap_i64]; omega
      have HS : Hid (chks l (k + 1) = chks l k ++ [chk (gw (l.drop n) 8)]) := by unfold Hid; rw [chks_step, ← HN.out]
      have HCk := Lib.hid (Check_any (gw (l.drop n) 8) (gw_64 _ (mem_drop H256.out)) wr HTr.out)
      have hcl := chk_lt (gw (l.drop n) 8)
      generalize gw (l.drop n) 8 = x at *
      generalize chk x = y at *
      go_wp2_with fail
      refine HG.out.mono ?_
      rintro e w1 ⟨rfl, rfl⟩
      clear HG
      go_wp2_with fail
      refine HCk.out.mono ?_
      rintro e w1 ⟨rfl, rfl⟩
      clear HCk
      have HOa := Lib.hid (own_below HO.out ((Below.refl wr.heap.size wr).alloc (Nat.le_refl _) (.cells #[.int .u8 (y : Nat)] 5)))
      have HSa : Hid (Src (wr.alloc (.cells #[.int .u8 (y : Nat)] 5)) 1 (some ⟨wr.heap.size, 0, none⟩) 1 [.int .u8 (y : Nat)]) := src_one
      have HBa : Hid (Below w.heap.size w (wr.alloc (.cells #[.int .u8 (y : Nat)] 5))) := HB.out.alloc HB.out.size _
      have g1 : Hid (k + 1 ≤ maxLen) := by unfold Hid maxLen; omega
      have g2 : Hid ((k + 1) * 1 ≤ 140737488355328) := by unfold Hid; omega
      have H1 : Hid (∀ u ∈ [Value.int .u8 (y : Nat)], u.oneCell' = true) := by unfold Hid; simp [Value.oneCell']
      go_wp2_with (at_builtin; go_must (refine wpList_append_src _ rfl _ _ 22 rfl w.heap.size 5 i1 _ 1 1 Tryz.underlying22 ji jz0 jz1 jz2 rfl (by decide) _ k (intsV .u8 (chks l k)) rfl HOa.out (some ⟨wr.heap.size, 0, none⟩) 1 1 _ rfl HSa.out H1.out g1.out g2.out HBa.out.size ?_))
      intro v9 w9 hown9 hgrow9 hat9
      obtain ⟨A9, c9, rfl, _, _⟩ := own_shape hown9
      have HB9 := Lib.hid (below_append HBa.out HOa.out hgrow9 HBa.out.size)
      rw [show intsV .u8 (chks l k) ++ [Value.int .u8 (y : Nat)] = intsV .u8 (chks l (k + 1)) by rw [HS.out, intsV_append]; rfl] at hown9
      have HO9 := Lib.hid hown9
      clear hown9 hgrow9 hat9 HOa HSa HBa g1 g2 H1 HTr HCr
      go_wp2
      go_roundw
      case rel => exact ⟨A9, c9, k + 1, rfl, by omega, by rw [show 8 * (k + 1) = n + 8 by have := HN.out; omega]; go_num, HO9.out, HB9.out⟩
      case measure => simp [intOf]; omega
    · obtain rfl : k = 8 := by omega
      go_wp2
      go_ret
      exact ⟨_, _, rfl, HO.out, HB.out⟩
end Go.Proofs.YthjomnaejhehoaaGreatDoor

namespace Go.Proofs.YthjomnaejhehoaaGreatDoor
open Go.RowKit
set_option linter.unusedVariables false
set_option linter.unusedSimpArgs false

/-- The i-th word put right. -/
def mw (l cs : List Nat) (i : Nat) : Nat × Nat × Nat := mend (gw (l.drop (8 * i)) 8) (cs.getD i 0)
def mBytes (l cs : List Nat) : Nat → List Nat
  | 0 => []
  | k + 1 => mBytes l cs k ++ pb (mw l cs k).1 8
def mCnt (l cs : List Nat) : Nat → Nat
  | 0 => 0
  | k + 1 => mCnt l cs k + (if (mw l cs k).2.2 = 1 then 1 else 0)
def mBad (l cs : List Nat) : Bool := (List.range 8).any fun i => (mw l cs i).2.2 == 2
theorem mBytes_length (l cs : List Nat) (k : Nat) : (mBytes l cs k).length = 8 * k := by
  induction k with
  | zero => rfl
  | succ k ih => unfold mBytes; rw [List.length_append, ih, pb_length]; omega
theorem mBytes_lt (l cs : List Nat) (k : Nat) : ∀ u ∈ mBytes l cs k, u < 256 := by
  induction k with
  | zero => simp [mBytes]
  | succ k ih =>
    intro u hu
    unfold mBytes at hu
    rw [List.mem_append] at hu
    rcases hu with h | h
    · exact ih u h
    · exact pb_lt _ _ u h
theorem mCnt_le (l cs : List Nat) (k : Nat) : mCnt l cs k ≤ k := by
  induction k with
  | zero => simp [mCnt]
  | succ k ih => unfold mCnt; split <;> omega
theorem mend_lt (x c : Nat) (hx : x < 18446744073709551616) : (mend x c).1 < 18446744073709551616 := by
  unfold mend
  split
  · exact hx
  · split
    · rename_i b hb
      have := (colOf_some hb).1
      exact Nat.xor_lt_two_pow (n := 64) hx (Nat.pow_lt_pow_right (by omega) this)
    · split <;> exact hx
theorem mend_how (x c : Nat) : (mend x c).2.2 = 0 ∨ (mend x c).2.2 = 1 ∨ (mend x c).2.2 = 2 := by
  unfold mend
  split
  · simp
  · split
    · simp
    · split <;> simp
theorem mBad_at (l cs : List Nat) (k : Nat) (hk : k < 8) (h : (mw l cs k).2.2 = 2) : mBad l cs = true := by
  unfold mBad
  rw [List.any_eq_true]
  exact ⟨k, List.mem_range.2 hk, by simp [h]⟩
theorem mBad_none (l cs : List Nat) (h : ∀ i, i < 8 → (mw l cs i).2.2 ≠ 2) : mBad l cs = false := by
  unfold mBad
  rw [List.any_eq_false]
  intro i hi
  simp [h i (List.mem_range.1 hi)]
/-- What MendAll leaves. -/
def MendAllPost (l cs : List Nat) (w : World) (e : Ending) (w' : World) : Prop :=
  Below w.heap.size w w' ∧ (mBad l cs = true → e = .returned (.tuple #[.slice none 0 0, .int .i64 0, .bool false])) ∧
    (mBad l cs = false → ∃ A c, e = .returned (.tuple #[.slice A 64 c, .int .i64 (mCnt l cs 8 : Nat), .bool true]) ∧ w'.ownsRow w.heap.size 5 1 (.slice A 64 c) 64 (intsV .u8 (mBytes l cs 8)))
set_option maxRecDepth 100000 in
set_option maxHeartbeats 4000000 in
theorem MendAll_any (b off c b2 off2 c2 : Nat) (l cs : List Nat) (hl : l.length = 64) (hcl : cs.length = 8) (hc64 : 64 ≤ c) (h256 : ∀ u ∈ l, u < 256) (hcs : ∀ u ∈ cs, u < 256) (w : World) (hc : Cells8 w (some ⟨b, off, none⟩) l) (hc2 : Cells8 w (some ⟨b2, off2, none⟩) cs) (hT : Tab w) :
    Calls Tryz.prog 87 #[.slice (some ⟨b, off, none⟩) 64 c, .slice (some ⟨b2, off2, none⟩) 8 c2] w (MendAllPost l cs w) := by
  obtain ⟨i1, ji, jz0, jz1, jz2⟩ := info_parts u8_info
  have HC := Lib.hid hc
  have HC2 := Lib.hid hc2
  have HT := Lib.hid hT
  have HL := Lib.hid hl
  have HCL := Lib.hid hcl
  have H256 := Lib.hid h256
  have Hcs := Lib.hid hcs
  clear hc hc2 hT hl hcl h256 hcs
  have hmk : i1.bytes * 64 ≤ 281474976710656 := by rw [jz2]; omega
  have hml : 64 ≤ maxLen := by unfold maxLen; omega
  have HMk := Lib.hid (And.intro hmk hml)
  clear hmk hml
  go_enter Tryz.func87, Tryz.ntmps87
  go_wp2_with ((with_reducible refine wpList_make_own (o := ⟨some 26, .makeSlice 22 (.const (.int .i64 0)) (.tmp 25), _, _, _, _⟩) _ rfl (.const (.int .i64 0)) (.tmp 25) 22 rfl w.heap.size 5 i1 _ 1 Tryz.underlying22 ji jz0 jz1 .i64 .i64 64 64 rfl rfl rfl HMk.out.1 HMk.out.2 (Nat.le_refl _) ?_); intro w1 ho1 hg1)
  have HO1 := Lib.hid ho1
  have HB1 : Hid (Below w.heap.size w w1) := (Below.refl _ _).grown hg1 (Nat.le_refl _) (by intro k hk; cases hk)
  clear ho1 hg1
  go_wp2
  go_loopw [7, 8, 29] (fun ov nv i wr => ∃ (Ao : Option Addr) (co k : Nat), ov = .slice Ao (8 * k) co ∧ k ≤ 8 ∧ i = .int .i64 k ∧ nv = .int .i64 (mCnt l cs k : Nat) ∧ (∀ j, j < k → (mw l cs j).2.2 ≠ 2) ∧ wr.ownsRow w.heap.size 5 1 (.slice Ao (8 * k) co) (8 * k) (intsV .u8 (mBytes l cs k)) ∧ Below w.heap.size w wr) (fun _ _ i _ => 8 - (intOf i).toNat)
  case atStart => exact ⟨_, 64, 0, rfl, by omega, rfl, rfl, fun j hj => by omega, HO1.out, HB1.out⟩
  case round =>
    obtain ⟨Ao, co, k, rfl, hk, rfl, rfl, hok, ho, hb⟩ := hrel
    have HO := Lib.hid ho
    have HB := Lib.hid hb
    have HOk := Lib.hid hok
    have HTr := Lib.hid (HT.out.keep (keep_below hb))
    have HCr : Hid (Cells8 wr (some ⟨b, off + 8 * k, none⟩) (l.drop (8 * k))) := Cells8.drop (fun i hi => by obtain ⟨b2, o2, e, h⟩ := HC.out i hi; exact ⟨b2, o2, e, keep_below hb _ _ h⟩) _
    clear HO1 HB1 ho hok
    by_cases hlt : k < 8
    · have hcell := keep_below hb _ _ (HC2.out.at0 k (by rw [HCL.out]; exact hlt))
      have hcx : cs.getD k 0 < 256 := getD_lt Hcs.out k
      obtain ⟨n, hn⟩ : ∃ n, n = 8 * k := ⟨_, rfl⟩
      have HN := Lib.hid hn
      have hn1 : n ≤ 56 := by omega
      have HG := Lib.hid (get_any b (off + 8 * k) (c - 8 * k) (64 - 8 * k) (l.drop (8 * k)) (by rw [List.length_drop, HL.out]) (by omega) (by omega) (mem_drop H256.out) wr HCr.out)
      have HMw : Hid (mw l cs k = mend (gw (l.drop (8 * k)) 8) (cs.getD k 0)) := rfl
      have hx64 := gw_64 (l.drop (8 * k)) (mem_drop H256.out)
      have hw8 : IntKind.i64.wrap ((k : Int) * 8) = (n : Int) := by rw [IntKind.wrap_i64, hn]; omega
      have hw64 : IntKind.i64.wrap (64 - (n : Int)) = ((64 - n : Nat) : Int) := by rw [IntKind.wrap_i64]; omega
      have hmin : ¬ ((64 - n : Nat) : Int) < 8 := by omega
      have hmc := mCnt_le l cs k
      have HMc : Hid (mCnt l cs (k + 1) = mCnt l cs k + (if (mw l cs k).2.2 = 1 then 1 else 0)) := rfl
      have HMb : Hid (mBytes l cs (k + 1) = mBytes l cs k ++ pb (mw l cs k).1 8) := rfl
      have hhow := mend_how (gw (l.drop (8 * k)) 8) (cs.getD k 0)
      have hm64 := mend_lt (gw (l.drop (8 * k)) 8) (cs.getD k 0) hx64
      rw [← HMw.out] at hhow hm64
      have HMd := Lib.hid (Mend_any (gw (l.drop (8 * k)) 8) (cs.getD k 0) hx64 hcx wr HTr.out)
      unfold MendPost at HMd
      rw [← HMw.out] at HMd
      rw [← hn] at HG HMd HMw hx64 ⊢
      generalize gw (l.drop n) 8 = x at *
      generalize cs.getD k 0 = y at *
      have HHow := Lib.hid hhow
      clear hn hb hhow
      go_wp2_with fail
      refine HG.out.mono ?_
      rintro e w2 ⟨rfl, rfl⟩
      clear HG
      go_wp2_with fail
      refine HMd.out.mono ?_
      rintro e w2 ⟨rfl, rfl⟩
      have HPut := Lib.hid (put_any (mw l cs k).1 hm64 wr)
      clear HMd HMw
      obtain ⟨b0, b1, b2', b3, b4, b5, b6, b7, hpb⟩ : ∃ b0 b1 b2' b3 b4 b5 b6 b7, pb (mw l cs k).1 8 = [b0, b1, b2', b3, b4, b5, b6, b7] := by
        have := pb_length (mw l cs k).1 8
        match pb (mw l cs k).1 8, this with | [a0, a1, a2, a3, a4, a5, a6, a7], _ => exact ⟨a0, a1, a2, a3, a4, a5, a6, a7, rfl⟩
      have HPb := Lib.hid hpb
      rw [hpb] at HPut HMb
      obtain ⟨arr, harr⟩ : ∃ arr, arr = (#[.int .u8 (b0 : Nat), .int .u8 (b1 : Nat), .int .u8 (b2' : Nat), .int .u8 (b3 : Nat), .int .u8 (b4 : Nat), .int .u8 (b5 : Nat), .int .u8 (b6 : Nat), .int .u8 (b7 : Nat)] : Array Value) := ⟨_, rfl⟩
      have HArr := Lib.hid harr
      rw [show row8 [b0, b1, b2', b3, b4, b5, b6, b7] = #[.int .u8 (b0 : Nat), .int .u8 (b1 : Nat), .int .u8 (b2' : Nat), .int .u8 (b3 : Nat), .int .u8 (b4 : Nat), .int .u8 (b5 : Nat), .int .u8 (b6 : Nat), .int .u8 (b7 : Nat)] from rfl] at HPut
      clear hpb harr
      go_wp2_with fail
      refine HPut.out.mono ?_
      rintro e w3 ⟨rfl, hb3⟩
      have HB3 := Lib.hid hb3
      clear HPut hb3
      obtain ⟨w4, hw4⟩ : ∃ w4, w4 = w3.alloc (.cells #[.int .u8 (b0 : Nat), .int .u8 (b1 : Nat), .int .u8 (b2' : Nat), .int .u8 (b3 : Nat), .int .u8 (b4 : Nat), .int .u8 (b5 : Nat), .int .u8 (b6 : Nat), .int .u8 (b7 : Nat)] 182) := ⟨_, rfl⟩
      have HB4 : Hid (Below wr.heap.size wr w4) := by unfold Hid; rw [hw4]; exact HB3.out.alloc HB3.out.size _
      have HR4 : Hid (Row w4 w3.heap.size 182 #[.int .u8 (b0 : Nat), .int .u8 (b1 : Nat), .int .u8 (b2' : Nat), .int .u8 (b3 : Nat), .int .u8 (b4 : Nat), .int .u8 (b5 : Nat), .int .u8 (b6 : Nat), .int .u8 (b7 : Nat)]) := by unfold Hid; rw [hw4]; exact Row.fresh _ _ _
      have HBw4 : Hid (Below w.heap.size w w4) := HB.out.trans (HB4.out.mono HB.out.size)
      have HO4 := Lib.hid (own_below HO.out HB4.out)
      have HN4 := Lib.hid (nought_any [b0, b1, b2', b3, b4, b5, b6, b7] rfl w4)
      rw [show row8 [b0, b1, b2', b3, b4, b5, b6, b7] = #[.int .u8 (b0 : Nat), .int .u8 (b1 : Nat), .int .u8 (b2' : Nat), .int .u8 (b3 : Nat), .int .u8 (b4 : Nat), .int .u8 (b5 : Nat), .int .u8 (b6 : Nat), .int .u8 (b7 : Nat)] from rfl] at HN4
      obtain ⟨how, hhow⟩ : ∃ how, how = (mw l cs k).2.2 := ⟨_, rfl⟩
      have HHw := Lib.hid hhow
      rw [← hhow] at HHow HMc ⊢
      obtain ⟨m0, hm0⟩ : ∃ m0, m0 = (mw l cs k).1 := ⟨_, rfl⟩
      rw [← hm0] at hm64 ⊢
      obtain ⟨m1, hm1⟩ : ∃ m1, m1 = (mw l cs k).2.1 := ⟨_, rfl⟩
      rw [← hm1]
      obtain ⟨cn, hcn⟩ : ∃ cn, cn = mCnt l cs k := ⟨_, rfl⟩
      rw [← hcn] at HMc hmc ⊢
      have hwc : IntKind.i64.wrap ((cn : Int) + 1) = (cn : Int) + 1 := by rw [IntKind.wrap_i64]; omega
      clear hhow hm0 hm1 hcn hcell HTr HCr hx64 hcx HPb HArr
      have HOk2 : Hid (how ≠ 2 → ∀ j, j < k + 1 → (mw l cs j).2.2 ≠ 2) := fun h j hj => by
        rcases Nat.lt_or_ge j k with h1 | h1
        · exact HOk.out j h1
        · have : j = k := by omega
          rw [this, ← HHw.out]; exact h
      rcases HHow.out with h | h | h
      · subst h
        rw [if_neg (by omega), Nat.add_zero] at HMc
        have HOk3 := Lib.hid (HOk2.out (by omega))
        clear HOk2
        go_wp2_with fail
        rw [← hw4]
        refine HN4.out.mono ?_
        rintro e w5 ⟨rfl, hb5⟩
        have HBw5 : Hid (Below w.heap.size w w5) := HBw4.out.trans (hb5.mono HBw4.out.size)
        have HR5 := Lib.hid (HR4.out.below hb5 HR4.out.lt)
        have HO5 : Hid (w5.ownsRow w.heap.size 5 1 (.slice Ao n co) n (intsV .u8 (mBytes l cs k))) := by unfold Hid; rw [HN.out]; exact own_below HO4.out hb5
        have HS5 : Hid (Src w5 1 (some ⟨w3.heap.size, 0, none⟩) 8 (intsV .u8 [b0, b1, b2', b3, b4, b5, b6, b7])) := ⟨rfl, fun _ => ⟨_, rfl, fun j u hu => by
          rw [addr_add, Nat.zero_add, HR5.out.cell j, List.getElem?_toArray]; exact hu⟩⟩
        have g1 : Hid (n + 8 ≤ maxLen) := by unfold Hid maxLen; omega
        have g2 : Hid ((n + 8) * 1 ≤ 140737488355328) := by unfold Hid; omega
        clear HN4 hb5 HR4 HB4 HO4
        go_wp2_with (at_builtin; go_must (refine wpList_append_src _ rfl _ _ 22 rfl w.heap.size 5 i1 _ 1 1 Tryz.underlying22 ji jz0 jz1 jz2 rfl (by decide) _ n (intsV .u8 (mBytes l cs k)) rfl HO5.out (some ⟨w3.heap.size, 0, none⟩) 8 8 _ rfl HS5.out (intsV_one .u8 _) g1.out g2.out HBw5.out.size ?_))
        intro v9 w9 hown9 hgrow9 hat9
        obtain ⟨A9, c9, rfl, _, _⟩ := own_shape hown9
        have HB9 := Lib.hid (below_append HBw5.out HO5.out hgrow9 HBw5.out.size)
        rw [show intsV .u8 (mBytes l cs k) ++ intsV .u8 [b0, b1, b2', b3, b4, b5, b6, b7] = intsV .u8 (mBytes l cs (k + 1)) by rw [HMb.out, intsV_append], show n + 8 = 8 * (k + 1) by have := HN.out; omega] at hown9
        have HO9 := Lib.hid hown9
        rw [show n + 8 = 8 * (k + 1) by have := HN.out; omega]
        clear hown9 hgrow9 hat9 HO5 HS5 HR5 HBw4 HBw5 g1 g2 HO HB hw4
        go_wp2
        go_roundw
        case rel => exact ⟨A9, c9, k + 1, rfl, by omega, by go_num, by rw [HMc.out]; go_num, HOk3.out, HO9.out, HB9.out⟩
        case measure => simp [intOf]; omega
      · subst h
        rw [if_pos rfl] at HMc
        have HOk3 := Lib.hid (HOk2.out (by omega))
        clear HOk2
        go_wp2_with fail
        rw [← hw4]
        refine HN4.out.mono ?_
        rintro e w5 ⟨rfl, hb5⟩
        have HBw5 : Hid (Below w.heap.size w w5) := HBw4.out.trans (hb5.mono HBw4.out.size)
        have HR5 := Lib.hid (HR4.out.below hb5 HR4.out.lt)
        have HO5 : Hid (w5.ownsRow w.heap.size 5 1 (.slice Ao n co) n (intsV .u8 (mBytes l cs k))) := by unfold Hid; rw [HN.out]; exact own_below HO4.out hb5
        have HS5 : Hid (Src w5 1 (some ⟨w3.heap.size, 0, none⟩) 8 (intsV .u8 [b0, b1, b2', b3, b4, b5, b6, b7])) := ⟨rfl, fun _ => ⟨_, rfl, fun j u hu => by
          rw [addr_add, Nat.zero_add, HR5.out.cell j, List.getElem?_toArray]; exact hu⟩⟩
        have g1 : Hid (n + 8 ≤ maxLen) := by unfold Hid maxLen; omega
        have g2 : Hid ((n + 8) * 1 ≤ 140737488355328) := by unfold Hid; omega
        clear HN4 hb5 HR4 HB4 HO4
        go_wp2_with (at_builtin; go_must (refine wpList_append_src _ rfl _ _ 22 rfl w.heap.size 5 i1 _ 1 1 Tryz.underlying22 ji jz0 jz1 jz2 rfl (by decide) _ n (intsV .u8 (mBytes l cs k)) rfl HO5.out (some ⟨w3.heap.size, 0, none⟩) 8 8 _ rfl HS5.out (intsV_one .u8 _) g1.out g2.out HBw5.out.size ?_))
        intro v9 w9 hown9 hgrow9 hat9
        obtain ⟨A9, c9, rfl, _, _⟩ := own_shape hown9
        have HB9 := Lib.hid (below_append HBw5.out HO5.out hgrow9 HBw5.out.size)
        rw [show intsV .u8 (mBytes l cs k) ++ intsV .u8 [b0, b1, b2', b3, b4, b5, b6, b7] = intsV .u8 (mBytes l cs (k + 1)) by rw [HMb.out, intsV_append], show n + 8 = 8 * (k + 1) by have := HN.out; omega] at hown9
        have HO9 := Lib.hid hown9
        rw [show n + 8 = 8 * (k + 1) by have := HN.out; omega]
        clear hown9 hgrow9 hat9 HO5 HS5 HR5 HBw4 HBw5 g1 g2 HO HB hw4
        go_wp2
        go_roundw
        case rel => exact ⟨A9, c9, k + 1, rfl, by omega, by go_num, by rw [HMc.out]; go_num, HOk3.out, HO9.out, HB9.out⟩
        case measure => simp [intOf]; omega
      · subst h
        have hbad := mBad_at l cs k hlt HHw.out.symm
        have HBad := Lib.hid hbad
        clear hbad HOk2
        go_wp2
        rw [← hw4]
        refine bodyPost_ret (v := .tuple #[.slice none 0 0, .int .i64 0, .bool false]) (by simp [results, Tryz.results87, go_sem]) rfl ⟨HBw4.out, fun _ => rfl, fun h => ?_⟩
        rw [HBad.out] at h; cases h
    · obtain rfl : k = 8 := by omega
      have hnb := mBad_none l cs HOk.out
      have HNb := Lib.hid hnb
      obtain ⟨cn, hcn⟩ : ∃ cn, cn = mCnt l cs 8 := ⟨_, rfl⟩
      have HCn := Lib.hid hcn
      rw [← hcn]
      clear hnb hcn
      go_wp2
      refine bodyPost_ret (v := .tuple #[.slice Ao 64 co, .int .i64 cn, .bool true]) (by simp [results, Tryz.results87, go_sem]) rfl ⟨HB.out, fun h => ?_, fun _ => ⟨Ao, co, by rw [HCn.out], HO.out⟩⟩
      rw [HNb.out] at h; cases h
end Go.Proofs.YthjomnaejhehoaaGreatDoor
