/- What follows is laid together from several texts of mine, in their order. -/
import Derived.Test.YthjomnaejhehoaaGreatDoorQ5
import Derived.OrdersIn
import Derived.TacticsIn
import Derived.Test.YthjomnaejhehoaaGreatDoorQ22

namespace Go.Proofs.YthjomnaejhehoaaGreatDoor
open Go.RowKit
set_option linter.unusedVariables false
set_option linter.unusedSimpArgs false

section
variable {P : Program} {n : Nat} {ops : Array Oper} {Q : Exit → Act → World → Prop} {md : Region.Mode} {S : World → Prop}
theorem sem_wide (o : Oper) (ρ : Operand → Value) : o.semAt Fence.wide.round ρ = execOp ρ o := Oper.semAt_none ρ o
theorem opIn_yields {i : Nat} {o : Oper} {v : Value} {a : Act} (hi : ops[i]? = some o) (hy : YieldsIf P ops S o v a) {K : Act → World → Prop} {w : World} (hS : S w) (h : K (a.put o.dst v) w) : wpOpIn Fence.wide n P ops Q i K a w := by
  unfold wpOpIn
  simp only [hi]
  rcases hy with ⟨hw, hv⟩ | ⟨hw, rfl⟩
  · rw [if_pos hw]
    unfold Oper.wpIn
    rw [sem_wide, hv w hS]
    exact ⟨fun _ _ => trivial, h⟩
  · rw [if_neg (by rw [hw]; simp)]
    exact ⟨fun _ _ => trivial, h⟩
theorem opIn_putIf {j : Nat} {oi oj : Oper} {v : Value} (hj : ops[j]? = some oj) (hap : oi.apart ops oj = true) (hsi : ∀ cs b, oi.op ≠ .select cs b) (hsj : ∀ cs b, oj.op ≠ .select cs b)
    (hQ : ∀ c a w, Q (.panic c) (a.put oi.dst v) w → Q (.panic c) a w) {K : Act → World → Prop} {a : Act} {w : World} (hy : YieldsIf P ops S oi v a) (h : wpOpIn Fence.wide n P ops Q j K (a.put oi.dst v) w) :
    wpOpIn Fence.wide n P ops Q j (fun a' w' => YieldsIf P ops S oi v a' ∧ K (a'.put oi.dst v) w') a w := by
  obtain ⟨h1, h2, h3⟩ := Oper.apart_spec hap
  have keep : ∀ (a : Act), YieldsIf P ops S oi v a → ∀ u, YieldsIf P ops S oi v (a.put oj.dst u) := fun a hy u => hy.of_same (execOp_put oi hsi a oj.dst u h3) (wanted_put oi a oj.dst u h3)
  have keepD : ∀ d, YieldsIf P ops S oi v { a with defers := d :: a.defers } := fun d => hy.of_same rfl rfl
  unfold wpOpIn at *
  simp only [hj] at *
  rw [wanted_put oj a oi.dst v h1] at h
  by_cases hw : Region.wanted oj (yielded ops a.tmps) = true
  · rw [if_pos hw] at h ⊢
    unfold Oper.wpIn at *
    refine ⟨fun _ _ => trivial, ?_⟩
    have h := h.2
    rw [sem_wide] at h ⊢
    rw [execOp_put oj hsj a oi.dst v h1] at h
    generalize (execOp a.eval oj).run P w = r at *
    cases r with
    | ok x w' =>
      cases x <;> simp only [Oper.uponIn] at h ⊢
      case value u => exact ⟨keep a hy u, by rw [← Act.put_comm a v u h2]; exact h⟩
      case skip => exact ⟨keep a hy _, by rw [← Act.put_comm a v undef h2]; exact h⟩
      case defer d =>
        refine ⟨keep _ (keepD d) _, ?_⟩
        rw [← Act.put_comm _ v undef h2, ← Act.put_defers]
        exact h
      case enter f args =>
        refine ⟨h.1, CallsIn.mono h.2 fun e w'' he => ?_⟩
        cases e with
        | returned u => exact ⟨keep a hy u, by rw [← Act.put_comm a v u h2]; exact he⟩
        | panicked c => exact hQ _ _ _ he
        | outgrown => exact he
      case row row args => exact ⟨h.1, RowsIn.mono h.2 fun u w'' he => ⟨keep a hy u, by rw [← Act.put_comm a v u h2]; exact he⟩⟩
      case round l f t asg b =>
        refine ⟨h.1, RoundIn.mono h.2 fun e w'' he => ?_⟩
        cases e with
        | returned u => exact ⟨keep a hy u, by rw [← Act.put_comm a v u h2]; exact he⟩
        | panicked c => exact hQ _ _ _ he
        | outgrown => exact he
    | halt x w' =>
      cases x <;> simp only [Oper.uponIn] at h ⊢
      case panic u => exact hQ _ _ _ h
  · rw [if_neg hw] at h ⊢
    exact ⟨fun _ _ => trivial, keep a hy _, by rw [← Act.put_comm a v undef h2]; exact h.2⟩
/-- S is shown anew behind each. -/
def wpAnyHI (n : Nat) (P : Program) (md : Region.Mode) (ops : Array Oper) (Q : Exit → Act → World → Prop) (S : World → Prop) : Nat → Array Bool → Act → World → Prop
  | 0, listed, a, w => Region.ready md ops listed = [] ∧ Q .normal a w
  | fuel + 1, listed, a, w => (Region.ready md ops listed = [] → Q .normal a w) ∧ ∀ i ∈ Region.ready md ops listed, wpOpIn Fence.wide n P ops Q i (fun a' w' => S w' ∧ wpAnyHI n P md ops Q S fuel (listed.setIfInBounds i true) a' w') a w
theorem anyHI_sound : ∀ (fuel : Nat) (listed : Array Bool) (a : Act) (w : World), wpAnyHI n P md ops Q S fuel listed a w → wpAnyIn Fence.wide n P md ops Q fuel listed a w
  | 0, _, _, _, h => h
  | fuel + 1, _, _, _, h => ⟨h.1, fun i hi => wpOpIn_mono (fun a' w' h' => anyHI_sound fuel _ a' w' h'.2) (h.2 i hi)⟩
theorem anyHI_first {i : Nat} {oi : Oper} {v : Value} (hi : ops[i]? = some oi) (hsel : ∀ (j : Nat) (o : Oper) cs b, ops[j]? = some o → o.op ≠ .select cs b) (hQ : ∀ c a w, Q (.panic c) (a.put oi.dst v) w → Q (.panic c) a w) :
    ∀ (fuel : Nat) (listed : Array Bool) (a : Act) (w : World),
      (∀ j oj, ops[j]? = some oj → j ≠ i → listed.getD j true = false → (∀ e ∈ oj.after, Region.binds md e = true → e.on ≠ i) → oi.apart ops oj = true) →
      i ∈ Region.ready md ops listed → YieldsIf P ops S oi v a → S w → wpAnyHI n P md ops Q S fuel (listed.setIfInBounds i true) (a.put oi.dst v) w → wpAnyHI n P md ops Q S (fuel + 1) listed a w := by
  intro fuel
  induction fuel with
  | zero =>
    intro listed a w _ hr hy hS H
    refine ⟨fun h => (by rw [h] at hr; cases hr), fun j hj => ?_⟩
    by_cases hji : j = i
    · subst hji; exact opIn_yields hi hy hS ⟨hS, H⟩
    · have := ready_mono hj hji
      rw [H.1] at this
      cases this
  | succ fuel ih =>
    intro listed a w hfree hr hy hS H
    refine ⟨fun h => (by rw [h] at hr; cases hr), fun j hj => ?_⟩
    by_cases hji : j = i
    · subst hji; exact opIn_yields hi hy hS ⟨hS, H⟩
    · have h1 := H.2 j (ready_mono hj hji)
      obtain ⟨hjun, oj, hoj, hall⟩ := mem_ready.1 hj
      have hnot : ∀ e ∈ oj.after, Region.binds md e = true → e.on ≠ i := fun e he hb heq => by
        have h1 := hall e he hb
        have h0 := (mem_ready.1 hr).1
        rw [heq] at h1
        rcases Nat.lt_or_ge i listed.size with h' | h'
        · simp [h'] at h0 h1; rw [h0] at h1; cases h1
        · simp [Array.getElem?_eq_none h'] at h1
      have h2 := opIn_putIf hoj (hfree j oj hoj hji hjun hnot) (fun cs b => hsel i oi cs b hi) (fun cs b => hsel j oj cs b hoj) hQ hy h1
      have hfree' : ∀ k ok, ops[k]? = some ok → k ≠ i → (listed.setIfInBounds j true).getD k true = false → (∀ e ∈ ok.after, Region.binds md e = true → e.on ≠ i) → oi.apart ops ok = true := fun k ok hk hki hun hno => by
        refine hfree k ok hk hki ?_ hno
        by_cases hjk : j = k
        · subst hjk; exact hjun
        · rw [getD_set_ne true hjk] at hun; exact hun
      refine wpOpIn_mono (fun a' w' h3 => ⟨h3.2.1, ih (listed.setIfInBounds j true) a' w' hfree' (ready_mono hr (Ne.symm hji)) h3.1 h3.2.1 ?_⟩) h2
      rw [Array.setIfInBounds_comm _ _ hji]
      exact h3.2.2
theorem anyHI_take {i : Nat} {oi : Oper} {v : Value} {fuel : Nat} {listed : Array Bool} {a : Act} {w : World} (hi : ops[i]? = some oi) (hs : Region.noSelect ops = true) (hf : Region.free md ops listed i = true) (hr : (Region.ready md ops listed).contains i = true)
    (hQ : ∀ c a w, Q (.panic c) (a.put oi.dst v) w → Q (.panic c) a w) (hy : YieldsIf P ops S oi v a) (hS : S w) (h : wpAnyHI n P md ops Q S fuel (listed.setIfInBounds i true) (a.put oi.dst v) w) : wpAnyHI n P md ops Q S (fuel + 1) listed a w :=
  anyHI_first hi (Region.noSelect_spec hs) hQ fuel listed a w (Region.free_spec hi hf) (by simpa using hr) hy hS h
theorem anyHI_one {i : Nat} {fuel : Nat} {listed : Array Bool} {a : Act} {w : World} (hr : Region.ready md ops listed = [i]) (h : wpOpIn Fence.wide n P ops Q i (fun a' w' => S w' ∧ wpAnyHI n P md ops Q S fuel (listed.setIfInBounds i true) a' w') a w) : wpAnyHI n P md ops Q S (fuel + 1) listed a w :=
  ⟨fun h0 => (by rw [hr] at h0; cases h0), fun j hj => by rw [hr] at hj; rw [List.mem_singleton.1 hj]; exact h⟩
theorem anyHI_done {listed : Array Bool} {a : Act} {w : World} (hr : Region.ready md ops listed = []) (h : Q .normal a w) : ∀ fuel, wpAnyHI n P md ops Q S fuel listed a w
  | 0 => ⟨hr, h⟩
  | _ + 1 => ⟨fun _ => h, by rw [hr]; simp⟩
/-- One operation after the other, in the fence; behind each S is shown anew. -/
def wpSeqI (n : Nat) (P : Program) (ops : Array Oper) (S : World → Prop) (Q : Exit → Act → World → Prop) : List Oper → Act → World → Prop
  | [], a, w => Q .normal a w
  | o :: rest, a, w => wpListIn Fence.wide n P ops (outQ Q fun a' w' => S w' ∧ wpSeqI n P ops S Q rest a' w') [o] a w
theorem oper_wpIn_post {o : Oper} {a : Act} {w : World} {K : Act → World → Prop} {Q Q' : Exit → Act → World → Prop} (hp : ∀ c a w, Q (.panic c) a w → Q' (.panic c) a w) (ho : LetsOut Q → LetsOut Q') (h : o.wpIn Fence.wide n P a w K Q) : o.wpIn Fence.wide n P a w K Q' := by
  unfold Oper.wpIn at *
  refine ⟨h.1, ?_⟩
  have h := h.2
  generalize (o.semAt Fence.wide.round a.eval).run P w = r at *
  cases r with
  | ok x w' =>
    cases x <;> simp only [Oper.uponIn] at h ⊢ <;>
      first
        | exact h
        | exact ⟨h.1, CallsIn.mono h.2 (fun e w'' he => by cases e <;> first | exact he | exact hp _ _ _ he | exact ho he)⟩
        | exact ⟨h.1, RoundIn.mono h.2 (fun e w'' he => by cases e <;> first | exact he | exact hp _ _ _ he | exact ho he)⟩
  | halt x w' => cases x <;> simp only [Oper.uponIn] at h ⊢ <;> first | exact h | exact hp _ _ _ h
theorem letsOut_out {Q : Exit → Act → World → Prop} {N : Act → World → Prop} (h : LetsOut (outQ Q N)) : LetsOut Q := by
  obtain ⟨a, w, h⟩ := h; exact ⟨a, w, h⟩
end
section
variable {P : Program} {n : Nat} {l : List Oper} {Q : Exit → Act → World → Prop} {S : World → Prop}
theorem opIn_of_list {i : Nat} {o : Oper} (ho : l[i]? = some o) {N : Act → World → Prop} {K : Act → World → Prop} {a : Act} {w : World} (hK : ∀ a w, N a w → K a w) (h : wpListIn Fence.wide n P l.toArray (outQ Q N) [o] a w) : wpOpIn Fence.wide n P l.toArray Q i K a w := by
  have ho' : l.toArray[i]? = some o := by simpa using ho
  unfold wpOpIn
  simp only [ho']
  unfold wpListIn at h
  by_cases hw : Region.wanted o (yielded l.toArray a.tmps) = true
  · rw [if_pos hw] at h ⊢
    exact oper_wpIn_post (fun c a w h => h) (fun h => letsOut_out (N := N) h) (Oper.wpIn_mono (fun a w h => hK a w h) h)
  · rw [if_neg hw] at h ⊢
    exact ⟨h.1, hK _ _ h.2⟩
theorem anyHI_chain : ∀ (ts : List Nat) (listed : Array Bool) (a : Act) (w : World), chainB l.toArray listed ts = true → (∀ i ∈ ts, ∃ o, l[i]? = some o) → wpSeqI n P l.toArray S Q (ts.filterMap (l[·]?)) a w → wpAnyHI n P .any l.toArray Q S ts.length listed a w
  | [], listed, a, w, hB, _, h => anyHI_done (by simpa [chainB] using hB) h _
  | t :: ts, listed, a, w, hB, hr, h => by
    obtain ⟨o, ho⟩ := hr t (by simp)
    simp only [chainB, Bool.and_eq_true, beq_iff_eq] at hB
    rw [List.filterMap_cons, ho] at h
    refine anyHI_one hB.1 ?_
    exact opIn_of_list ho (fun a' w' h' => ⟨h'.1, anyHI_chain ts _ a' w' hB.2 (fun j hj => hr j (by simp [hj])) h'.2⟩) h
theorem anyHI_takes (hs : Region.noSelect l.toArray = true) : ∀ (rs : List Nat) (fuel : Nat) (listed : Array Bool) (a : Act) (w : World), takesB l.toArray listed rs = true → (∀ i ∈ rs, ∃ o, l[i]? = some o ∧ yieldsOnly o = true) → S w →
    (∀ c (a : Act) d v w, Q (.panic c) (a.put d v) w → Q (.panic c) a w) →
    wpQuiet P l.toArray S (fun a' => wpAnyHI n P .any l.toArray Q S fuel (listAll listed rs) a' w) (rs.filterMap (l[·]?)) a → wpAnyHI n P .any l.toArray Q S (fuel + rs.length) listed a w
  | [], fuel, listed, a, w, _, _, _, _, h => by simpa [listAll, wpQuiet] using h
  | i :: rs, fuel, listed, a, w, hB, hr, hS, hQ, h => by
    obtain ⟨o, ho, hy⟩ := hr i (by simp)
    simp only [takesB, Bool.and_eq_true] at hB
    obtain ⟨⟨hf, hc⟩, hB⟩ := hB
    have ho' : l.toArray[i]? = some o := by simpa using ho
    rw [List.filterMap_cons, ho] at h
    simp only at h
    unfold wpQuiet at h
    have key : ∃ v, YieldsIf P l.toArray S o v a ∧ wpQuiet P l.toArray S (fun a' => wpAnyHI n P .any l.toArray Q S fuel (listAll listed (i :: rs)) a' w) (rs.filterMap (l[·]?)) (a.put o.dst v) := by
      by_cases hw : Region.wanted o (yielded l.toArray a.tmps) = true
      · rw [if_pos hw] at h
        obtain ⟨v, hv, hn⟩ := h
        refine ⟨v, .inl ⟨hw, fun w1 hw1 => ?_⟩, hn⟩
        have h1 := hv w1 hw1
        unfold Oper.quietAt at h1
        cases hx : (execOp a.eval o).run P w1 with
        | halt x w2 => rw [hx] at h1; exact h1.elim
        | ok r w2 =>
          obtain ⟨v2, rfl⟩ := yieldsOnly_spec hy _ hx
          rw [hx] at h1
          obtain ⟨rfl, rfl⟩ := h1
          rfl
      · rw [if_neg hw] at h
        exact ⟨undef, .inr ⟨by simpa using hw, rfl⟩, h⟩
    obtain ⟨v, hy', hn⟩ := key
    refine anyHI_take ho' hs hf hc (fun c a' w' h' => hQ c a' _ _ w' h') hy' hS ?_
    exact anyHI_takes hs rs fuel _ _ w hB (fun j hj => hr j (by simp [hj])) hS hQ hn
def seqIB (l : List Oper) (rs ts : List Nat) : Bool :=
  Region.noSelect l.toArray && takesB l.toArray (Array.replicate l.length false) rs && chainB l.toArray (listAll (Array.replicate l.length false) rs) ts && decide (rs.length + ts.length = l.length) &&
  rs.all (fun i => atB l i yieldsOnly) && ts.all (fun i => decide (i < l.length))
/-- **A REGION THAT DRAWS ITS ORDER, IN THE FENCE**: its reads (rs) first; the others (ts) in their one order. -/
theorem region_in {id : Nat} {a : Act} {w : World} (B : List Nat) (rs ts : List Nat) (hm : P.follows .mixedOrders = true) (hB : seqIB l rs ts = true) (hQ : ∀ c (a : Act) d v w, Q (.panic c) (a.put d v) w → Q (.panic c) a w)
    (h : wpQuiet P l.toArray (fun u => ∃ t : Kept w B, u = t.u) (fun a' => wpSeqI n P l.toArray (fun u => Turns w u B) Q (ts.filterMap (l[·]?)) a' w.drew) (rs.filterMap (l[·]?)) a) : (Code.region id l.toArray true).wpIn Fence.wide n P Q a w := by
  have e : (fun u => ∃ t : Kept w B, u = t.u) = fun u => Turns w u B := by
    funext u; apply propext
    exact ⟨fun ⟨t, e⟩ => by subst e; exact t.h, fun h => ⟨⟨u, h⟩, rfl⟩⟩
  rw [e] at h
  simp only [seqIB, Bool.and_eq_true, decide_eq_true_eq, List.all_eq_true] at hB
  obtain ⟨⟨⟨⟨⟨h1, h2⟩, h3⟩, h4⟩, h5⟩, h6⟩ := hB
  refine wpIn_region_any hm ?_
  have hsz : l.toArray.size = l.length := by simp
  rw [hsz]
  have := anyHI_takes (P := P) (n := n) (S := fun u => Turns w u B) (Q := Q) h1 rs ts.length (Array.replicate l.length false) a w.drew h2 (fun i hi => by
    obtain ⟨o, ho, hy⟩ := atB_spec (h5 i hi)
    exact ⟨o, ho, hy⟩) (Turns.refl w B).drew hQ (quiet_imp (fun a' h' => anyHI_chain ts _ a' w.drew h3 (fun i hi => ⟨_, List.getElem?_eq_getElem (by simpa using h6 i hi)⟩) h') _ _ h)
  rw [Nat.add_comm, h4] at this
  exact anyHI_sound _ _ _ _ this
/-! Reads and others by turns: (true, i): i may be taken now, whatever else may come up; (false, i): i is the one that may come up. -/
def mixB (ops : Array Oper) : Array Bool → List (Bool × Nat) → Bool
  | listed, [] => (Region.ready .any ops listed).isEmpty
  | listed, (true, i) :: s => Region.free .any ops listed i && (Region.ready .any ops listed).contains i && mixB ops (listed.setIfInBounds i true) s
  | listed, (false, i) :: s => (Region.ready .any ops listed) == [i] && mixB ops (listed.setIfInBounds i true) s
def wpMix (n : Nat) (P : Program) (l : List Oper) (S : World → Prop) (Q : Exit → Act → World → Prop) : List (Bool × Nat) → Act → World → Prop
  | [], a, w => Q .normal a w
  | (true, i) :: s, a, w => match l[i]? with | some o => wpQuiet P l.toArray S (fun a' => wpMix n P l S Q s a' w) [o] a | none => False
  | (false, i) :: s, a, w => match l[i]? with | some o => wpListIn Fence.wide n P l.toArray (outQ Q fun a' w' => S w' ∧ wpMix n P l S Q s a' w') [o] a w | none => False
theorem wpMix_take {i : Nat} {o : Oper} {s : List (Bool × Nat)} {a : Act} {w : World} (ho : l[i]? = some o) (h : wpQuiet P l.toArray S (fun a' => wpMix n P l S Q s a' w) [o] a) : wpMix n P l S Q ((true, i) :: s) a w := by
  unfold wpMix; rw [ho]; exact h
theorem wpMix_one {i : Nat} {o : Oper} {s : List (Bool × Nat)} {a : Act} {w : World} (ho : l[i]? = some o) (h : wpListIn Fence.wide n P l.toArray (outQ Q fun a' w' => S w' ∧ wpMix n P l S Q s a' w') [o] a w) : wpMix n P l S Q ((false, i) :: s) a w := by
  unfold wpMix; rw [ho]; exact h
theorem wpMix_nil {a : Act} {w : World} (h : Q .normal a w) : wpMix n P l S Q [] a w := h
theorem anyHI_mix (hs : Region.noSelect l.toArray = true) (hQ : ∀ c (a : Act) d v w, Q (.panic c) (a.put d v) w → Q (.panic c) a w) : ∀ (s : List (Bool × Nat)) (listed : Array Bool) (a : Act) (w : World), mixB l.toArray listed s = true → (∀ i, (true, i) ∈ s → atB l i yieldsOnly = true) → S w →
    wpMix n P l S Q s a w → wpAnyHI n P .any l.toArray Q S s.length listed a w
  | [], listed, a, w, hB, _, _, h => anyHI_done (by simpa [mixB] using hB) h _
  | (true, i) :: s, listed, a, w, hB, hy, hS, h => by
    obtain ⟨o, ho, hyo⟩ := atB_spec (hy i (by simp))
    simp only [mixB, Bool.and_eq_true] at hB
    obtain ⟨⟨hf, hc⟩, hB⟩ := hB
    have ho' : l.toArray[i]? = some o := by simpa using ho
    unfold wpMix at h
    rw [ho] at h
    simp only [wpQuiet] at h
    have key : ∃ v, YieldsIf P l.toArray S o v a ∧ wpMix n P l S Q s (a.put o.dst v) w := by
      by_cases hw : Region.wanted o (yielded l.toArray a.tmps) = true
      · rw [if_pos hw] at h
        obtain ⟨v, hv, hn⟩ := h
        refine ⟨v, .inl ⟨hw, fun w1 hw1 => ?_⟩, hn⟩
        have h1 := hv w1 hw1
        unfold Oper.quietAt at h1
        cases hx : (execOp a.eval o).run P w1 with
        | halt x w2 => rw [hx] at h1; exact h1.elim
        | ok r w2 =>
          obtain ⟨v2, rfl⟩ := yieldsOnly_spec hyo _ hx
          rw [hx] at h1
          obtain ⟨rfl, rfl⟩ := h1
          rfl
      · rw [if_neg hw] at h
        exact ⟨undef, .inr ⟨by simpa using hw, rfl⟩, h⟩
    obtain ⟨v, hy', hn⟩ := key
    refine anyHI_take ho' hs hf hc (fun c a' w' h' => hQ c a' _ _ w' h') hy' hS ?_
    exact anyHI_mix hs hQ s _ _ w hB (fun j hj => hy j (by simp [hj])) hS hn
  | (false, i) :: s, listed, a, w, hB, hy, hS, h => by
    simp only [mixB, Bool.and_eq_true, beq_iff_eq] at hB
    unfold wpMix at h
    cases ho : l[i]? with
    | none => rw [ho] at h; exact h.elim
    | some o =>
      rw [ho] at h
      refine anyHI_one hB.1 ?_
      exact opIn_of_list ho (fun a' w' h' => ⟨h'.1, anyHI_mix hs hQ s _ a' w' hB.2 (fun j hj => hy j (by simp [hj])) h'.1 h'.2⟩) h
def mixAllB (l : List Oper) (s : List (Bool × Nat)) : Bool :=
  Region.noSelect l.toArray && mixB l.toArray (Array.replicate l.length false) s && decide (s.length = l.length) && s.all (fun x => !x.1 || atB l x.2 yieldsOnly)
/-- **A REGION THAT DRAWS ITS ORDER, IN THE FENCE**: by the turns s; behind each other operation S is shown anew. -/
theorem region_mix {id : Nat} {a : Act} {w : World} (S : World → Prop) (s : List (Bool × Nat)) (hm : P.follows .mixedOrders = true) (hB : mixAllB l s = true) (hQ : ∀ c (a : Act) d v w, Q (.panic c) (a.put d v) w → Q (.panic c) a w) (hS : S w.drew)
    (h : wpMix n P l S Q s a w.drew) : (Code.region id l.toArray true).wpIn Fence.wide n P Q a w := by
  simp only [mixAllB, Bool.and_eq_true, decide_eq_true_eq, List.all_eq_true] at hB
  obtain ⟨⟨⟨h1, h2⟩, h3⟩, h4⟩ := hB
  refine wpIn_region_any hm ?_
  have hsz : l.toArray.size = l.length := by simp
  rw [hsz]
  have := anyHI_mix (P := P) (n := n) (S := S) (Q := Q) h1 hQ s (Array.replicate l.length false) a w.drew h2 (fun i hi => by simpa using h4 (true, i) hi) hS h
  rw [h3] at this
  exact anyHI_sound _ _ _ _ this
/-- Nothing is owed of a panic that cannot be. -/
theorem wpIn_noPanic {c : Code} {a : Act} {w : World} (h : c.wpIn Fence.wide n P (NoPanic Q) a w) : c.wpIn Fence.wide n P Q a w := wpIn_mono h NoPanic.imp
end
end Go.Proofs.YthjomnaejhehoaaGreatDoor

namespace Go.Proofs.YthjomnaejhehoaaGreatDoor
open Go.RowKit
set_option linter.unusedVariables false
set_option linter.unusedSimpArgs false

/-- take i: a read, whatever else may come up; one i: i is the one that may come up; two i j s t: i and j may come up: s behind i, t behind j. -/
inductive Tn where
  | nil
  | take (i : Nat) (t : Tn)
  | one (i : Nat) (t : Tn)
  | two (i j : Nat) (s t : Tn)
def Tn.len : Tn → Nat
  | .nil => 0
  | .take _ t => t.len + 1
  | .one _ t => t.len + 1
  | .two _ _ s _ => s.len + 1
def Tn.takes : List Nat → Tn → Tn
  | [], t => t
  | i :: l, t => .take i (Tn.takes l t)
def Tn.ones : List Nat → Tn → Tn
  | [], t => t
  | i :: l, t => .one i (Tn.ones l t)
def treeB (l : List Oper) : Array Bool → Tn → Bool
  | listed, .nil => (Region.ready .any l.toArray listed).isEmpty
  | listed, .take i t => atB l i yieldsOnly && Region.free .any l.toArray listed i && (Region.ready .any l.toArray listed).contains i && treeB l (listed.setIfInBounds i true) t
  | listed, .one i t => (Region.ready .any l.toArray listed) == [i] && treeB l (listed.setIfInBounds i true) t
  | listed, .two i j s t => (Region.ready .any l.toArray listed) == [i, j] && decide (s.len = t.len) && treeB l (listed.setIfInBounds i true) s && treeB l (listed.setIfInBounds j true) t
section
variable {P : Program} {n : Nat} {l : List Oper} {Q : Exit → Act → World → Prop} {S : World → Prop}
def wpTree (n : Nat) (P : Program) (l : List Oper) (S : World → Prop) (Q : Exit → Act → World → Prop) : Tn → Act → World → Prop
  | .nil, a, w => Q .normal a w
  | .take i t, a, w => match l[i]? with | some o => wpQuiet P l.toArray S (fun a' => wpTree n P l S Q t a' w) [o] a | none => False
  | .one i t, a, w => match l[i]? with | some o => wpListIn Fence.wide n P l.toArray (outQ Q fun a' w' => S w' ∧ wpTree n P l S Q t a' w') [o] a w | none => False
  | .two i j s t, a, w => (match l[i]? with | some o => wpListIn Fence.wide n P l.toArray (outQ Q fun a' w' => S w' ∧ wpTree n P l S Q s a' w') [o] a w | none => False) ∧
      (match l[j]? with | some o => wpListIn Fence.wide n P l.toArray (outQ Q fun a' w' => S w' ∧ wpTree n P l S Q t a' w') [o] a w | none => False)
theorem wpTree_take {i : Nat} {o : Oper} {s : Tn} {a : Act} {w : World} (ho : l[i]? = some o) (h : wpQuiet P l.toArray S (fun a' => wpTree n P l S Q s a' w) [o] a) : wpTree n P l S Q (.take i s) a w := by
  unfold wpTree; rw [ho]; exact h
theorem wpTree_one {i : Nat} {o : Oper} {s : Tn} {a : Act} {w : World} (ho : l[i]? = some o) (h : wpListIn Fence.wide n P l.toArray (outQ Q fun a' w' => S w' ∧ wpTree n P l S Q s a' w') [o] a w) : wpTree n P l S Q (.one i s) a w := by
  unfold wpTree; rw [ho]; exact h
theorem wpTree_two {i j : Nat} {o o' : Oper} {s t : Tn} {a : Act} {w : World} (ho : l[i]? = some o) (ho' : l[j]? = some o') (h : wpListIn Fence.wide n P l.toArray (outQ Q fun a' w' => S w' ∧ wpTree n P l S Q s a' w') [o] a w) (h' : wpListIn Fence.wide n P l.toArray (outQ Q fun a' w' => S w' ∧ wpTree n P l S Q t a' w') [o'] a w) : wpTree n P l S Q (.two i j s t) a w := by
  unfold wpTree; rw [ho, ho']; exact ⟨h, h'⟩
theorem wpTree_nil {a : Act} {w : World} (h : Q .normal a w) : wpTree n P l S Q .nil a w := h
theorem wpTree_skip {i : Nat} {o : Oper} {s : Tn} {a : Act} {w : World} (ho : l[i]? = some o) (hw : Region.wanted o (yielded l.toArray a.tmps) = false) (hS : S w) (h : wpTree n P l S Q s (a.put o.dst undef) w) : wpTree n P l S Q (.one i s) a w := by
  refine wpTree_one ho ?_
  simp only [wpListIn, hw]
  exact ⟨fun _ _ => trivial, outQ_normal hS h⟩
theorem anyHI_two {i j : Nat} {fuel : Nat} {listed : Array Bool} {a : Act} {w : World} {md : Region.Mode} {ops : Array Oper} (hr : Region.ready md ops listed = [i, j]) (h : wpOpIn Fence.wide n P ops Q i (fun a' w' => S w' ∧ wpAnyHI n P md ops Q S fuel (listed.setIfInBounds i true) a' w') a w) (h' : wpOpIn Fence.wide n P ops Q j (fun a' w' => S w' ∧ wpAnyHI n P md ops Q S fuel (listed.setIfInBounds j true) a' w') a w) : wpAnyHI n P md ops Q S (fuel + 1) listed a w :=
  ⟨fun h0 => (by rw [hr] at h0; cases h0), fun k hk => by
    rw [hr] at hk
    rcases List.mem_cons.1 hk with rfl | hk
    · exact h
    · rw [List.mem_singleton.1 hk]; exact h'⟩
theorem anyHI_tree (hs : Region.noSelect l.toArray = true) (hQ : ∀ c (a : Act) d v w, Q (.panic c) (a.put d v) w → Q (.panic c) a w) : ∀ (s : Tn) (listed : Array Bool) (a : Act) (w : World), treeB l listed s = true → S w →
    wpTree n P l S Q s a w → wpAnyHI n P .any l.toArray Q S s.len listed a w
  | .nil, listed, a, w, hB, _, h => anyHI_done (by simpa [treeB] using hB) h _
  | .take i s, listed, a, w, hB, hS, h => by
    simp only [treeB, Bool.and_eq_true] at hB
    obtain ⟨⟨⟨hyo, hf⟩, hc⟩, hB⟩ := hB
    obtain ⟨o, ho, hyo⟩ := atB_spec hyo
    have ho' : l.toArray[i]? = some o := by simpa using ho
    unfold wpTree at h
    rw [ho] at h
    simp only [wpQuiet] at h
    have key : ∃ v, YieldsIf P l.toArray S o v a ∧ wpTree n P l S Q s (a.put o.dst v) w := by
      by_cases hw : Region.wanted o (yielded l.toArray a.tmps) = true
      · rw [if_pos hw] at h
        obtain ⟨v, hv, hn⟩ := h
        refine ⟨v, .inl ⟨hw, fun w1 hw1 => ?_⟩, hn⟩
        have h1 := hv w1 hw1
        unfold Oper.quietAt at h1
        cases hx : (execOp a.eval o).run P w1 with
        | halt x w2 => rw [hx] at h1; exact h1.elim
        | ok r w2 =>
          obtain ⟨v2, rfl⟩ := yieldsOnly_spec hyo _ hx
          rw [hx] at h1
          obtain ⟨rfl, rfl⟩ := h1
          rfl
      · rw [if_neg hw] at h
        exact ⟨undef, .inr ⟨by simpa using hw, rfl⟩, h⟩
    obtain ⟨v, hy', hn⟩ := key
    refine anyHI_take ho' hs hf hc (fun c a' w' h' => hQ c a' _ _ w' h') hy' hS ?_
    exact anyHI_tree hs hQ s _ _ w hB hS hn
  | .one i s, listed, a, w, hB, hS, h => by
    simp only [treeB, Bool.and_eq_true, beq_iff_eq] at hB
    unfold wpTree at h
    cases ho : l[i]? with
    | none => rw [ho] at h; exact h.elim
    | some o =>
      rw [ho] at h
      refine anyHI_one hB.1 ?_
      exact opIn_of_list ho (fun a' w' h' => ⟨h'.1, anyHI_tree hs hQ s _ a' w' hB.2 h'.1 h'.2⟩) h
  | .two i j s t, listed, a, w, hB, hS, h => by
    simp only [treeB, Bool.and_eq_true, beq_iff_eq, decide_eq_true_eq] at hB
    obtain ⟨⟨⟨hr, hl⟩, hBi⟩, hBj⟩ := hB
    unfold wpTree at h
    obtain ⟨hi, hj⟩ := h
    cases ho : l[i]? with
    | none => rw [ho] at hi; exact hi.elim
    | some o =>
      cases ho' : l[j]? with
      | none => rw [ho'] at hj; exact hj.elim
      | some o' =>
        rw [ho] at hi
        rw [ho'] at hj
        refine anyHI_two (fuel := s.len) hr ?_ ?_
        · exact opIn_of_list ho (fun a' w' h' => ⟨h'.1, anyHI_tree hs hQ s _ a' w' hBi h'.1 h'.2⟩) hi
        · exact opIn_of_list ho' (fun a' w' h' => ⟨h'.1, by rw [hl]; exact anyHI_tree hs hQ t _ a' w' hBj h'.1 h'.2⟩) hj
theorem oper_wpIn_of_wp {o : Oper} {K : Act → World → Prop} {a : Act} {w : World} (h : o.wp P a w K Q) : o.wpIn Fence.wide n P a w K Q := by
  unfold Oper.wp at h
  unfold Oper.wpIn
  refine ⟨fun _ _ => trivial, ?_⟩
  rw [sem_wide]
  generalize (execOp a.eval o).run P w = r at *
  cases r with
  | ok x w' =>
    cases x <;> simp only [Oper.upon, Oper.uponIn] at h ⊢ <;>
      first
        | exact h
        | exact ⟨fun h => by simp [Fence.wide] at h, callsIn_wide.2 h⟩
        | exact ⟨fun h => by simp [Fence.wide] at h, fun c cs _ => let ⟨v, w', r, s⟩ := h c cs; ⟨v, w', r, stepsIn_wide.2 s⟩⟩
  | halt x w' => cases x <;> simp only [Oper.upon, Oper.uponIn] at h ⊢ <;> exact h
/-- A law of the plain walk, in the fence. -/
theorem wpListIn_law {ops : Array Oper} {o : Oper} {rest : List Oper} {a : Act} {w : World} (hg : o.guard = none) (h : ∀ K : Act → World → Prop, (∀ a w, wpListIn Fence.wide n P ops Q rest a w → K a w) → o.wp P a w K Q) : wpListIn Fence.wide n P ops Q (o :: rest) a w :=
  wpListIn_plain hg fun K hK => oper_wpIn_of_wp (h K hK)
def treeAllB (l : List Oper) (s : Tn) : Bool :=
  Region.noSelect l.toArray && treeB l (Array.replicate l.length false) s && decide (s.len = l.length)
/-- **A REGION THAT DRAWS ITS ORDER, BY A TREE**; behind each operation that is no read S is shown anew. -/
theorem region_tree {id : Nat} {a : Act} {w : World} (S : World → Prop) (s : Tn) (hm : P.follows .mixedOrders = true) (hB : treeAllB l s = true) (hQ : ∀ c (a : Act) d v w, Q (.panic c) (a.put d v) w → Q (.panic c) a w) (hS : S w.drew)
    (h : wpTree n P l S Q s a w.drew) : (Code.region id l.toArray true).wpIn Fence.wide n P Q a w := by
  simp only [treeAllB, Bool.and_eq_true, decide_eq_true_eq] at hB
  obtain ⟨⟨h1, h2⟩, h3⟩ := hB
  refine wpIn_region_any hm ?_
  have hsz : l.toArray.size = l.length := by simp
  rw [hsz]
  have := anyHI_tree (P := P) (n := n) (S := S) (Q := Q) h1 hQ s (Array.replicate l.length false) a w.drew h2 hS h
  rw [h3] at this
  exact anyHI_sound _ _ _ _ this
/-- The like at a plain walk. -/
theorem region_treeW {id : Nat} {a : Act} {w : World} (S : World → Prop) (s : Tn) (hm : P.follows .mixedOrders = true) (hB : treeAllB l s = true) (hQ : ∀ c (a : Act) d v w, Q (.panic c) (a.put d v) w → Q (.panic c) a w) (hS : S w.drew)
    (h : wpTree 9 P l S Q s a w.drew) : (Code.region id l.toArray true).wp P Q a w := wpIn_wide.1 (region_tree S s hm hB hQ hS h)
end
end Go.Proofs.YthjomnaejhehoaaGreatDoor

namespace Go.Proofs.YthjomnaejhehoaaGreatDoor
open Go.RowKit Go.MapKept Go.ChangeMaps
attribute [local go_sem] Oper.semAt_some
attribute [local simp, local go_sem] wide_fn
set_option linter.unusedVariables false
set_option linter.unusedSimpArgs false

theorem OpSt.found' {S : Fl} {n m : Nat} {bad : Nat → Bool} {G : Nat → Option (Nat × Vals)} {l : List Nat} {a q : Nat} {V : Vals} {a' : Int} {q' : Nat} {V' : Vals} (h : OpSt G l m a' q' V') (hs : Sl S n bad l a q V G) (hm : l.length = m) : a' = a ∧ q' = q ∧ V' = V := by
  subst hm
  exact h.found hs
/-- What may be, as a cut call has left it. -/
def MayIs (w0 w : World) (A : Ad) (x : X9) : Prop := x.op = true → ∃ (Mb : Nat) (V2 : Vals), x.um = .map (some Mb) ∧ HasIs w Mb V2 ∧ OkV V2 ∧ FitV 192 V2 ∧ Mb ≠ A.Q ∧ w0.heap.size ≤ Mb
/-- What back leaves. -/
def BackPost (w0 : World) (A : Ad) (x : X9) (e : Ending) (w' : World) : Prop :=
  e = .returned (.bool true) ∧ ∃ A' x', W9 w0 w' A' x' ∧ x'.U = x'.V ∧ x'.V = x.V ∧ x'.q = x.q ∧ x'.op = false ∧ x'.fail = x.fail ∧ x'.S.off = false ∧ x'.S.nb = x.S.nb ∧ A'.vs = A.vs ∧ A'.W = A.W ∧ A'.F = A.F ∧ A'.M = A.M ∧ A'.A = A.A ∧ (A'.cl, A'.X) = (A.cl, A.X)
set_option maxRecDepth 100000 in
set_option maxHeartbeats 8000000 in
theorem back_any {w0 w : World} {A : Ad} {x : X9} (h : W9 w0 w A x) (hU : x.U = x.V) (hMay : MayIs w0 w A x) :
    Calls Tryz.prog 13 #[.pointer (some ⟨A.W, 0, none⟩)] w (BackPost w0 A x) := by
  obtain ⟨c0, c1, c2, c3, c4, c5, c6, c7⟩ := h.cells
  have HOn := Lib.hid h.on
  have HH := Lib.hid h
  have HU := Lib.hid hU
  have HMay := Lib.hid hMay
  clear h hU hMay
  obtain ⟨xS, bad, md, xa, xq, xV, xG, xU, um, op, fl⟩ := x
  obtain ⟨W, St, Bk, Vb, M, Q, F, L, H, P, Al, cl, c, vs, xb⟩ := A
  dsimp only at *
  obtain ⟨m, hm⟩ : ∃ m, m = vs.length := ⟨_, rfl⟩
  have HM := Lib.hid hm
  rw [← hm] at c3
  clear hm
  go_enter Tryz.func13, Tryz.ntmps13
  go_wp2_with fail
  refine HOn.out.mono ?_
  rintro e w1 ⟨rfl, h1, ht1⟩
  have HAr := Lib.hid (h1.arm 1099511627776 (by omega))
  obtain ⟨d0, -, -, -, -, -, -, -⟩ := h1.cells
  clear HOn h1 c0 c1 c2 c3 c4 c5 c6 c7
  dsimp only at HAr d0
  go_wp2_with fail
  refine HAr.out.mono ?_
  rintro e w2 ⟨rfl, h2, ht2⟩
  have H2 := Lib.hid h2
  have HT2 : Hid (Turns w w2 [F]) := ht1.trans ht2 (fun g hg => .inl hg)
  obtain ⟨-, d1, -, d3, -, -, -, -⟩ := h2.cells
  dsimp only at d1 d3
  rw [← HM.out] at d3
  have HWn : Hid (W ∉ [M, F]) := fun hm => by
    rcases List.mem_cons.1 hm with e | hm
    · exact Row.ne_type h2.row h2.med.row (by decide) e
    · obtain ⟨_, hr⟩ := h2.med.fl.rowF
      exact Row.ne_type h2.row hr (by decide) (List.mem_singleton.1 hm)
  have HOp : Hid (∀ W', Below w2.heap.size w2 W' → Calls Tryz.prog 26 #[.pointer (some ⟨M, 0, none⟩), .slice Al m cl] W' (OpenPost W' w0.heap.size M Q F L P _ 192 bad (natsI vs) m xG)) := fun W' hb => by
    have h3 := h2.below hb
    have := Open_any h3.med Al cl vs h3.few h3.ls h3.ok rfl xG h3.sl.new
    rw [← HM.out] at this
    exact this
  have k1 : ∀ t : Kept w2 [M, F], t.u.cell? ⟨W, 1, none⟩ = some (.pointer (some ⟨M, 0, none⟩)) := fun t => t.h.cell d1 HWn.out
  have k3 : ∀ t : Kept w2 [M, F], t.u.cell? ⟨W, 3, none⟩ = some (.slice Al m cl) := fun t => t.h.cell d3 HWn.out
  clear HAr h2 ht1 ht2 d0 d1 d3
  go_wp2
  refine wp_region_noPanic ?_
  refine region_treeW (fun u => ∃ t : Kept w2 [M, F], u = t.u) (Tn.takes [0, 1, 2, 3, 4, 5, 6, 7] (.one 8 (Tn.takes [9, 10, 11, 12, 13] .nil))) (by kernel_rfl) (by kernel_rfl) (fun _ _ _ _ _ h => h) ⟨⟨_, Turns.of_below (Below.refl _ _).drew _⟩, rfl⟩ ?_
  simp only [Tn.takes]
  (repeat ((with_reducible refine wpTree_take (by with_unfolding_all exact rfl) ?_); (with_reducible (show wpQuiet _ _ _ _ (_ :: _) _)); go_big_quiet_step (fail); (with_reducible refine wpQuiet_nil ?_)))
  (with_reducible refine wpTree_one (by with_unfolding_all exact rfl) ?_)
  gi_wp2_with fail
  refine ((callsIn_wide (n := 8)).2 (HOp.out w2.drew (Below.refl _ _).drew)).mono ?_
  rintro e w3 ⟨St', Bk', Vb', c', a', q', V', md', hm3, hst3, hv3, hS3, hop3, ht3, he1, he2⟩
  obtain ⟨rfl, rfl, rfl⟩ := hop3.found' H2.out.sl (by rw [natsI_length]; exact HM.out.symm)
  obtain rfl := he1 (by omega)
  have HT3 : Hid (Turns w2 w3 [M, F]) := ⟨ht3.os, ht3.tape, ht3.output, ht3.size, ht3.block⟩
  have HW3 : Hid (W9 w0 w3 ⟨W, St, Bk, Vb, M, Q, F, L, H, P, Al, cl, c, vs, xb⟩ ⟨{ xS with off := false, armed := (max (1099511627776 : Int) 1).toNat }, bad, md', xa, q', V', xG, xU, um, op, fl⟩) :=
    H2.out.turn HT3.out (fun g hg => .inr (mf_med hg)) hm3 (H2.out.st.behind H2.out.med H2.out.hVQ HT3.out (fun g hg => mf_med hg)) H2.out.hVQ H2.out.sl rfl (fun _ => rfl) (fun _ _ => rfl)
  have HSt3 := Lib.hid (And.intro hst3 hv3)
  have HMay3 : Hid (op = true → ∃ (Mb : Nat) (V2 : Vals), um = .map (some Mb) ∧ HasIs w3 Mb V2 ∧ OkV V2 ∧ FitV 192 V2 ∧ Mb ≠ Q ∧ w0.heap.size ≤ Mb) := fun ho => by
    obtain ⟨Mb, V2, e1, e2, e3, e4, e5, e6⟩ := HMay.out ho
    have h1 : HasIs w2 Mb V2 := HH.out.aside_has HT2.out (fun g hg => .inr (by rw [List.mem_singleton.1 hg]; exact mem_medT.2 (.inr (.inr (.inl rfl))))) e2 e5
    exact ⟨Mb, V2, e1, H2.out.aside_has HT3.out (fun g hg => .inr (mf_med hg)) h1 e5, e3, e4, e5, e6⟩
  clear HOp k1 k3 hm3 hst3 hv3 hS3 hop3 ht3 he1 he2
  gi_wp2_with fail
  (with_reducible refine outQ_normal ?_ ?_); exact ⟨⟨w3, HT3.out⟩, rfl⟩
  (repeat ((with_reducible refine wpTree_take (by with_unfolding_all exact rfl) ?_); (with_reducible (show wpQuiet _ _ _ _ (_ :: _) _)); go_big_quiet_step (fail); (with_reducible refine wpQuiet_nil ?_)))
  with_reducible refine wpTree_nil ?_
  refine NoPanic.normal ?_
  obtain ⟨S3, hS3⟩ : ∃ S3, S3 = { xS with off := false, armed := (max (1099511627776 : Int) 1).toNat } := ⟨_, rfl⟩
  have HS3 : Hid (S3.off = false ∧ S3.nb = xS.nb) := by rw [hS3]; exact ⟨rfl, rfl⟩
  rw [← hS3] at HW3
  clear hS3
  have HW4 : Hid (W9 w0 (w3.setCell ⟨W, 2, none⟩ (.pointer (some ⟨St', 0, none⟩))) ⟨W, St', Bk', Vb', M, Q, F, L, H, P, Al, cl, c', vs, xb⟩ ⟨S3, bad, md', xa, q', V', xG, xU, um, op, fl⟩) :=
    HW3.out.store (A' := ⟨W, St', Bk', Vb', M, Q, F, L, H, P, Al, cl, c', vs, xb⟩) (x' := ⟨S3, bad, md', xa, q', V', xG, xU, um, op, fl⟩) rfl rfl (by have := HW3.out.row.put 2 (.pointer (some ⟨St', 0, none⟩)); unfold w9cells at this ⊢; simpa using this) ((Turns.refl _ _).setCell (by simp) _) HSt3.out.1 HSt3.out.2 HW3.out.sl HW3.out.has HW3.out.hH HW3.out.okU rfl
  have HMay4 : Hid (op = true → ∃ (Mb : Nat) (V2 : Vals), um = .map (some Mb) ∧ HasIs (w3.setCell ⟨W, 2, none⟩ (.pointer (some ⟨St', 0, none⟩))) Mb V2 ∧ OkV V2 ∧ FitV 192 V2 ∧ Mb ≠ Q ∧ w0.heap.size ≤ Mb) := fun ho => by
    obtain ⟨Mb, V2, e1, e2, e3⟩ := HMay3.out ho
    refine ⟨Mb, V2, e1, e2.turns ((Turns.refl _ [W]).setCell (by simp) _) (fun hm => ?_), e3⟩
    rw [List.mem_singleton.1 hm] at e2
    exact e2.not_row _ _ HW3.out.row
  have f2 : w3.frozen? ⟨W, 2, none⟩ = false := HW3.out.row.frozen 2
  have p2 : w3.cell? ⟨W, 2, none⟩ = some (.pointer (some ⟨St, 0, none⟩)) := HW3.out.cells.2.2.1
  have HV : Hid (OkV V' ∧ FitV 192 V') := ⟨HW3.out.sl.okV.1, HW3.out.sl.okV.2.1⟩
  have HLen : Hid (∀ k y, V' k = some y → y.length ≤ 100000) := fun k y hy => by have := fit_len HV.out.2 k y hy HV.out.1; omega
  obtain ⟨w4, hw4⟩ : ∃ w4, w4 = w3.setCell ⟨W, 2, none⟩ (.pointer (some ⟨St', 0, none⟩)) := ⟨_, rfl⟩
  have HE4 := Lib.hid hw4
  rw [← hw4] at HW4 HMay4
  obtain ⟨-, -, -, -, p4, p5, p6, -⟩ := HW4.out.cells
  dsimp only at p4 p5 p6
  have f4 : w4.frozen? ⟨W, 4, none⟩ = false := HW4.out.row.frozen 4
  have HSame := Lib.hid (same_any HW4.out.st HV.out.1 HLen.out H xU HW4.out.has HW4.out.okU.1)
  clear HW3 HSt3 HMay3 H2 HT2 HT3 HWn hw4
  cases op with
  | true =>
    obtain ⟨Mb, V2, rfl, e2, e3, e4, e5, e6⟩ := HMay4.out rfl
    have HMb := Lib.hid (And.intro e2 (And.intro e3 (And.intro e4 (And.intro e5 e6))))
    have HSameM := Lib.hid (same_any HW4.out.st HV.out.1 HLen.out Mb V2 e2 e3)
    clear e2 e3 e4 e5 e6
    rw [HE4.out] at p4 p5 p6 f4
    go_wp2_with fail
    rw [← HE4.out]
    rw [← HE4.out] at p4 p5 p6 f4
    refine HSameM.out.mono ?_
    rintro e w5 ⟨⟨b, rfl, hb⟩, hb5⟩
    have HB := Lib.hid hb
    have HB5 := Lib.hid hb5
    have HW5 := Lib.hid (HW4.out.below hb5)
    have HMb5 := Lib.hid (HMb.out.1.below hb5)
    obtain ⟨-, -, -, -, r4, r5, r6, -⟩ := HW5.out.cells
    dsimp only at r4 r5 r6
    have g4 : w5.frozen? ⟨W, 4, none⟩ = false := HW5.out.row.frozen 4
    have g6 : w5.frozen? ⟨W, 6, none⟩ = false := HW5.out.row.frozen 6
    clear HSameM hb hb5 p4 p5 p6 f4
    cases b with
    | true =>
      obtain rfl := HB.out.1 rfl
      have HW6 : Hid (W9 w0 ((w5.setCell ⟨W, 4, none⟩ (.map (some Mb))).setCell ⟨W, 6, none⟩ (.bool false)) ⟨W, St', Bk', Vb', M, Q, F, L, Mb, P, Al, cl, c', vs, xb⟩ ⟨S3, bad, md', xa, q', V', xG, V', .map (some Mb), false, fl⟩) :=
        HW5.out.store (A' := ⟨W, St', Bk', Vb', M, Q, F, L, Mb, P, Al, cl, c', vs, xb⟩) (x' := ⟨S3, bad, md', xa, q', V', xG, V', .map (some Mb), false, fl⟩) rfl rfl (by have := (HW5.out.row.put 4 (.map (some Mb))).put 6 (.bool false); unfold w9cells at this ⊢; simpa using this) (((Turns.refl _ _).setCell (by simp) _).setCell (by simp) _) HW5.out.st HW5.out.hVQ HW5.out.sl HMb5.out HMb.out.2.2.2 HV.out rfl
      go_wp2
      go_ret
      exact ⟨rfl, _, _, HW6.out, rfl, rfl, rfl, rfl, rfl, HS3.out.1, HS3.out.2, rfl, rfl, rfl, rfl, rfl, rfl⟩
    | false =>
      have HSame5 := Lib.hid (same_any HW5.out.st HV.out.1 HLen.out H xU HW5.out.has HW5.out.okU.1)
      clear HSame
      go_wp2_with fail
      refine HSame5.out.mono ?_
      rintro e w6 ⟨⟨b, rfl, hb⟩, hb6⟩
      obtain rfl := hb.2 HU.out.symm
      have HW6 := Lib.hid (HW5.out.below hb6)
      have g6 : w6.frozen? ⟨W, 6, none⟩ = false := HW6.out.row.frozen 6
      obtain ⟨-, -, -, -, -, -, r6, -⟩ := HW6.out.cells
      dsimp only at r6
      have HW7 : Hid (W9 w0 (w6.setCell ⟨W, 6, none⟩ (.bool false)) ⟨W, St', Bk', Vb', M, Q, F, L, H, P, Al, cl, c', vs, xb⟩ ⟨S3, bad, md', xa, q', V', xG, xU, _, false, fl⟩) :=
        HW6.out.store (A' := ⟨W, St', Bk', Vb', M, Q, F, L, H, P, Al, cl, c', vs, xb⟩) (x' := ⟨S3, bad, md', xa, q', V', xG, xU, _, false, fl⟩) rfl rfl (by have := HW6.out.row.put 6 (.bool false); unfold w9cells at this ⊢; simpa using this) ((Turns.refl _ _).setCell (by simp) _) HW6.out.st HW6.out.hVQ HW6.out.sl HW6.out.has HW6.out.hH HW6.out.okU rfl
      clear hb hb6
      go_wp2
      go_ret
      exact ⟨rfl, _, _, HW7.out, HU.out, rfl, rfl, rfl, rfl, HS3.out.1, HS3.out.2, rfl, rfl, rfl, rfl, rfl, rfl⟩
  | false =>
    rw [HE4.out] at p4 p5 p6 f4
    go_wp2_with fail
    rw [← HE4.out]
    rw [← HE4.out] at p4 p5 p6 f4
    refine HSame.out.mono ?_
    rintro e w6 ⟨⟨b, rfl, hb⟩, hb6⟩
    obtain rfl := hb.2 HU.out.symm
    have HW6 := Lib.hid (HW4.out.below hb6)
    clear p4 p5 p6 f4
    have g6 : w6.frozen? ⟨W, 6, none⟩ = false := HW6.out.row.frozen 6
    obtain ⟨-, -, -, -, -, -, r6, -⟩ := HW6.out.cells
    dsimp only at r6
    have HW7 : Hid (W9 w0 (w6.setCell ⟨W, 6, none⟩ (.bool false)) ⟨W, St', Bk', Vb', M, Q, F, L, H, P, Al, cl, c', vs, xb⟩ ⟨S3, bad, md', xa, q', V', xG, xU, _, false, fl⟩) :=
      HW6.out.store (A' := ⟨W, St', Bk', Vb', M, Q, F, L, H, P, Al, cl, c', vs, xb⟩) (x' := ⟨S3, bad, md', xa, q', V', xG, xU, _, false, fl⟩) rfl rfl (by have := HW6.out.row.put 6 (.bool false); unfold w9cells at this ⊢; simpa using this) ((Turns.refl _ _).setCell (by simp) _) HW6.out.st HW6.out.hVQ HW6.out.sl HW6.out.has HW6.out.hH HW6.out.okU rfl
    clear hb hb6
    go_wp2
    go_ret
    exact ⟨rfl, _, _, HW7.out, HU.out, rfl, rfl, rfl, rfl, HS3.out.1, HS3.out.2, rfl, rfl, rfl, rfl, rfl, rfl⟩
end Go.Proofs.YthjomnaejhehoaaGreatDoor

namespace Go.Proofs.YthjomnaejhehoaaGreatDoor
open Go.RowKit Go.MapKept Go.ChangeMaps
set_option linter.unusedVariables false
set_option linter.unusedSimpArgs false

/-- Those of some keys alone. -/
def selV (U : Vals) (ts : List Nat) : Vals := fun k => if k ∈ ts then U k else none
theorem selV_nil (U : Vals) : selV U [] = fun _ => none := by funext k; simp [selV]
theorem selV_upd {U : Vals} {ts : List Nat} {k : Nat} {l : List Nat} (h : U k = some l) : updV (selV U ts) k l = selV U (k :: ts) := by
  funext i
  unfold updV selV
  by_cases e : i = k
  · subst e; simp [h]
  · simp [e]
theorem selV_all {U : Vals} (hU : OkV U) {ts : List Nat} (h : ∀ k ∈ keysOf U, k ∈ ts) : selV U ts = U := by
  funext k
  unfold selV
  by_cases hk : k ∈ ts
  · rw [if_pos hk]
  · rw [if_neg hk, vals_none hU (fun h1 => hk (h k h1))]
theorem filter_split (p : Nat → Bool) : ∀ l : List Nat, (l.filter p).length + (l.filter fun k => !p k).length = l.length
  | [] => rfl
  | k :: l => by
    have := filter_split p l
    cases h : p k <;> simp [h] <;> omega
theorem filter_mono {p q : Nat → Bool} (h : ∀ k, p k = true → q k = true) : ∀ l : List Nat, (l.filter p).length ≤ (l.filter q).length
  | [] => Nat.le_refl _
  | k :: l => by
    have := filter_mono h l
    cases hp : p k <;> cases hq : q k
    · simpa [hp, hq] using this
    · simp [hp, hq]; omega
    · rw [h k hp] at hq; cases hq
    · simpa [hp, hq] using this
theorem W9.good2 {w0 w : World} {A : Ad} {x : X9} (h : W9 w0 w A x) : 2 ≤ (good x.bad (natsI A.vs)).length := by
  have h1 := filter_split (fun k => (x.S.b k).failed) (natsI A.vs)
  have h2 := filter_mono (p := fun k => !(x.S.b k).failed) (q := fun k => !x.bad k) (fun k hk => by
    cases hb : x.bad k with
    | false => rfl
    | true =>
      have := h.sl.bad k hb
      simp [this] at hk) (natsI A.vs)
  have h3 := h.nf
  unfold nfail at h3
  rw [natsI_length] at h1
  unfold good
  omega
theorem W9.vm {w0 w : World} {A : Ad} {x : X9} (h : W9 w0 w A x) : ∀ k y, x.V k = some y → y.length ≤ 192 := fun k y hy => fit_len h.sl.okV.2.1 k y hy h.sl.okV.1
theorem W9.same {w0 w : World} {A : Ad} {x : X9} (h : W9 w0 w A x) (hU : x.U = x.V) : Calls Tryz.prog 15 #[.pointer (some ⟨A.St, 0, none⟩), .map (some A.H)] w fun e w' => e = .returned (.bool true) ∧ Below w.heap.size w w' :=
  (same_any h.st h.sl.okV.1 (fun k y hy => by have := h.vm k y hy; omega) A.H x.U h.has h.okU.1).mono fun e w' ⟨⟨b, he, hb⟩, h2⟩ => ⟨by rw [he, hb.2 hU.symm], h2⟩
theorem W9.putall {w0 w : World} {A : Ad} {x : X9} (h : W9 w0 w A x) (hoff : x.S.off = false) (hq : x.q + 1 < 9223372036854775808)
    (Ak : Option Addr) (ck : Nat) (ks : List Int) (hks : CellsI w Ak ks) (hk20 : ks.length ≤ 100000) (Av : Option Addr) (cv : Nat) (vss : List (List Nat)) (hvs : SvIs w Av vss) (hv20 : vss.length ≤ 100000) (h256 : ∀ x ∈ vss, (∀ u ∈ x, u < 256) ∧ x.length ≤ 1048576) :
    Calls Tryz.prog 31 #[.pointer (some ⟨A.St, 0, none⟩), .slice Ak ks.length ck, .slice Av vss.length cv] w (PAPost w w0.heap.size A.M A.Q A.F A.L A.P x.S 192 A.St A.Bk A.Vb (natsI A.vs) A.c x.a x.q x.V ks vss) :=
  PutAll_any h.med h.st h.hVQ Ak ck ks hks hk20 Av cv vss hvs hv20 h256 h.sl.okV.1 (fun k y hy => by have := h.vm k y hy; omega) hoff h.sl.bad h.sl.lt h.good2 hq
theorem W9.put1 {w0 w : World} {A : Ad} {x : X9} (h : W9 w0 w A x) (hoff : x.S.off = false) (hq : x.q + 1 < 9223372036854775808)
    (k : Int) (Ay : Option Addr) (cy : Nat) (y : List Nat) (hy : Cells8 w Ay y) (h256 : (∀ u ∈ y, u < 256) ∧ y.length ≤ 1048576) :
    Calls Tryz.prog 14 #[.pointer (some ⟨A.St, 0, none⟩), .int .i64 k, .slice Ay y.length cy] w (PAPost w w0.heap.size A.M A.Q A.F A.L A.P x.S 192 A.St A.Bk A.Vb (natsI A.vs) A.c x.a x.q x.V [k] [y]) :=
  Put_any h.med h.st h.hVQ k Ay cy y hy h256 h.sl.okV.1 (fun k y hy => by have := h.vm k y hy; omega) hoff h.sl.bad h.sl.lt h.good2 hq
/-- What a put of the law leaves. -/
def PutL (w0 : World) (A : Ad) (x : X9) (e : Ending) (w' : World) : Prop :=
  e = .returned (.bool true) ∧ ∃ A' x', W9 w0 w' A' x' ∧ x'.U = x'.V ∧ x'.q ≤ x.q + 1 ∧ x'.op = false ∧ x'.fail = x.fail ∧ x'.S.off = false ∧ x'.S.nb = x.S.nb ∧ A'.vs = A.vs ∧ A'.W = A.W ∧ A'.F = A.F ∧ A'.M = A.M ∧ A'.A = A.A ∧ (A'.cl, A'.X) = (A.cl, A.X) ∧ (x.S.armed = 0 → A'.St = A.St ∧ x'.S.armed = 0)
/-- The newest block is turned, and holds what it held. -/
theorem Sl.held {S S' : Fl} {n : Nat} {bad bad' : Nat → Bool} {l : List Nat} {a q : Nat} {V : Vals} {G : Nat → Option (Nat × Vals)} (h : Sl S n bad l a q V G) (hb : ∀ i, i ≠ a → S'.b i = S.b i) (hc : S'.chunks = S.chunks) (hn : S'.nb = S.nb) (hbad : ∀ i, bad' i = true → (S'.b i).failed = true) (hnew : S'.newest n a = S.newest n a) (hhf : (S'.b a).half = (S.b a).half) : Sl S' n bad' l a q V G :=
  ⟨h.mem, by rw [hn]; exact h.lt, fun i hi => by
    by_cases ei : i = a
    · subst ei; exact (h.new i hi).congr hnew
    · exact (h.new i hi).congr (newest_congr (hb i ei) hc), h.at', h.less, hbad, by rw [hhf]; exact h.half⟩
section
variable {w0 w w' : World} {A : Ad} {x : X9}
theorem st_med {A : Ad} {nb : Nat} {g : Nat} (hg : g ∈ A.St :: medT A.M A.Q A.F A.L A.P nb) : g = A.St ∨ g ∈ medT A.M A.Q A.F A.L A.P nb := List.mem_cons.1 hg
theorem W9.putok (h : W9 w0 w A x) (ht : Turns w w' (A.St :: medT A.M A.Q A.F A.L A.P x.S.nb)) {k : Nat} {S' : Fl} {md' : Int} {bad' : Nat → Bool} {Nb : Nat} {V' : Vals} (hkl : k ∈ natsI A.vs) (hm : MedIs w' w0.heap.size A.M A.Q A.F A.L A.P S' 192 bad' md') (hst : StIs w' w0.heap.size A.St A.Bk Nb A.M (natsI A.vs) A.c (k : Nat) (x.q + 1) V') (hNq : Nb ≠ A.Q)
    (hkp : Keeps x.S S' k) (hbad : ∀ i, bad' i = true → (x.S.b i).failed = true) (hnew : S'.newest 192 k = some (pageB 192 (x.q + 1) V')) (hV : OkV V') (hF : FitV 192 V') (hq : x.q + 1 < 9223372036854775808) :
    ∃ G', W9 w0 w' { A with Vb := Nb } { x with S := S', bad := bad', md := md', a := k, q := x.q + 1, V := V', G := G' } := by
  obtain ⟨G', hsl⟩ := h.sl.newer hkl hkp.b hkp.chunks hkp.nb (fun i hi => by rw [hkp.failed]; exact hbad i hi) hnew hV hF hq
  exact ⟨G', h.turn ht (fun g hg => st_med hg) hm hst hNq hsl hkp.nb hkp.failed (fun i hi => hkp.b i (fun e => hi (by rw [e]; exact hkl)))⟩
theorem W9.putcut (h : W9 w0 w A x) (ht : Turns w w' (A.St :: medT A.M A.Q A.F A.L A.P x.S.nb)) {k : Nat} {S' : Fl} {md' : Int} {bad' : Nat → Bool} (hkl : k ∈ natsI A.vs) (hm : MedIs w' w0.heap.size A.M A.Q A.F A.L A.P S' 192 bad' md') (hst : StIs w' w0.heap.size A.St A.Bk A.Vb A.M (natsI A.vs) A.c x.a x.q x.V)
    (hkp : Keeps x.S S' k) (hbad : ∀ i, bad' i = true → (x.S.b i).failed = true) (hnew : (((k : Nat) : Int) ≠ x.a ∧ (S'.newest 192 k = x.S.newest 192 k ∨ S'.newest 192 k = none)) ∨ (((k : Nat) : Int) = x.a ∧ S'.newest 192 k = x.S.newest 192 k ∧ (S'.b k).half = (x.S.b k).half)) :
    ∃ G', W9 w0 w' A { x with S := S', bad := bad', md := md', G := G' } := by
  have hb' : ∀ i, bad' i = true → (S'.b i).failed = true := fun i hi => by rw [hkp.failed]; exact hbad i hi
  have hsl : ∃ G', Sl S' 192 bad' (natsI A.vs) x.a x.q x.V G' := by
    rcases hnew with ⟨h1, h2⟩ | ⟨h1, h2, h3⟩
    · exact h.sl.other (fun e => h1 (by rw [e])) hkp.b hkp.chunks hkp.nb hb' h2
    · obtain rfl : k = x.a := by omega
      exact ⟨x.G, h.sl.held hkp.b hkp.chunks hkp.nb hb' h2 h3⟩
  obtain ⟨G', hsl⟩ := hsl
  exact ⟨G', h.turn ht (fun g hg => st_med hg) hm hst h.hVQ hsl hkp.nb hkp.failed (fun i hi => hkp.b i (fun e => hi (by rw [e]; exact hkl)))⟩
theorem W9.not7 (h : W9 w0 w A x) (hall : ∀ k ∈ natsI A.vs, ((k : Nat) : Int) ≠ x.a → (x.S.b k).failed = true) : False := by
  have h1 := filter_split (fun k => (x.S.b k).failed) (natsI A.vs)
  have h2 : (((natsI A.vs).filter fun k => !(x.S.b k).failed)).length ≤ 1 := by
    have hnd : ((natsI A.vs).filter fun k => !(x.S.b k).failed).Nodup := ((natsI_lt (fun y hy => (h.ok.2.2 y hy).1) h.ok.2.1).imp fun h => Nat.ne_of_lt h).filter _
    have := nodup_le (m := [x.a]) hnd (fun k hk => by
      obtain ⟨hk1, hk2⟩ := List.mem_filter.1 hk
      have : ((k : Nat) : Int) = x.a := Classical.byContradiction fun hne => by
        have := hall k hk1 hne
        simp [this] at hk2
      simp; omega)
    simpa using this
  have h3 := h.nf
  unfold nfail at h3
  rw [natsI_length] at h1
  omega
end
end Go.Proofs.YthjomnaejhehoaaGreatDoor
