/- What follows is laid together from several texts of mine, in their order. -/
import Derived.Test.YtomigaldomiefaaQ3
import Derived.OrdersIn
import Derived.TacticsIn
import Derived.Test.YtomigaldomiefaaQ8
import Derived.Deep.CutRange

namespace Go.Proofs.Ytomigaldomiefaa
open Go.RowKit
set_option linter.unusedVariables false
set_option linter.unusedSimpArgs false

section
variable {P : Program} {n : Nat} {ops : Array Oper} {Q : Exit → Act → World → Prop} {md : Region.Mode} {S : World → Prop}
theorem sem_wide (o : Oper) (ρ : Operand → Value) : o.semAt Fence.wide.round ρ = execOp ρ o := Oper.semAt_none ρ o
theorem opIn_yields {i : Nat} {o : Oper} {v : Value} {a : Act} (hi : ops[i]? = some o) (hy : YieldsIf P ops S o v a) {K : Act → World → Prop} {w : World} (hS : S w) (h : K (a.put o.dst v) w) : wpOpIn Fence.wide n P ops Q i K a w := by
  unfold wpOpIn
  simp only [hi]
  rcases hy with ⟨hw, hv⟩ | ⟨hw, rfl⟩
  · rw [if_pos hw]
    unfold Oper.wpIn
    rw [sem_wide, hv w hS]
    exact ⟨fun _ _ => trivial, h⟩
  · rw [if_neg (by rw [hw]; simp)]
    exact ⟨fun _ _ => trivial, h⟩
theorem opIn_putIf {j : Nat} {oi oj : Oper} {v : Value} (hj : ops[j]? = some oj) (hap : oi.apart ops oj = true) (hsi : ∀ cs b, oi.op ≠ .select cs b) (hsj : ∀ cs b, oj.op ≠ .select cs b)
    (hQ : ∀ c a w, Q (.panic c) (a.put oi.dst v) w → Q (.panic c) a w) {K : Act → World → Prop} {a : Act} {w : World} (hy : YieldsIf P ops S oi v a) (h : wpOpIn Fence.wide n P ops Q j K (a.put oi.dst v) w) :
    wpOpIn Fence.wide n P ops Q j (fun a' w' => YieldsIf P ops S oi v a' ∧ K (a'.put oi.dst v) w') a w := by
  obtain ⟨h1, h2, h3⟩ := Oper.apart_spec hap
  have keep : ∀ (a : Act), YieldsIf P ops S oi v a → ∀ u, YieldsIf P ops S oi v (a.put oj.dst u) := fun a hy u => hy.of_same (execOp_put oi hsi a oj.dst u h3) (wanted_put oi a oj.dst u h3)
  have keepD : ∀ d, YieldsIf P ops S oi v { a with defers := d :: a.defers } := fun d => hy.of_same rfl rfl
  unfold wpOpIn at *
  simp only [hj] at *
  rw [wanted_put oj a oi.dst v h1] at h
  by_cases hw : Region.wanted oj (yielded ops a.tmps) = true
  · rw [if_pos hw] at h ⊢
    unfold Oper.wpIn at *
    refine ⟨fun _ _ => trivial, ?_⟩
    have h := h.2
    rw [sem_wide] at h ⊢
    rw [execOp_put oj hsj a oi.dst v h1] at h
    generalize (execOp a.eval oj).run P w = r at *
    cases r with
    | ok x w' =>
      cases x <;> simp only [Oper.uponIn] at h ⊢
      case value u => exact ⟨keep a hy u, by rw [← Act.put_comm a v u h2]; exact h⟩
      case skip => exact ⟨keep a hy _, by rw [← Act.put_comm a v undef h2]; exact h⟩
      case defer d =>
        refine ⟨keep _ (keepD d) _, ?_⟩
        rw [← Act.put_comm _ v undef h2, ← Act.put_defers]
        exact h
      case enter f args =>
        refine ⟨h.1, CallsIn.mono h.2 fun e w'' he => ?_⟩
        cases e with
        | returned u => exact ⟨keep a hy u, by rw [← Act.put_comm a v u h2]; exact he⟩
        | panicked c => exact hQ _ _ _ he
        | outgrown => exact he
      case row row args => exact ⟨h.1, RowsIn.mono h.2 fun u w'' he => ⟨keep a hy u, by rw [← Act.put_comm a v u h2]; exact he⟩⟩
      case round l f t asg b =>
        refine ⟨h.1, RoundIn.mono h.2 fun e w'' he => ?_⟩
        cases e with
        | returned u => exact ⟨keep a hy u, by rw [← Act.put_comm a v u h2]; exact he⟩
        | panicked c => exact hQ _ _ _ he
        | outgrown => exact he
    | halt x w' =>
      cases x <;> simp only [Oper.uponIn] at h ⊢
      case panic u => exact hQ _ _ _ h
  · rw [if_neg hw] at h ⊢
    exact ⟨fun _ _ => trivial, keep a hy _, by rw [← Act.put_comm a v undef h2]; exact h.2⟩
/-- S is shown anew behind each. -/
def wpAnyHI (n : Nat) (P : Program) (md : Region.Mode) (ops : Array Oper) (Q : Exit → Act → World → Prop) (S : World → Prop) : Nat → Array Bool → Act → World → Prop
  | 0, listed, a, w => Region.ready md ops listed = [] ∧ Q .normal a w
  | fuel + 1, listed, a, w => (Region.ready md ops listed = [] → Q .normal a w) ∧ ∀ i ∈ Region.ready md ops listed, wpOpIn Fence.wide n P ops Q i (fun a' w' => S w' ∧ wpAnyHI n P md ops Q S fuel (listed.setIfInBounds i true) a' w') a w
theorem anyHI_sound : ∀ (fuel : Nat) (listed : Array Bool) (a : Act) (w : World), wpAnyHI n P md ops Q S fuel listed a w → wpAnyIn Fence.wide n P md ops Q fuel listed a w
  | 0, _, _, _, h => h
  | fuel + 1, _, _, _, h => ⟨h.1, fun i hi => wpOpIn_mono (fun a' w' h' => anyHI_sound fuel _ a' w' h'.2) (h.2 i hi)⟩
theorem anyHI_first {i : Nat} {oi : Oper} {v : Value} (hi : ops[i]? = some oi) (hsel : ∀ (j : Nat) (o : Oper) cs b, ops[j]? = some o → o.op ≠ .select cs b) (hQ : ∀ c a w, Q (.panic c) (a.put oi.dst v) w → Q (.panic c) a w) :
    ∀ (fuel : Nat) (listed : Array Bool) (a : Act) (w : World),
      (∀ j oj, ops[j]? = some oj → j ≠ i → listed.getD j true = false → (∀ e ∈ oj.after, Region.binds md e = true → e.on ≠ i) → oi.apart ops oj = true) →
      i ∈ Region.ready md ops listed → YieldsIf P ops S oi v a → S w → wpAnyHI n P md ops Q S fuel (listed.setIfInBounds i true) (a.put oi.dst v) w → wpAnyHI n P md ops Q S (fuel + 1) listed a w := by
  intro fuel
  induction fuel with
  | zero =>
    intro listed a w _ hr hy hS H
    refine ⟨fun h => (by rw [h] at hr; cases hr), fun j hj => ?_⟩
    by_cases hji : j = i
    · subst hji; exact opIn_yields hi hy hS ⟨hS, H⟩
    · have := ready_mono hj hji
      rw [H.1] at this
      cases this
  | succ fuel ih =>
    intro listed a w hfree hr hy hS H
    refine ⟨fun h => (by rw [h] at hr; cases hr), fun j hj => ?_⟩
    by_cases hji : j = i
    · subst hji; exact opIn_yields hi hy hS ⟨hS, H⟩
    · have h1 := H.2 j (ready_mono hj hji)
      obtain ⟨hjun, oj, hoj, hall⟩ := mem_ready.1 hj
      have hnot : ∀ e ∈ oj.after, Region.binds md e = true → e.on ≠ i := fun e he hb heq => by
        have h1 := hall e he hb
        have h0 := (mem_ready.1 hr).1
        rw [heq] at h1
        rcases Nat.lt_or_ge i listed.size with h' | h'
        · simp [h'] at h0 h1; rw [h0] at h1; cases h1
        · simp [Array.getElem?_eq_none h'] at h1
      have h2 := opIn_putIf hoj (hfree j oj hoj hji hjun hnot) (fun cs b => hsel i oi cs b hi) (fun cs b => hsel j oj cs b hoj) hQ hy h1
      have hfree' : ∀ k ok, ops[k]? = some ok → k ≠ i → (listed.setIfInBounds j true).getD k true = false → (∀ e ∈ ok.after, Region.binds md e = true → e.on ≠ i) → oi.apart ops ok = true := fun k ok hk hki hun hno => by
        refine hfree k ok hk hki ?_ hno
        by_cases hjk : j = k
        · subst hjk; exact hjun
        · rw [getD_set_ne true hjk] at hun; exact hun
      refine wpOpIn_mono (fun a' w' h3 => ⟨h3.2.1, ih (listed.setIfInBounds j true) a' w' hfree' (ready_mono hr (Ne.symm hji)) h3.1 h3.2.1 ?_⟩) h2
      rw [Array.setIfInBounds_comm _ _ hji]
      exact h3.2.2
theorem anyHI_take {i : Nat} {oi : Oper} {v : Value} {fuel : Nat} {listed : Array Bool} {a : Act} {w : World} (hi : ops[i]? = some oi) (hs : Region.noSelect ops = true) (hf : Region.free md ops listed i = true) (hr : (Region.ready md ops listed).contains i = true)
    (hQ : ∀ c a w, Q (.panic c) (a.put oi.dst v) w → Q (.panic c) a w) (hy : YieldsIf P ops S oi v a) (hS : S w) (h : wpAnyHI n P md ops Q S fuel (listed.setIfInBounds i true) (a.put oi.dst v) w) : wpAnyHI n P md ops Q S (fuel + 1) listed a w :=
  anyHI_first hi (Region.noSelect_spec hs) hQ fuel listed a w (Region.free_spec hi hf) (by simpa using hr) hy hS h
theorem anyHI_one {i : Nat} {fuel : Nat} {listed : Array Bool} {a : Act} {w : World} (hr : Region.ready md ops listed = [i]) (h : wpOpIn Fence.wide n P ops Q i (fun a' w' => S w' ∧ wpAnyHI n P md ops Q S fuel (listed.setIfInBounds i true) a' w') a w) : wpAnyHI n P md ops Q S (fuel + 1) listed a w :=
  ⟨fun h0 => (by rw [hr] at h0; cases h0), fun j hj => by rw [hr] at hj; rw [List.mem_singleton.1 hj]; exact h⟩
theorem anyHI_done {listed : Array Bool} {a : Act} {w : World} (hr : Region.ready md ops listed = []) (h : Q .normal a w) : ∀ fuel, wpAnyHI n P md ops Q S fuel listed a w
  | 0 => ⟨hr, h⟩
  | _ + 1 => ⟨fun _ => h, by rw [hr]; simp⟩
/-- One operation after the other, in the fence; behind each S is shown anew. -/
def wpSeqI (n : Nat) (P : Program) (ops : Array Oper) (S : World → Prop) (Q : Exit → Act → World → Prop) : List Oper → Act → World → Prop
  | [], a, w => Q .normal a w
  | o :: rest, a, w => wpListIn Fence.wide n P ops (outQ Q fun a' w' => S w' ∧ wpSeqI n P ops S Q rest a' w') [o] a w
theorem oper_wpIn_post {o : Oper} {a : Act} {w : World} {K : Act → World → Prop} {Q Q' : Exit → Act → World → Prop} (hp : ∀ c a w, Q (.panic c) a w → Q' (.panic c) a w) (ho : LetsOut Q → LetsOut Q') (h : o.wpIn Fence.wide n P a w K Q) : o.wpIn Fence.wide n P a w K Q' := by
  unfold Oper.wpIn at *
  refine ⟨h.1, ?_⟩
  have h := h.2
  generalize (o.semAt Fence.wide.round a.eval).run P w = r at *
  cases r with
  | ok x w' =>
    cases x <;> simp only [Oper.uponIn] at h ⊢ <;>
      first
        | exact h
        | exact ⟨h.1, CallsIn.mono h.2 (fun e w'' he => by cases e <;> first | exact he | exact hp _ _ _ he | exact ho he)⟩
        | exact ⟨h.1, RoundIn.mono h.2 (fun e w'' he => by cases e <;> first | exact he | exact hp _ _ _ he | exact ho he)⟩
  | halt x w' => cases x <;> simp only [Oper.uponIn] at h ⊢ <;> first | exact h | exact hp _ _ _ h
theorem letsOut_out {Q : Exit → Act → World → Prop} {N : Act → World → Prop} (h : LetsOut (outQ Q N)) : LetsOut Q := by
  obtain ⟨a, w, h⟩ := h; exact ⟨a, w, h⟩
end
section
variable {P : Program} {n : Nat} {l : List Oper} {Q : Exit → Act → World → Prop} {S : World → Prop}
theorem opIn_of_list {i : Nat} {o : Oper} (ho : l[i]? = some o) {N : Act → World → Prop} {K : Act → World → Prop} {a : Act} {w : World} (hK : ∀ a w, N a w → K a w) (h : wpListIn Fence.wide n P l.toArray (outQ Q N) [o] a w) : wpOpIn Fence.wide n P l.toArray Q i K a w := by
  have ho' : l.toArray[i]? = some o := by simpa using ho
  unfold wpOpIn
  simp only [ho']
  unfold wpListIn at h
  by_cases hw : Region.wanted o (yielded l.toArray a.tmps) = true
  · rw [if_pos hw] at h ⊢
    exact oper_wpIn_post (fun c a w h => h) (fun h => letsOut_out (N := N) h) (Oper.wpIn_mono (fun a w h => hK a w h) h)
  · rw [if_neg hw] at h ⊢
    exact ⟨h.1, hK _ _ h.2⟩
theorem anyHI_chain : ∀ (ts : List Nat) (listed : Array Bool) (a : Act) (w : World), chainB l.toArray listed ts = true → (∀ i ∈ ts, ∃ o, l[i]? = some o) → wpSeqI n P l.toArray S Q (ts.filterMap (l[·]?)) a w → wpAnyHI n P .any l.toArray Q S ts.length listed a w
  | [], listed, a, w, hB, _, h => anyHI_done (by simpa [chainB] using hB) h _
  | t :: ts, listed, a, w, hB, hr, h => by
    obtain ⟨o, ho⟩ := hr t (by simp)
    simp only [chainB, Bool.and_eq_true, beq_iff_eq] at hB
    rw [List.filterMap_cons, ho] at h
    refine anyHI_one hB.1 ?_
    exact opIn_of_list ho (fun a' w' h' => ⟨h'.1, anyHI_chain ts _ a' w' hB.2 (fun j hj => hr j (by simp [hj])) h'.2⟩) h
theorem anyHI_takes (hs : Region.noSelect l.toArray = true) : ∀ (rs : List Nat) (fuel : Nat) (listed : Array Bool) (a : Act) (w : World), takesB l.toArray listed rs = true → (∀ i ∈ rs, ∃ o, l[i]? = some o ∧ yieldsOnly o = true) → S w →
    (∀ c (a : Act) d v w, Q (.panic c) (a.put d v) w → Q (.panic c) a w) →
    wpQuiet P l.toArray S (fun a' => wpAnyHI n P .any l.toArray Q S fuel (listAll listed rs) a' w) (rs.filterMap (l[·]?)) a → wpAnyHI n P .any l.toArray Q S (fuel + rs.length) listed a w
  | [], fuel, listed, a, w, _, _, _, _, h => by simpa [listAll, wpQuiet] using h
  | i :: rs, fuel, listed, a, w, hB, hr, hS, hQ, h => by
    obtain ⟨o, ho, hy⟩ := hr i (by simp)
    simp only [takesB, Bool.and_eq_true] at hB
    obtain ⟨⟨hf, hc⟩, hB⟩ := hB
    have ho' : l.toArray[i]? = some o := by simpa using ho
    rw [List.filterMap_cons, ho] at h
    simp only at h
    unfold wpQuiet at h
    have key : ∃ v, YieldsIf P l.toArray S o v a ∧ wpQuiet P l.toArray S (fun a' => wpAnyHI n P .any l.toArray Q S fuel (listAll listed (i :: rs)) a' w) (rs.filterMap (l[·]?)) (a.put o.dst v) := by
      by_cases hw : Region.wanted o (yielded l.toArray a.tmps) = true
      · rw [if_pos hw] at h
        obtain ⟨v, hv, hn⟩ := h
        refine ⟨v, .inl ⟨hw, fun w1 hw1 => ?_⟩, hn⟩
        have h1 := hv w1 hw1
        unfold Oper.quietAt at h1
        cases hx : (execOp a.eval o).run P w1 with
        | halt x w2 => rw [hx] at h1; exact h1.elim
        | ok r w2 =>
          obtain ⟨v2, rfl⟩ := yieldsOnly_spec hy _ hx
          rw [hx] at h1
          obtain ⟨rfl, rfl⟩ := h1
          rfl
      · rw [if_neg hw] at h
        exact ⟨undef, .inr ⟨by simpa using hw, rfl⟩, h⟩
    obtain ⟨v, hy', hn⟩ := key
    refine anyHI_take ho' hs hf hc (fun c a' w' h' => hQ c a' _ _ w' h') hy' hS ?_
    exact anyHI_takes hs rs fuel _ _ w hB (fun j hj => hr j (by simp [hj])) hS hQ hn
def seqIB (l : List Oper) (rs ts : List Nat) : Bool :=
  Region.noSelect l.toArray && takesB l.toArray (Array.replicate l.length false) rs && chainB l.toArray (listAll (Array.replicate l.length false) rs) ts && decide (rs.length + ts.length = l.length) &&
  rs.all (fun i => atB l i yieldsOnly) && ts.all (fun i => decide (i < l.length))
/-- **A REGION THAT DRAWS ITS ORDER, IN THE FENCE**: its reads (rs) first; the others (ts) in their one order. -/
theorem region_in {id : Nat} {a : Act} {w : World} (B : List Nat) (rs ts : List Nat) (hm : P.follows .mixedOrders = true) (hB : seqIB l rs ts = true) (hQ : ∀ c (a : Act) d v w, Q (.panic c) (a.put d v) w → Q (.panic c) a w)
    (h : wpQuiet P l.toArray (fun u => ∃ t : Kept w B, u = t.u) (fun a' => wpSeqI n P l.toArray (fun u => Turns w u B) Q (ts.filterMap (l[·]?)) a' w.drew) (rs.filterMap (l[·]?)) a) : (Code.region id l.toArray true).wpIn Fence.wide n P Q a w := by
  have e : (fun u => ∃ t : Kept w B, u = t.u) = fun u => Turns w u B := by
    funext u; apply propext
    exact ⟨fun ⟨t, e⟩ => by subst e; exact t.h, fun h => ⟨⟨u, h⟩, rfl⟩⟩
  rw [e] at h
  simp only [seqIB, Bool.and_eq_true, decide_eq_true_eq, List.all_eq_true] at hB
  obtain ⟨⟨⟨⟨⟨h1, h2⟩, h3⟩, h4⟩, h5⟩, h6⟩ := hB
  refine wpIn_region_any hm ?_
  have hsz : l.toArray.size = l.length := by simp
  rw [hsz]
  have := anyHI_takes (P := P) (n := n) (S := fun u => Turns w u B) (Q := Q) h1 rs ts.length (Array.replicate l.length false) a w.drew h2 (fun i hi => by
    obtain ⟨o, ho, hy⟩ := atB_spec (h5 i hi)
    exact ⟨o, ho, hy⟩) (Turns.refl w B).drew hQ (quiet_imp (fun a' h' => anyHI_chain ts _ a' w.drew h3 (fun i hi => ⟨_, List.getElem?_eq_getElem (by simpa using h6 i hi)⟩) h') _ _ h)
  rw [Nat.add_comm, h4] at this
  exact anyHI_sound _ _ _ _ this
/-! Reads and others by turns: (true, i): i may be taken now, whatever else may come up; (false, i): i is the one that may come up. -/
def mixB (ops : Array Oper) : Array Bool → List (Bool × Nat) → Bool
  | listed, [] => (Region.ready .any ops listed).isEmpty
  | listed, (true, i) :: s => Region.free .any ops listed i && (Region.ready .any ops listed).contains i && mixB ops (listed.setIfInBounds i true) s
  | listed, (false, i) :: s => (Region.ready .any ops listed) == [i] && mixB ops (listed.setIfInBounds i true) s
def wpMix (n : Nat) (P : Program) (l : List Oper) (S : World → Prop) (Q : Exit → Act → World → Prop) : List (Bool × Nat) → Act → World → Prop
  | [], a, w => Q .normal a w
  | (true, i) :: s, a, w => match l[i]? with | some o => wpQuiet P l.toArray S (fun a' => wpMix n P l S Q s a' w) [o] a | none => False
  | (false, i) :: s, a, w => match l[i]? with | some o => wpListIn Fence.wide n P l.toArray (outQ Q fun a' w' => S w' ∧ wpMix n P l S Q s a' w') [o] a w | none => False
theorem wpMix_take {i : Nat} {o : Oper} {s : List (Bool × Nat)} {a : Act} {w : World} (ho : l[i]? = some o) (h : wpQuiet P l.toArray S (fun a' => wpMix n P l S Q s a' w) [o] a) : wpMix n P l S Q ((true, i) :: s) a w := by
  unfold wpMix; rw [ho]; exact h
theorem wpMix_one {i : Nat} {o : Oper} {s : List (Bool × Nat)} {a : Act} {w : World} (ho : l[i]? = some o) (h : wpListIn Fence.wide n P l.toArray (outQ Q fun a' w' => S w' ∧ wpMix n P l S Q s a' w') [o] a w) : wpMix n P l S Q ((false, i) :: s) a w := by
  unfold wpMix; rw [ho]; exact h
theorem wpMix_nil {a : Act} {w : World} (h : Q .normal a w) : wpMix n P l S Q [] a w := h
theorem anyHI_mix (hs : Region.noSelect l.toArray = true) (hQ : ∀ c (a : Act) d v w, Q (.panic c) (a.put d v) w → Q (.panic c) a w) : ∀ (s : List (Bool × Nat)) (listed : Array Bool) (a : Act) (w : World), mixB l.toArray listed s = true → (∀ i, (true, i) ∈ s → atB l i yieldsOnly = true) → S w →
    wpMix n P l S Q s a w → wpAnyHI n P .any l.toArray Q S s.length listed a w
  | [], listed, a, w, hB, _, _, h => anyHI_done (by simpa [mixB] using hB) h _
  | (true, i) :: s, listed, a, w, hB, hy, hS, h => by
    obtain ⟨o, ho, hyo⟩ := atB_spec (hy i (by simp))
    simp only [mixB, Bool.and_eq_true] at hB
    obtain ⟨⟨hf, hc⟩, hB⟩ := hB
    have ho' : l.toArray[i]? = some o := by simpa using ho
    unfold wpMix at h
    rw [ho] at h
    simp only [wpQuiet] at h
    have key : ∃ v, YieldsIf P l.toArray S o v a ∧ wpMix n P l S Q s (a.put o.dst v) w := by
      by_cases hw : Region.wanted o (yielded l.toArray a.tmps) = true
      · rw [if_pos hw] at h
        obtain ⟨v, hv, hn⟩ := h
        refine ⟨v, .inl ⟨hw, fun w1 hw1 => ?_⟩, hn⟩
        have h1 := hv w1 hw1
        unfold Oper.quietAt at h1
        cases hx : (execOp a.eval o).run P w1 with
        | halt x w2 => rw [hx] at h1; exact h1.elim
        | ok r w2 =>
          obtain ⟨v2, rfl⟩ := yieldsOnly_spec hyo _ hx
          rw [hx] at h1
          obtain ⟨rfl, rfl⟩ := h1
          rfl
      · rw [if_neg hw] at h
        exact ⟨undef, .inr ⟨by simpa using hw, rfl⟩, h⟩
    obtain ⟨v, hy', hn⟩ := key
    refine anyHI_take ho' hs hf hc (fun c a' w' h' => hQ c a' _ _ w' h') hy' hS ?_
    exact anyHI_mix hs hQ s _ _ w hB (fun j hj => hy j (by simp [hj])) hS hn
  | (false, i) :: s, listed, a, w, hB, hy, hS, h => by
    simp only [mixB, Bool.and_eq_true, beq_iff_eq] at hB
    unfold wpMix at h
    cases ho : l[i]? with
    | none => rw [ho] at h; exact h.elim
    | some o =>
      rw [ho] at h
      refine anyHI_one hB.1 ?_
      exact opIn_of_list ho (fun a' w' h' => ⟨h'.1, anyHI_mix hs hQ s _ a' w' hB.2 (fun j hj => hy j (by simp [hj])) h'.1 h'.2⟩) h
def mixAllB (l : List Oper) (s : List (Bool × Nat)) : Bool :=
  Region.noSelect l.toArray && mixB l.toArray (Array.replicate l.length false) s && decide (s.length = l.length) && s.all (fun x => !x.1 || atB l x.2 yieldsOnly)
/-- **A REGION THAT DRAWS ITS ORDER, IN THE FENCE**: by the turns s; behind each other operation S is shown anew. -/
theorem region_mix {id : Nat} {a : Act} {w : World} (S : World → Prop) (s : List (Bool × Nat)) (hm : P.follows .mixedOrders = true) (hB : mixAllB l s = true) (hQ : ∀ c (a : Act) d v w, Q (.panic c) (a.put d v) w → Q (.panic c) a w) (hS : S w.drew)
    (h : wpMix n P l S Q s a w.drew) : (Code.region id l.toArray true).wpIn Fence.wide n P Q a w := by
  simp only [mixAllB, Bool.and_eq_true, decide_eq_true_eq, List.all_eq_true] at hB
  obtain ⟨⟨⟨h1, h2⟩, h3⟩, h4⟩ := hB
  refine wpIn_region_any hm ?_
  have hsz : l.toArray.size = l.length := by simp
  rw [hsz]
  have := anyHI_mix (P := P) (n := n) (S := S) (Q := Q) h1 hQ s (Array.replicate l.length false) a w.drew h2 (fun i hi => by simpa using h4 (true, i) hi) hS h
  rw [h3] at this
  exact anyHI_sound _ _ _ _ this
/-- Nothing is owed of a panic that cannot be. -/
theorem wpIn_noPanic {c : Code} {a : Act} {w : World} (h : c.wpIn Fence.wide n P (NoPanic Q) a w) : c.wpIn Fence.wide n P Q a w := wpIn_mono h NoPanic.imp
end
end Go.Proofs.Ytomigaldomiefaa

namespace Go.Proofs.Ytomigaldomiefaa
/-- The operations of region 'id' in a piece of code. -/
def regOps (id : Nat) : Code → Option (List Oper)
  | .region i ops _ => if i = id then some ops.toList else none
  | .seq a b => (regOps id a).or (regOps id b)
  | .cond _ a b => (regOps id a).or (regOps id b)
  | .block _ a => regOps id a
  | .loop a => regOps id a
  | .rangeFunc _ _ a b => (regOps id a).or (regOps id b)
  | .scope a => regOps id a
  | _ => none
def opsOf (id : Nat) (f : Func) : Option (List Oper) := f.body.bind (regOps id)
/-- The code from region 'id' on, in the sequence in which it stands. -/
def codeFrom (id : Nat) : Code → Option Code
  | .region i ops d => if i = id then some (.region i ops d) else none
  | .seq (.region i ops d) b => if i = id then some (.seq (.region i ops d) b) else codeFrom id b
  | .seq a b => (codeFrom id a).or (codeFrom id b)
  | .cond _ a b => (codeFrom id a).or (codeFrom id b)
  | .block _ a => codeFrom id a
  | .loop a => codeFrom id a
  | .rangeFunc _ _ a b => (codeFrom id a).or (codeFrom id b)
  | .scope a => codeFrom id a
  | _ => none
def fromOf (id : Nat) (f : Func) : Option Code := f.body.bind (codeFrom id)
/-- A loop of a function, by the number of the first region in it. -/
def codeLoop (id : Nat) : Code → Option Code
  | .seq a b => (codeLoop id a).or (codeLoop id b)
  | .cond _ a b => (codeLoop id a).or (codeLoop id b)
  | .block _ a => codeLoop id a
  | .loop a => match codeLoop id a with | some c => some c | none => match regOps id a with | some _ => some (.loop a) | none => none
  | .rangeFunc _ _ a b => (codeLoop id a).or (codeLoop id b)
  | .scope a => codeLoop id a
  | _ => none
def loopOf (id : Nat) (f : Func) : Option Code := f.body.bind (codeLoop id)
end Go.Proofs.Ytomigaldomiefaa

namespace Go.Proofs.Ytomigaldomiefaa
open Go.RowKit Go.Shelf
attribute [local go_sem] Oper.semAt_some
attribute [local simp, local go_sem] wide_fn
set_option linter.unusedVariables false
set_option linter.unusedSimpArgs false

theorem wpMix_skip {P : Program} {n i : Nat} {l : List Oper} {S : World → Prop} {Q : Exit → Act → World → Prop} {o : Oper} {s : List (Bool × Nat)} {a : Act} {w : World} (ho : l[i]? = some o) (hw : Region.wanted o (yielded l.toArray a.tmps) = false) (hS : S w) (h : wpMix n P l S Q s (a.put o.dst undef) w) : wpMix n P l S Q ((false, i) :: s) a w := by
  refine wpMix_one ho ?_
  simp only [wpListIn, hw]
  exact ⟨fun _ _ => trivial, outQ_normal hS h⟩
/-- A world that meets S. -/
structure Sat (S : World → Prop) where
  u : World
  h : S u
abbrev inS (S : World → Prop) (u : World) : Prop := ∃ t : Sat S, u = t.u
set_option maxRecDepth 100000 in
set_option maxHeartbeats 4000000 in
theorem reg12 (n : Nat) (hn : 1 ≤ n) (ops : List Oper) (hops : opsOf 12 Try.f56 = some ops) (S0 PA PB PX : World → Prop) (Y X Z Zs Zp C L sz : Nat) (hsz : sz ≤ 65536) (p : Int) (lb : Nat) (tb : ByteArray) (lo ah : Bool) (w : World) (hw : S0 w.drew)
    (hS : ∀ u, S0 u → u.cell? ⟨Y, 0, none⟩ = some (.func (.yield lb) #[] #[]) ∧ u.cell? ⟨X, 0, none⟩ = some (.string tb) ∧ u.cell? ⟨Zs, 0, none⟩ = some (.pointer (some ⟨C, 0, none⟩)) ∧ u.cell? ⟨C, 3, none⟩ = some (.map (some L)) ∧ u.cell? ⟨Zp, 0, none⟩ = some (.int .i64 p) ∧
      (Instr.lookup 65 (.map (some L)) (.agg #[.int .i64 p]) false).run Try.prog u = .ok (.bool lo) u ∧ u.cell? ⟨Z, 0, none⟩ = some (.bool ah) ∧ u.cell? ⟨C, 1, none⟩ = some (.int .i64 sz))
    (hA : ∀ u, PA u → S0 u) (hB : ∀ u, PB u → S0 u) (hX : ∀ u, PX u → S0 u) (hSb : ∀ u u', S0 u → Below u.heap.size u u' → S0 u')
    (y1 : YieldAt Fence.wide (n - 1) Try.prog lb #[.string tb] w.drew fun e W' => (e = .returned (.bool true) ∧ PA W') ∨ (e = .returned (.bool false) ∧ PX W'))
    (y2 : lo = true → ah = false → ∀ u u', PA u → Below u.heap.size u u' → YieldAt Fence.wide (n - 1) Try.prog lb #[.string (textOf (zs sz))] u' fun e W' => (e = .returned (.bool true) ∧ PB W') ∨ (e = .returned (.bool false) ∧ PX W'))
    (u0 u3 u6 u8 u9 u10 u11 u12 u13 u14 u15 u16 u17 u18 u19 u20 u21 u22 u23 u24 u25 u26 u27 u28 u29 u30 u31 u32 u33 u34 u35 u36 u37 u38 u39 u40 u41 u42 u43 u44 u45 u46 u47 u48 u49 u50 u51 u52 u53 u54 u55 u56 u57 u58 u59 u60 u61 u62 u63 u64 u65 u66 u67 u68 u69 u70 u71 u72 u73 u74 u75 u76 u77 u78 u79 u80 u81 u82 u83 u84 u85 u86 u87 u88 u89 u90 u91 u92 u93 u94 u95 u96 u97 u98 u99 u100 u101 u102 u103 u104 u105 u106 : Value) (ds : List Deferred) (Q : Exit → Act → World → Prop)
    (hQ : ∀ (x46 x47 x48 x49 x50 x51 x52 x53 x54 x55 x56 x57 x58 x59 x60 x61 x62 x63 x64 x65 x66 x67 x68 : Value) (b : Bool) (w' : World), (b = true → PX w') → (b = false → (if lo && !ah then PB w' else PA w')) → Q .normal { tmps := #[u0, .pointer (some ⟨Zs, 0, none⟩), .pointer (some ⟨Zp, 0, none⟩), u3, .pointer (some ⟨Y, 0, none⟩), .pointer (some ⟨X, 0, none⟩), u6, .pointer (some ⟨Z, 0, none⟩), u8, u9, u10, u11, u12, u13, u14, u15, u16, u17, u18, u19, u20, u21, u22, u23, u24, u25, u26, u27, u28, u29, u30, u31, u32, u33, u34, u35, u36, u37, u38, u39, u40, u41, u42, u43, u44, u45, x46, x47, x48, x49, x50, x51, x52, x53, x54, x55, x56, x57, x58, x59, x60, x61, x62, x63, x64, x65, x66, x67, x68, .bool b, u70, u71, u72, u73, u74, u75, u76, u77, u78, u79, u80, u81, u82, u83, u84, u85, u86, u87, u88, u89, u90, u91, u92, u93, u94, u95, u96, u97, u98, u99, u100, u101, u102, u103, u104, u105, u106], defers := ds } w') :
    (Code.region 12 ops.toArray true).wpIn Fence.wide n Try.prog Q { tmps := #[u0, .pointer (some ⟨Zs, 0, none⟩), .pointer (some ⟨Zp, 0, none⟩), u3, .pointer (some ⟨Y, 0, none⟩), .pointer (some ⟨X, 0, none⟩), u6, .pointer (some ⟨Z, 0, none⟩), u8, u9, u10, u11, u12, u13, u14, u15, u16, u17, u18, u19, u20, u21, u22, u23, u24, u25, u26, u27, u28, u29, u30, u31, u32, u33, u34, u35, u36, u37, u38, u39, u40, u41, u42, u43, u44, u45, u46, u47, u48, u49, u50, u51, u52, u53, u54, u55, u56, u57, u58, u59, u60, u61, u62, u63, u64, u65, u66, u67, u68, u69, u70, u71, u72, u73, u74, u75, u76, u77, u78, u79, u80, u81, u82, u83, u84, u85, u86, u87, u88, u89, u90, u91, u92, u93, u94, u95, u96, u97, u98, u99, u100, u101, u102, u103, u104, u105, u106], defers := ds } w := by
  unfold opsOf Try.f56 at hops
  simp only [Option.bind, regOps, Nat.reduceEqDiff, if_true, if_false, ite_false, ite_true, Option.or, Option.some.injEq] at hops
  subst hops
  dsimp only
  have hmx : Try.prog.follows .mixedOrders = true := by kernel_rfl
  have HA := Lib.hid hA
  have HB := Lib.hid hB
  have HX := Lib.hid hX
  have HSb := Lib.hid hSb
  have HS := Lib.hid hS
  have HW := Lib.hid hw
  have HQ := Lib.hid hQ
  have HY2 := Lib.hid y2
  obtain ⟨fn, tmps, assign, body, hy, hR⟩ := y1
  have HRd := Lib.hid hR
  have s1 : ∀ t : Sat S0, t.u.cell? ⟨Y, 0, none⟩ = some (.func (.yield lb) #[] #[]) := fun t => (hS _ t.h).1
  have s2 : ∀ t : Sat S0, t.u.cell? ⟨X, 0, none⟩ = some (.string tb) := fun t => (hS _ t.h).2.1
  have s3 : ∀ t : Sat S0, t.u.cell? ⟨Zs, 0, none⟩ = some (.pointer (some ⟨C, 0, none⟩)) := fun t => (hS _ t.h).2.2.1
  have s4 : ∀ t : Sat S0, t.u.cell? ⟨C, 3, none⟩ = some (.map (some L)) := fun t => (hS _ t.h).2.2.2.1
  have s5 : ∀ t : Sat S0, t.u.cell? ⟨Zp, 0, none⟩ = some (.int .i64 p) := fun t => (hS _ t.h).2.2.2.2.1
  have s6 : ∀ t : Sat S0, (Instr.lookup 65 (.map (some L)) (.agg #[.int .i64 p]) false).run Try.prog t.u = .ok (.bool lo) t.u := fun t => (hS _ t.h).2.2.2.2.2.1
  have s7 : ∀ t : Sat S0, t.u.cell? ⟨Z, 0, none⟩ = some (.bool ah) := fun t => (hS _ t.h).2.2.2.2.2.2.1
  have hne : Nonempty (Sat S0) := ⟨⟨_, hw⟩⟩
  clear hA hB hX hSb hS hw hQ y2 hR
  cases lo with
  | false =>
    refine wpIn_noPanic ?_
    refine region_mix (inS S0) [(true,0),(true,1),(false,2),(true,3),(true,4),(true,5),(true,6),(true,7),(true,8),(true,9),(true,10),(true,11),(true,12),(true,13),(true,14),(true,15),(true,16),(true,17),(true,18),(false,19),(false,20),(true,21),(true,22),(true,23)] hmx (by kernel_rfl) (fun _ _ _ _ _ h => h) ⟨⟨_, HW.out⟩, rfl⟩ ?_
    (repeat ((with_reducible refine wpMix_take (by with_unfolding_all exact rfl) ?_); (with_reducible (show wpQuiet _ _ _ _ (_ :: _) _)); go_big_quiet_step (fail); (with_reducible refine wpQuiet_nil ?_)))
    (with_reducible refine wpMix_one (by with_unfolding_all exact rfl) ?_)
    gi_wp2
    refine HRd.out.mono ?_
    rintro e W3 (⟨rfl, h3⟩ | ⟨rfl, h3⟩)
    · have H3 := Lib.hid h3
      have HS3 : Hid (S0 W3) := HA.out _ h3
      clear hy h3
      gi_wp2
      (with_reducible refine outQ_normal ?_ ?_); exact ⟨⟨_, HS3.out⟩, rfl⟩
      (repeat ((with_reducible refine wpMix_take (by with_unfolding_all exact rfl) ?_); (with_reducible (show wpQuiet _ _ _ _ (_ :: _) _)); go_big_quiet_step (fail); (with_reducible refine wpQuiet_nil ?_)))
      ((with_reducible refine wpMix_skip (by with_unfolding_all exact rfl) (by with_unfolding_all exact rfl) ⟨⟨_, HS3.out⟩, rfl⟩ ?_); simp only [Act.put, List.setIfInBounds_toArray, List.set_cons_succ, List.set_cons_zero])
      ((with_reducible refine wpMix_skip (by with_unfolding_all exact rfl) (by with_unfolding_all exact rfl) ⟨⟨_, HS3.out⟩, rfl⟩ ?_); simp only [Act.put, List.setIfInBounds_toArray, List.set_cons_succ, List.set_cons_zero])
      (repeat ((with_reducible refine wpMix_take (by with_unfolding_all exact rfl) ?_); (with_reducible (show wpQuiet _ _ _ _ (_ :: _) _)); go_big_quiet_step (fail); (with_reducible refine wpQuiet_nil ?_)))
      with_reducible refine wpMix_nil ?_
      refine NoPanic.normal ?_
      exact HQ.out _ _ _ _ _ _ _ _ _ _ _ _ _ _ _ _ _ _ _ _ _ _ _ false W3 (fun h => by cases h) (fun _ => H3.out)
    · have H3 := Lib.hid h3
      have HS3 : Hid (S0 W3) := HX.out _ h3
      clear hy h3
      gi_wp2
      (with_reducible refine outQ_normal ?_ ?_); exact ⟨⟨_, HS3.out⟩, rfl⟩
      (repeat ((with_reducible refine wpMix_take (by with_unfolding_all exact rfl) ?_); (with_reducible (show wpQuiet _ _ _ _ (_ :: _) _)); go_big_quiet_step (fail); (with_reducible refine wpQuiet_nil ?_)))
      ((with_reducible refine wpMix_skip (by with_unfolding_all exact rfl) (by with_unfolding_all exact rfl) ⟨⟨_, HS3.out⟩, rfl⟩ ?_); simp only [Act.put, List.setIfInBounds_toArray, List.set_cons_succ, List.set_cons_zero])
      ((with_reducible refine wpMix_skip (by with_unfolding_all exact rfl) (by with_unfolding_all exact rfl) ⟨⟨_, HS3.out⟩, rfl⟩ ?_); simp only [Act.put, List.setIfInBounds_toArray, List.set_cons_succ, List.set_cons_zero])
      (repeat ((with_reducible refine wpMix_take (by with_unfolding_all exact rfl) ?_); (with_reducible (show wpQuiet _ _ _ _ (_ :: _) _)); go_big_quiet_step (fail); (with_reducible refine wpQuiet_nil ?_)))
      with_reducible refine wpMix_nil ?_
      refine NoPanic.normal ?_
      exact HQ.out _ _ _ _ _ _ _ _ _ _ _ _ _ _ _ _ _ _ _ _ _ _ _ true W3 (fun _ => H3.out) (fun h => by cases h)
  | true =>
    cases ah with
    | true =>
        refine wpIn_noPanic ?_
        refine region_mix (inS S0) [(true,0),(true,1),(false,2),(true,3),(true,4),(true,5),(true,6),(true,7),(true,8),(true,9),(true,10),(true,11),(true,12),(true,13),(true,14),(true,15),(true,16),(true,17),(true,18),(false,19),(false,20),(true,21),(true,22),(true,23)] hmx (by kernel_rfl) (fun _ _ _ _ _ h => h) ⟨⟨_, HW.out⟩, rfl⟩ ?_
        (repeat ((with_reducible refine wpMix_take (by with_unfolding_all exact rfl) ?_); (with_reducible (show wpQuiet _ _ _ _ (_ :: _) _)); go_big_quiet_step (fail); (with_reducible refine wpQuiet_nil ?_)))
        (with_reducible refine wpMix_one (by with_unfolding_all exact rfl) ?_)
        gi_wp2
        refine HRd.out.mono ?_
        rintro e W3 (⟨rfl, h3⟩ | ⟨rfl, h3⟩)
        · have H3 := Lib.hid h3
          have HS3 : Hid (S0 W3) := HA.out _ h3
          clear hy h3
          gi_wp2
          (with_reducible refine outQ_normal ?_ ?_); exact ⟨⟨_, HS3.out⟩, rfl⟩
          (repeat ((with_reducible refine wpMix_take (by with_unfolding_all exact rfl) ?_); (with_reducible (show wpQuiet _ _ _ _ (_ :: _) _)); go_big_quiet_step (fail); (with_reducible refine wpQuiet_nil ?_)))
          ((with_reducible refine wpMix_skip (by with_unfolding_all exact rfl) (by with_unfolding_all exact rfl) ⟨⟨_, HS3.out⟩, rfl⟩ ?_); simp only [Act.put, List.setIfInBounds_toArray, List.set_cons_succ, List.set_cons_zero])
          ((with_reducible refine wpMix_skip (by with_unfolding_all exact rfl) (by with_unfolding_all exact rfl) ⟨⟨_, HS3.out⟩, rfl⟩ ?_); simp only [Act.put, List.setIfInBounds_toArray, List.set_cons_succ, List.set_cons_zero])
          (repeat ((with_reducible refine wpMix_take (by with_unfolding_all exact rfl) ?_); (with_reducible (show wpQuiet _ _ _ _ (_ :: _) _)); go_big_quiet_step (fail); (with_reducible refine wpQuiet_nil ?_)))
          with_reducible refine wpMix_nil ?_
          refine NoPanic.normal ?_
          exact HQ.out _ _ _ _ _ _ _ _ _ _ _ _ _ _ _ _ _ _ _ _ _ _ _ false W3 (fun h => by cases h) (fun _ => H3.out)
        · have H3 := Lib.hid h3
          have HS3 : Hid (S0 W3) := HX.out _ h3
          clear hy h3
          gi_wp2
          (with_reducible refine outQ_normal ?_ ?_); exact ⟨⟨_, HS3.out⟩, rfl⟩
          (repeat ((with_reducible refine wpMix_take (by with_unfolding_all exact rfl) ?_); (with_reducible (show wpQuiet _ _ _ _ (_ :: _) _)); go_big_quiet_step (fail); (with_reducible refine wpQuiet_nil ?_)))
          ((with_reducible refine wpMix_skip (by with_unfolding_all exact rfl) (by with_unfolding_all exact rfl) ⟨⟨_, HS3.out⟩, rfl⟩ ?_); simp only [Act.put, List.setIfInBounds_toArray, List.set_cons_succ, List.set_cons_zero])
          ((with_reducible refine wpMix_skip (by with_unfolding_all exact rfl) (by with_unfolding_all exact rfl) ⟨⟨_, HS3.out⟩, rfl⟩ ?_); simp only [Act.put, List.setIfInBounds_toArray, List.set_cons_succ, List.set_cons_zero])
          (repeat ((with_reducible refine wpMix_take (by with_unfolding_all exact rfl) ?_); (with_reducible (show wpQuiet _ _ _ _ (_ :: _) _)); go_big_quiet_step (fail); (with_reducible refine wpQuiet_nil ?_)))
          with_reducible refine wpMix_nil ?_
          refine NoPanic.normal ?_
          exact HQ.out _ _ _ _ _ _ _ _ _ _ _ _ _ _ _ _ _ _ _ _ _ _ _ true W3 (fun _ => H3.out) (fun h => by cases h)
    | false =>
        refine wpIn_noPanic ?_
        refine region_mix (inS S0) [(true,0),(true,1),(false,2),(true,3),(true,4),(true,5),(true,6),(true,7),(true,8),(true,9),(true,10),(true,11),(true,12),(true,13),(true,14),(true,15),(true,16),(true,17),(true,18),(false,19),(false,20),(true,21),(true,22),(true,23)] hmx (by kernel_rfl) (fun _ _ _ _ _ h => h) ⟨⟨_, HW.out⟩, rfl⟩ ?_
        (repeat ((with_reducible refine wpMix_take (by with_unfolding_all exact rfl) ?_); (with_reducible (show wpQuiet _ _ _ _ (_ :: _) _)); go_big_quiet_step (fail); (with_reducible refine wpQuiet_nil ?_)))
        (with_reducible refine wpMix_one (by with_unfolding_all exact rfl) ?_)
        gi_wp2
        refine HRd.out.mono ?_
        rintro e W3 (⟨rfl, h3⟩ | ⟨rfl, h3⟩)
        · have H3 := Lib.hid h3
          have HS3 : Hid (S0 W3) := HA.out _ h3
          have HNo := Lib.hid (nought_any C sz hsz W3 (HS.out _ HS3.out).2.2.2.2.2.2.2)
          obtain ⟨fn2, tmps2, assign2, body2, hy2, hR2⟩ := HY2.out (by trivial) (by trivial) W3 _ h3 (show Below W3.heap.size W3 (W3.alloc (.cells (madeCells #[.int .u8 0] sz) 5)) by (repeat (first | (with_reducible refine Below.drew ?_) | (with_reducible refine below_drewN0 ?_ _) | ((with_reducible refine Below.setCell ?_ ?_ _); rotate_left; focus (first | omega | (simp; done) | (simp; omega) | (simp at *; omega))) | ((with_reducible refine Below.alloc ?_ ?_ _); rotate_left; focus (first | omega | (simp; done) | (simp; omega) | (simp at *; omega))) | (with_reducible exact Below.refl _ _))))
          have HR2 := Lib.hid hR2
          have HS4 : Hid (S0 (W3.alloc (.cells (madeCells #[.int .u8 0] sz) 5))) := HSb.out _ _ HS3.out (by (repeat (first | (with_reducible refine Below.drew ?_) | (with_reducible refine below_drewN0 ?_ _) | ((with_reducible refine Below.setCell ?_ ?_ _); rotate_left; focus (first | omega | (simp; done) | (simp; omega) | (simp at *; omega))) | ((with_reducible refine Below.alloc ?_ ?_ _); rotate_left; focus (first | omega | (simp; done) | (simp; omega) | (simp at *; omega))) | (with_reducible exact Below.refl _ _))))
          clear hy h3 hR2
          gi_wp2
          (with_reducible refine outQ_normal ?_ ?_); exact ⟨⟨_, HS3.out⟩, rfl⟩
          (repeat ((with_reducible refine wpMix_take (by with_unfolding_all exact rfl) ?_); (with_reducible (show wpQuiet _ _ _ _ (_ :: _) _)); go_big_quiet_step (fail); (with_reducible refine wpQuiet_nil ?_)))
          (with_reducible refine wpMix_one (by with_unfolding_all exact rfl) ?_)
          gi_wp2_with fail
          refine ((callsIn_wide (n := n - 1)).2 HNo.out).mono ?_
          rintro e W4 ⟨rfl, hW4⟩
          subst hW4
          gi_wp2
          (with_reducible refine outQ_normal ?_ ?_); exact ⟨⟨_, HS4.out⟩, rfl⟩
          (with_reducible refine wpMix_one (by with_unfolding_all exact rfl) ?_)
          gi_wp2
          refine HR2.out.mono ?_
          rintro e W5 (⟨rfl, h5⟩ | ⟨rfl, h5⟩)
          · have H5 := Lib.hid h5
            have HS5 : Hid (S0 W5) := HB.out _ h5
            clear hy2 h5
            gi_wp2
            (with_reducible refine outQ_normal ?_ ?_); exact ⟨⟨_, HS5.out⟩, rfl⟩
            (repeat ((with_reducible refine wpMix_take (by with_unfolding_all exact rfl) ?_); (with_reducible (show wpQuiet _ _ _ _ (_ :: _) _)); go_big_quiet_step (fail); (with_reducible refine wpQuiet_nil ?_)))
            with_reducible refine wpMix_nil ?_
            refine NoPanic.normal ?_
            exact HQ.out _ _ _ _ _ _ _ _ _ _ _ _ _ _ _ _ _ _ _ _ _ _ _ false W5 (fun h => by cases h) (fun _ => H5.out)
          · have H5 := Lib.hid h5
            have HS5 : Hid (S0 W5) := HX.out _ h5
            clear hy2 h5
            gi_wp2
            (with_reducible refine outQ_normal ?_ ?_); exact ⟨⟨_, HS5.out⟩, rfl⟩
            (repeat ((with_reducible refine wpMix_take (by with_unfolding_all exact rfl) ?_); (with_reducible (show wpQuiet _ _ _ _ (_ :: _) _)); go_big_quiet_step (fail); (with_reducible refine wpQuiet_nil ?_)))
            with_reducible refine wpMix_nil ?_
            refine NoPanic.normal ?_
            exact HQ.out _ _ _ _ _ _ _ _ _ _ _ _ _ _ _ _ _ _ _ _ _ _ _ true W5 (fun _ => H5.out) (fun h => by cases h)
        · have H3 := Lib.hid h3
          have HS3 : Hid (S0 W3) := HX.out _ h3
          clear hy h3
          gi_wp2
          (with_reducible refine outQ_normal ?_ ?_); exact ⟨⟨_, HS3.out⟩, rfl⟩
          (repeat ((with_reducible refine wpMix_take (by with_unfolding_all exact rfl) ?_); (with_reducible (show wpQuiet _ _ _ _ (_ :: _) _)); go_big_quiet_step (fail); (with_reducible refine wpQuiet_nil ?_)))
          ((with_reducible refine wpMix_skip (by with_unfolding_all exact rfl) (by with_unfolding_all exact rfl) ⟨⟨_, HS3.out⟩, rfl⟩ ?_); simp only [Act.put, List.setIfInBounds_toArray, List.set_cons_succ, List.set_cons_zero])
          ((with_reducible refine wpMix_skip (by with_unfolding_all exact rfl) (by with_unfolding_all exact rfl) ⟨⟨_, HS3.out⟩, rfl⟩ ?_); simp only [Act.put, List.setIfInBounds_toArray, List.set_cons_succ, List.set_cons_zero])
          (repeat ((with_reducible refine wpMix_take (by with_unfolding_all exact rfl) ?_); (with_reducible (show wpQuiet _ _ _ _ (_ :: _) _)); go_big_quiet_step (fail); (with_reducible refine wpQuiet_nil ?_)))
          with_reducible refine wpMix_nil ?_
          refine NoPanic.normal ?_
          exact HQ.out _ _ _ _ _ _ _ _ _ _ _ _ _ _ _ _ _ _ _ _ _ _ _ true W3 (fun _ => H3.out) (fun h => by cases h)
end Go.Proofs.Ytomigaldomiefaa
