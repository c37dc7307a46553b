/- A region that draws its order, walked in the fence that lets all in: its reads first, then the others in the one order that they can have. For regions that call yield: those no plain walk serves. -/
import Derived.Test.YtomigaldomiefaaSeq
import Derived.OrdersIn
import Derived.TacticsIn
namespace Go.Proofs.Ytomigaldomiefaa
open Go.RowKit
set_option linter.unusedVariables false
set_option linter.unusedSimpArgs false

section
variable {P : Program} {n : Nat} {ops : Array Oper} {Q : Exit → Act → World → Prop} {md : Region.Mode} {S : World → Prop}
theorem sem_wide (o : Oper) (ρ : Operand → Value) : o.semAt Fence.wide.round ρ = execOp ρ o := Oper.semAt_none ρ o
theorem opIn_yields {i : Nat} {o : Oper} {v : Value} {a : Act} (hi : ops[i]? = some o) (hy : YieldsIf P ops S o v a) {K : Act → World → Prop} {w : World} (hS : S w) (h : K (a.put o.dst v) w) : wpOpIn Fence.wide n P ops Q i K a w := by
  unfold wpOpIn
  simp only [hi]
  rcases hy with ⟨hw, hv⟩ | ⟨hw, rfl⟩
  · rw [if_pos hw]
    unfold Oper.wpIn
    rw [sem_wide, hv w hS]
    exact ⟨fun _ _ => trivial, h⟩
  · rw [if_neg (by rw [hw]; simp)]
    exact ⟨fun _ _ => trivial, h⟩
theorem opIn_putIf {j : Nat} {oi oj : Oper} {v : Value} (hj : ops[j]? = some oj) (hap : oi.apart ops oj = true) (hsi : ∀ cs b, oi.op ≠ .select cs b) (hsj : ∀ cs b, oj.op ≠ .select cs b)
    (hQ : ∀ c a w, Q (.panic c) (a.put oi.dst v) w → Q (.panic c) a w) {K : Act → World → Prop} {a : Act} {w : World} (hy : YieldsIf P ops S oi v a) (h : wpOpIn Fence.wide n P ops Q j K (a.put oi.dst v) w) :
    wpOpIn Fence.wide n P ops Q j (fun a' w' => YieldsIf P ops S oi v a' ∧ K (a'.put oi.dst v) w') a w := by
  obtain ⟨h1, h2, h3⟩ := Oper.apart_spec hap
  have keep : ∀ (a : Act), YieldsIf P ops S oi v a → ∀ u, YieldsIf P ops S oi v (a.put oj.dst u) := fun a hy u => hy.of_same (execOp_put oi hsi a oj.dst u h3) (wanted_put oi a oj.dst u h3)
  have keepD : ∀ d, YieldsIf P ops S oi v { a with defers := d :: a.defers } := fun d => hy.of_same rfl rfl
  unfold wpOpIn at *
  simp only [hj] at *
  rw [wanted_put oj a oi.dst v h1] at h
  by_cases hw : Region.wanted oj (yielded ops a.tmps) = true
  · rw [if_pos hw] at h ⊢
    unfold Oper.wpIn at *
    refine ⟨fun _ _ => trivial, ?_⟩
    have h := h.2
    rw [sem_wide] at h ⊢
    rw [execOp_put oj hsj a oi.dst v h1] at h
    generalize (execOp a.eval oj).run P w = r at *
    cases r with
    | ok x w' =>
      cases x <;> simp only [Oper.uponIn] at h ⊢
      case value u => exact ⟨keep a hy u, by rw [← Act.put_comm a v u h2]; exact h⟩
      case skip => exact ⟨keep a hy _, by rw [← Act.put_comm a v undef h2]; exact h⟩
      case defer d =>
        refine ⟨keep _ (keepD d) _, ?_⟩
        rw [← Act.put_comm _ v undef h2, ← Act.put_defers]
        exact h
      case enter f args =>
        refine ⟨h.1, CallsIn.mono h.2 fun e w'' he => ?_⟩
        cases e with
        | returned u => exact ⟨keep a hy u, by rw [← Act.put_comm a v u h2]; exact he⟩
        | panicked c => exact hQ _ _ _ he
        | outgrown => exact he
      case row row args => exact ⟨h.1, RowsIn.mono h.2 fun u w'' he => ⟨keep a hy u, by rw [← Act.put_comm a v u h2]; exact he⟩⟩
      case round l f t asg b =>
        refine ⟨h.1, RoundIn.mono h.2 fun e w'' he => ?_⟩
        cases e with
        | returned u => exact ⟨keep a hy u, by rw [← Act.put_comm a v u h2]; exact he⟩
        | panicked c => exact hQ _ _ _ he
        | outgrown => exact he
    | halt x w' =>
      cases x <;> simp only [Oper.uponIn] at h ⊢
      case panic u => exact hQ _ _ _ h
  · rw [if_neg hw] at h ⊢
    exact ⟨fun _ _ => trivial, keep a hy _, by rw [← Act.put_comm a v undef h2]; exact h.2⟩
/-- S is shown anew behind each. -/
def wpAnyHI (n : Nat) (P : Program) (md : Region.Mode) (ops : Array Oper) (Q : Exit → Act → World → Prop) (S : World → Prop) : Nat → Array Bool → Act → World → Prop
  | 0, listed, a, w => Region.ready md ops listed = [] ∧ Q .normal a w
  | fuel + 1, listed, a, w => (Region.ready md ops listed = [] → Q .normal a w) ∧ ∀ i ∈ Region.ready md ops listed, wpOpIn Fence.wide n P ops Q i (fun a' w' => S w' ∧ wpAnyHI n P md ops Q S fuel (listed.setIfInBounds i true) a' w') a w
theorem anyHI_sound : ∀ (fuel : Nat) (listed : Array Bool) (a : Act) (w : World), wpAnyHI n P md ops Q S fuel listed a w → wpAnyIn Fence.wide n P md ops Q fuel listed a w
  | 0, _, _, _, h => h
  | fuel + 1, _, _, _, h => ⟨h.1, fun i hi => wpOpIn_mono (fun a' w' h' => anyHI_sound fuel _ a' w' h'.2) (h.2 i hi)⟩
theorem anyHI_first {i : Nat} {oi : Oper} {v : Value} (hi : ops[i]? = some oi) (hsel : ∀ (j : Nat) (o : Oper) cs b, ops[j]? = some o → o.op ≠ .select cs b) (hQ : ∀ c a w, Q (.panic c) (a.put oi.dst v) w → Q (.panic c) a w) :
    ∀ (fuel : Nat) (listed : Array Bool) (a : Act) (w : World),
      (∀ j oj, ops[j]? = some oj → j ≠ i → listed.getD j true = false → (∀ e ∈ oj.after, Region.binds md e = true → e.on ≠ i) → oi.apart ops oj = true) →
      i ∈ Region.ready md ops listed → YieldsIf P ops S oi v a → S w → wpAnyHI n P md ops Q S fuel (listed.setIfInBounds i true) (a.put oi.dst v) w → wpAnyHI n P md ops Q S (fuel + 1) listed a w := by
  intro fuel
  induction fuel with
  | zero =>
    intro listed a w _ hr hy hS H
    refine ⟨fun h => (by rw [h] at hr; cases hr), fun j hj => ?_⟩
    by_cases hji : j = i
    · subst hji; exact opIn_yields hi hy hS ⟨hS, H⟩
    · have := ready_mono hj hji
      rw [H.1] at this
      cases this
  | succ fuel ih =>
    intro listed a w hfree hr hy hS H
    refine ⟨fun h => (by rw [h] at hr; cases hr), fun j hj => ?_⟩
    by_cases hji : j = i
    · subst hji; exact opIn_yields hi hy hS ⟨hS, H⟩
    · have h1 := H.2 j (ready_mono hj hji)
      obtain ⟨hjun, oj, hoj, hall⟩ := mem_ready.1 hj
      have hnot : ∀ e ∈ oj.after, Region.binds md e = true → e.on ≠ i := fun e he hb heq => by
        have h1 := hall e he hb
        have h0 := (mem_ready.1 hr).1
        rw [heq] at h1
        rcases Nat.lt_or_ge i listed.size with h' | h'
        · simp [h'] at h0 h1; rw [h0] at h1; cases h1
        · simp [Array.getElem?_eq_none h'] at h1
      have h2 := opIn_putIf hoj (hfree j oj hoj hji hjun hnot) (fun cs b => hsel i oi cs b hi) (fun cs b => hsel j oj cs b hoj) hQ hy h1
      have hfree' : ∀ k ok, ops[k]? = some ok → k ≠ i → (listed.setIfInBounds j true).getD k true = false → (∀ e ∈ ok.after, Region.binds md e = true → e.on ≠ i) → oi.apart ops ok = true := fun k ok hk hki hun hno => by
        refine hfree k ok hk hki ?_ hno
        by_cases hjk : j = k
        · subst hjk; exact hjun
        · rw [getD_set_ne true hjk] at hun; exact hun
      refine wpOpIn_mono (fun a' w' h3 => ⟨h3.2.1, ih (listed.setIfInBounds j true) a' w' hfree' (ready_mono hr (Ne.symm hji)) h3.1 h3.2.1 ?_⟩) h2
      rw [Array.setIfInBounds_comm _ _ hji]
      exact h3.2.2
theorem anyHI_take {i : Nat} {oi : Oper} {v : Value} {fuel : Nat} {listed : Array Bool} {a : Act} {w : World} (hi : ops[i]? = some oi) (hs : Region.noSelect ops = true) (hf : Region.free md ops listed i = true) (hr : (Region.ready md ops listed).contains i = true)
    (hQ : ∀ c a w, Q (.panic c) (a.put oi.dst v) w → Q (.panic c) a w) (hy : YieldsIf P ops S oi v a) (hS : S w) (h : wpAnyHI n P md ops Q S fuel (listed.setIfInBounds i true) (a.put oi.dst v) w) : wpAnyHI n P md ops Q S (fuel + 1) listed a w :=
  anyHI_first hi (Region.noSelect_spec hs) hQ fuel listed a w (Region.free_spec hi hf) (by simpa using hr) hy hS h
theorem anyHI_one {i : Nat} {fuel : Nat} {listed : Array Bool} {a : Act} {w : World} (hr : Region.ready md ops listed = [i]) (h : wpOpIn Fence.wide n P ops Q i (fun a' w' => S w' ∧ wpAnyHI n P md ops Q S fuel (listed.setIfInBounds i true) a' w') a w) : wpAnyHI n P md ops Q S (fuel + 1) listed a w :=
  ⟨fun h0 => (by rw [hr] at h0; cases h0), fun j hj => by rw [hr] at hj; rw [List.mem_singleton.1 hj]; exact h⟩
theorem anyHI_done {listed : Array Bool} {a : Act} {w : World} (hr : Region.ready md ops listed = []) (h : Q .normal a w) : ∀ fuel, wpAnyHI n P md ops Q S fuel listed a w
  | 0 => ⟨hr, h⟩
  | _ + 1 => ⟨fun _ => h, by rw [hr]; simp⟩
/-- One operation after the other, in the fence; behind each S is shown anew. -/
def wpSeqI (n : Nat) (P : Program) (ops : Array Oper) (S : World → Prop) (Q : Exit → Act → World → Prop) : List Oper → Act → World → Prop
  | [], a, w => Q .normal a w
  | o :: rest, a, w => wpListIn Fence.wide n P ops (outQ Q fun a' w' => S w' ∧ wpSeqI n P ops S Q rest a' w') [o] a w
theorem oper_wpIn_post {o : Oper} {a : Act} {w : World} {K : Act → World → Prop} {Q Q' : Exit → Act → World → Prop} (hp : ∀ c a w, Q (.panic c) a w → Q' (.panic c) a w) (ho : LetsOut Q → LetsOut Q') (h : o.wpIn Fence.wide n P a w K Q) : o.wpIn Fence.wide n P a w K Q' := by
  unfold Oper.wpIn at *
  refine ⟨h.1, ?_⟩
  have h := h.2
  generalize (o.semAt Fence.wide.round a.eval).run P w = r at *
  cases r with
  | ok x w' =>
    cases x <;> simp only [Oper.uponIn] at h ⊢ <;>
      first
        | exact h
        | exact ⟨h.1, CallsIn.mono h.2 (fun e w'' he => by cases e <;> first | exact he | exact hp _ _ _ he | exact ho he)⟩
        | exact ⟨h.1, RoundIn.mono h.2 (fun e w'' he => by cases e <;> first | exact he | exact hp _ _ _ he | exact ho he)⟩
  | halt x w' => cases x <;> simp only [Oper.uponIn] at h ⊢ <;> first | exact h | exact hp _ _ _ h
theorem letsOut_out {Q : Exit → Act → World → Prop} {N : Act → World → Prop} (h : LetsOut (outQ Q N)) : LetsOut Q := by
  obtain ⟨a, w, h⟩ := h; exact ⟨a, w, h⟩
end
section
variable {P : Program} {n : Nat} {l : List Oper} {Q : Exit → Act → World → Prop} {S : World → Prop}
theorem opIn_of_list {i : Nat} {o : Oper} (ho : l[i]? = some o) {N : Act → World → Prop} {K : Act → World → Prop} {a : Act} {w : World} (hK : ∀ a w, N a w → K a w) (h : wpListIn Fence.wide n P l.toArray (outQ Q N) [o] a w) : wpOpIn Fence.wide n P l.toArray Q i K a w := by
  have ho' : l.toArray[i]? = some o := by simpa using ho
  unfold wpOpIn
  simp only [ho']
  unfold wpListIn at h
  by_cases hw : Region.wanted o (yielded l.toArray a.tmps) = true
  · rw [if_pos hw] at h ⊢
    exact oper_wpIn_post (fun c a w h => h) (fun h => letsOut_out (N := N) h) (Oper.wpIn_mono (fun a w h => hK a w h) h)
  · rw [if_neg hw] at h ⊢
    exact ⟨h.1, hK _ _ h.2⟩
theorem anyHI_chain : ∀ (ts : List Nat) (listed : Array Bool) (a : Act) (w : World), chainB l.toArray listed ts = true → (∀ i ∈ ts, ∃ o, l[i]? = some o) → wpSeqI n P l.toArray S Q (ts.filterMap (l[·]?)) a w → wpAnyHI n P .any l.toArray Q S ts.length listed a w
  | [], listed, a, w, hB, _, h => anyHI_done (by simpa [chainB] using hB) h _
  | t :: ts, listed, a, w, hB, hr, h => by
    obtain ⟨o, ho⟩ := hr t (by simp)
    simp only [chainB, Bool.and_eq_true, beq_iff_eq] at hB
    rw [List.filterMap_cons, ho] at h
    refine anyHI_one hB.1 ?_
    exact opIn_of_list ho (fun a' w' h' => ⟨h'.1, anyHI_chain ts _ a' w' hB.2 (fun j hj => hr j (by simp [hj])) h'.2⟩) h
theorem anyHI_takes (hs : Region.noSelect l.toArray = true) : ∀ (rs : List Nat) (fuel : Nat) (listed : Array Bool) (a : Act) (w : World), takesB l.toArray listed rs = true → (∀ i ∈ rs, ∃ o, l[i]? = some o ∧ yieldsOnly o = true) → S w →
    (∀ c (a : Act) d v w, Q (.panic c) (a.put d v) w → Q (.panic c) a w) →
    wpQuiet P l.toArray S (fun a' => wpAnyHI n P .any l.toArray Q S fuel (listAll listed rs) a' w) (rs.filterMap (l[·]?)) a → wpAnyHI n P .any l.toArray Q S (fuel + rs.length) listed a w
  | [], fuel, listed, a, w, _, _, _, _, h => by simpa [listAll, wpQuiet] using h
  | i :: rs, fuel, listed, a, w, hB, hr, hS, hQ, h => by
    obtain ⟨o, ho, hy⟩ := hr i (by simp)
    simp only [takesB, Bool.and_eq_true] at hB
    obtain ⟨⟨hf, hc⟩, hB⟩ := hB
    have ho' : l.toArray[i]? = some o := by simpa using ho
    rw [List.filterMap_cons, ho] at h
    simp only at h
    unfold wpQuiet at h
    have key : ∃ v, YieldsIf P l.toArray S o v a ∧ wpQuiet P l.toArray S (fun a' => wpAnyHI n P .any l.toArray Q S fuel (listAll listed (i :: rs)) a' w) (rs.filterMap (l[·]?)) (a.put o.dst v) := by
      by_cases hw : Region.wanted o (yielded l.toArray a.tmps) = true
      · rw [if_pos hw] at h
        obtain ⟨v, hv, hn⟩ := h
        refine ⟨v, .inl ⟨hw, fun w1 hw1 => ?_⟩, hn⟩
        have h1 := hv w1 hw1
        unfold Oper.quietAt at h1
        cases hx : (execOp a.eval o).run P w1 with
        | halt x w2 => rw [hx] at h1; exact h1.elim
        | ok r w2 =>
          obtain ⟨v2, rfl⟩ := yieldsOnly_spec hy _ hx
          rw [hx] at h1
          obtain ⟨rfl, rfl⟩ := h1
          rfl
      · rw [if_neg hw] at h
        exact ⟨undef, .inr ⟨by simpa using hw, rfl⟩, h⟩
    obtain ⟨v, hy', hn⟩ := key
    refine anyHI_take ho' hs hf hc (fun c a' w' h' => hQ c a' _ _ w' h') hy' hS ?_
    exact anyHI_takes hs rs fuel _ _ w hB (fun j hj => hr j (by simp [hj])) hS hQ hn
def seqIB (l : List Oper) (rs ts : List Nat) : Bool :=
  Region.noSelect l.toArray && takesB l.toArray (Array.replicate l.length false) rs && chainB l.toArray (listAll (Array.replicate l.length false) rs) ts && decide (rs.length + ts.length = l.length) &&
  rs.all (fun i => atB l i yieldsOnly) && ts.all (fun i => decide (i < l.length))
/-- **A REGION THAT DRAWS ITS ORDER, IN THE FENCE**: its reads (rs) first; the others (ts) in their one order. -/
theorem region_in {id : Nat} {a : Act} {w : World} (B : List Nat) (rs ts : List Nat) (hm : P.follows .mixedOrders = true) (hB : seqIB l rs ts = true) (hQ : ∀ c (a : Act) d v w, Q (.panic c) (a.put d v) w → Q (.panic c) a w)
    (h : wpQuiet P l.toArray (fun u => ∃ t : Kept w B, u = t.u) (fun a' => wpSeqI n P l.toArray (fun u => Turns w u B) Q (ts.filterMap (l[·]?)) a' w.drew) (rs.filterMap (l[·]?)) a) : (Code.region id l.toArray true).wpIn Fence.wide n P Q a w := by
  have e : (fun u => ∃ t : Kept w B, u = t.u) = fun u => Turns w u B := by
    funext u; apply propext
    exact ⟨fun ⟨t, e⟩ => by subst e; exact t.h, fun h => ⟨⟨u, h⟩, rfl⟩⟩
  rw [e] at h
  simp only [seqIB, Bool.and_eq_true, decide_eq_true_eq, List.all_eq_true] at hB
  obtain ⟨⟨⟨⟨⟨h1, h2⟩, h3⟩, h4⟩, h5⟩, h6⟩ := hB
  refine wpIn_region_any hm ?_
  have hsz : l.toArray.size = l.length := by simp
  rw [hsz]
  have := anyHI_takes (P := P) (n := n) (S := fun u => Turns w u B) (Q := Q) h1 rs ts.length (Array.replicate l.length false) a w.drew h2 (fun i hi => by
    obtain ⟨o, ho, hy⟩ := atB_spec (h5 i hi)
    exact ⟨o, ho, hy⟩) (Turns.refl w B).drew hQ (quiet_imp (fun a' h' => anyHI_chain ts _ a' w.drew h3 (fun i hi => ⟨_, List.getElem?_eq_getElem (by simpa using h6 i hi)⟩) h') _ _ h)
  rw [Nat.add_comm, h4] at this
  exact anyHI_sound _ _ _ _ this
/-! Reads and others by turns: (true, i): i may be taken now, whatever else may come up; (false, i): i is the one that may come up. -/
def mixB (ops : Array Oper) : Array Bool → List (Bool × Nat) → Bool
  | listed, [] => (Region.ready .any ops listed).isEmpty
  | listed, (true, i) :: s => Region.free .any ops listed i && (Region.ready .any ops listed).contains i && mixB ops (listed.setIfInBounds i true) s
  | listed, (false, i) :: s => (Region.ready .any ops listed) == [i] && mixB ops (listed.setIfInBounds i true) s
def wpMix (n : Nat) (P : Program) (l : List Oper) (S : World → Prop) (Q : Exit → Act → World → Prop) : List (Bool × Nat) → Act → World → Prop
  | [], a, w => Q .normal a w
  | (true, i) :: s, a, w => match l[i]? with | some o => wpQuiet P l.toArray S (fun a' => wpMix n P l S Q s a' w) [o] a | none => False
  | (false, i) :: s, a, w => match l[i]? with | some o => wpListIn Fence.wide n P l.toArray (outQ Q fun a' w' => S w' ∧ wpMix n P l S Q s a' w') [o] a w | none => False
theorem wpMix_take {i : Nat} {o : Oper} {s : List (Bool × Nat)} {a : Act} {w : World} (ho : l[i]? = some o) (h : wpQuiet P l.toArray S (fun a' => wpMix n P l S Q s a' w) [o] a) : wpMix n P l S Q ((true, i) :: s) a w := by
  unfold wpMix; rw [ho]; exact h
theorem wpMix_one {i : Nat} {o : Oper} {s : List (Bool × Nat)} {a : Act} {w : World} (ho : l[i]? = some o) (h : wpListIn Fence.wide n P l.toArray (outQ Q fun a' w' => S w' ∧ wpMix n P l S Q s a' w') [o] a w) : wpMix n P l S Q ((false, i) :: s) a w := by
  unfold wpMix; rw [ho]; exact h
theorem wpMix_nil {a : Act} {w : World} (h : Q .normal a w) : wpMix n P l S Q [] a w := h
theorem anyHI_mix (hs : Region.noSelect l.toArray = true) (hQ : ∀ c (a : Act) d v w, Q (.panic c) (a.put d v) w → Q (.panic c) a w) : ∀ (s : List (Bool × Nat)) (listed : Array Bool) (a : Act) (w : World), mixB l.toArray listed s = true → (∀ i, (true, i) ∈ s → atB l i yieldsOnly = true) → S w →
    wpMix n P l S Q s a w → wpAnyHI n P .any l.toArray Q S s.length listed a w
  | [], listed, a, w, hB, _, _, h => anyHI_done (by simpa [mixB] using hB) h _
  | (true, i) :: s, listed, a, w, hB, hy, hS, h => by
    obtain ⟨o, ho, hyo⟩ := atB_spec (hy i (by simp))
    simp only [mixB, Bool.and_eq_true] at hB
    obtain ⟨⟨hf, hc⟩, hB⟩ := hB
    have ho' : l.toArray[i]? = some o := by simpa using ho
    unfold wpMix at h
    rw [ho] at h
    simp only [wpQuiet] at h
    have key : ∃ v, YieldsIf P l.toArray S o v a ∧ wpMix n P l S Q s (a.put o.dst v) w := by
      by_cases hw : Region.wanted o (yielded l.toArray a.tmps) = true
      · rw [if_pos hw] at h
        obtain ⟨v, hv, hn⟩ := h
        refine ⟨v, .inl ⟨hw, fun w1 hw1 => ?_⟩, hn⟩
        have h1 := hv w1 hw1
        unfold Oper.quietAt at h1
        cases hx : (execOp a.eval o).run P w1 with
        | halt x w2 => rw [hx] at h1; exact h1.elim
        | ok r w2 =>
          obtain ⟨v2, rfl⟩ := yieldsOnly_spec hyo _ hx
          rw [hx] at h1
          obtain ⟨rfl, rfl⟩ := h1
          rfl
      · rw [if_neg hw] at h
        exact ⟨undef, .inr ⟨by simpa using hw, rfl⟩, h⟩
    obtain ⟨v, hy', hn⟩ := key
    refine anyHI_take ho' hs hf hc (fun c a' w' h' => hQ c a' _ _ w' h') hy' hS ?_
    exact anyHI_mix hs hQ s _ _ w hB (fun j hj => hy j (by simp [hj])) hS hn
  | (false, i) :: s, listed, a, w, hB, hy, hS, h => by
    simp only [mixB, Bool.and_eq_true, beq_iff_eq] at hB
    unfold wpMix at h
    cases ho : l[i]? with
    | none => rw [ho] at h; exact h.elim
    | some o =>
      rw [ho] at h
      refine anyHI_one hB.1 ?_
      exact opIn_of_list ho (fun a' w' h' => ⟨h'.1, anyHI_mix hs hQ s _ a' w' hB.2 (fun j hj => hy j (by simp [hj])) h'.1 h'.2⟩) h
def mixAllB (l : List Oper) (s : List (Bool × Nat)) : Bool :=
  Region.noSelect l.toArray && mixB l.toArray (Array.replicate l.length false) s && decide (s.length = l.length) && s.all (fun x => !x.1 || atB l x.2 yieldsOnly)
/-- **A REGION THAT DRAWS ITS ORDER, IN THE FENCE**: by the turns s; behind each other operation S is shown anew. -/
theorem region_mix {id : Nat} {a : Act} {w : World} (S : World → Prop) (s : List (Bool × Nat)) (hm : P.follows .mixedOrders = true) (hB : mixAllB l s = true) (hQ : ∀ c (a : Act) d v w, Q (.panic c) (a.put d v) w → Q (.panic c) a w) (hS : S w.drew)
    (h : wpMix n P l S Q s a w.drew) : (Code.region id l.toArray true).wpIn Fence.wide n P Q a w := by
  simp only [mixAllB, Bool.and_eq_true, decide_eq_true_eq, List.all_eq_true] at hB
  obtain ⟨⟨⟨h1, h2⟩, h3⟩, h4⟩ := hB
  refine wpIn_region_any hm ?_
  have hsz : l.toArray.size = l.length := by simp
  rw [hsz]
  have := anyHI_mix (P := P) (n := n) (S := S) (Q := Q) h1 hQ s (Array.replicate l.length false) a w.drew h2 (fun i hi => by simpa using h4 (true, i) hi) hS h
  rw [h3] at this
  exact anyHI_sound _ _ _ _ this
/-- Nothing is owed of a panic that cannot be. -/
theorem wpIn_noPanic {c : Code} {a : Act} {w : World} (h : c.wpIn Fence.wide n P (NoPanic Q) a w) : c.wpIn Fence.wide n P Q a w := wpIn_mono h NoPanic.imp
end
end Go.Proofs.Ytomigaldomiefaa
