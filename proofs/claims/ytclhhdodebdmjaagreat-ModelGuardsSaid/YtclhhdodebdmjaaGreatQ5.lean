/- What follows is laid together from several texts of mine, in their order. -/
import Derived.Test.YtclhhdodebdmjaaGreatQ4
import Derived.OrdersIn
import Derived.TacticsIn

namespace Go.Proofs.YtclhhdodebdmjaaGreat
open Go.RowKit
set_option linter.unusedVariables false
set_option linter.unusedSimpArgs false

section
variable {P : Program} {n : Nat} {ops : Array Oper} {Q : Exit → Act → World → Prop} {md : Region.Mode} {S : World → Prop}
theorem sem_wide (o : Oper) (ρ : Operand → Value) : o.semAt Fence.wide.round ρ = execOp ρ o := Oper.semAt_none ρ o
theorem opIn_yields {i : Nat} {o : Oper} {v : Value} {a : Act} (hi : ops[i]? = some o) (hy : YieldsIf P ops S o v a) {K : Act → World → Prop} {w : World} (hS : S w) (h : K (a.put o.dst v) w) : wpOpIn Fence.wide n P ops Q i K a w := by
  unfold wpOpIn
  simp only [hi]
  rcases hy with ⟨hw, hv⟩ | ⟨hw, rfl⟩
  · rw [if_pos hw]
    unfold Oper.wpIn
    rw [sem_wide, hv w hS]
    exact ⟨fun _ _ => trivial, h⟩
  · rw [if_neg (by rw [hw]; simp)]
    exact ⟨fun _ _ => trivial, h⟩
theorem opIn_putIf {j : Nat} {oi oj : Oper} {v : Value} (hj : ops[j]? = some oj) (hap : oi.apart ops oj = true) (hsi : ∀ cs b, oi.op ≠ .select cs b) (hsj : ∀ cs b, oj.op ≠ .select cs b)
    (hQ : ∀ c a w, Q (.panic c) (a.put oi.dst v) w → Q (.panic c) a w) {K : Act → World → Prop} {a : Act} {w : World} (hy : YieldsIf P ops S oi v a) (h : wpOpIn Fence.wide n P ops Q j K (a.put oi.dst v) w) :
    wpOpIn Fence.wide n P ops Q j (fun a' w' => YieldsIf P ops S oi v a' ∧ K (a'.put oi.dst v) w') a w := by
  obtain ⟨h1, h2, h3⟩ := Oper.apart_spec hap
  have keep : ∀ (a : Act), YieldsIf P ops S oi v a → ∀ u, YieldsIf P ops S oi v (a.put oj.dst u) := fun a hy u => hy.of_same (execOp_put oi hsi a oj.dst u h3) (wanted_put oi a oj.dst u h3)
  have keepD : ∀ d, YieldsIf P ops S oi v { a with defers := d :: a.defers } := fun d => hy.of_same rfl rfl
  unfold wpOpIn at *
  simp only [hj] at *
  rw [wanted_put oj a oi.dst v h1] at h
  by_cases hw : Region.wanted oj (yielded ops a.tmps) = true
  · rw [if_pos hw] at h ⊢
    unfold Oper.wpIn at *
    refine ⟨fun _ _ => trivial, ?_⟩
    have h := h.2
    rw [sem_wide] at h ⊢
    rw [execOp_put oj hsj a oi.dst v h1] at h
    generalize (execOp a.eval oj).run P w = r at *
    cases r with
    | ok x w' =>
      cases x <;> simp only [Oper.uponIn] at h ⊢
      case value u => exact ⟨keep a hy u, by rw [← Act.put_comm a v u h2]; exact h⟩
      case skip => exact ⟨keep a hy _, by rw [← Act.put_comm a v undef h2]; exact h⟩
      case defer d =>
        refine ⟨keep _ (keepD d) _, ?_⟩
        rw [← Act.put_comm _ v undef h2, ← Act.put_defers]
        exact h
      case enter f args =>
        refine ⟨h.1, CallsIn.mono h.2 fun e w'' he => ?_⟩
        cases e with
        | returned u => exact ⟨keep a hy u, by rw [← Act.put_comm a v u h2]; exact he⟩
        | panicked c => exact hQ _ _ _ he
        | outgrown => exact he
      case row row args => exact ⟨h.1, RowsIn.mono h.2 fun u w'' he => ⟨keep a hy u, by rw [← Act.put_comm a v u h2]; exact he⟩⟩
      case round l f t asg b =>
        refine ⟨h.1, RoundIn.mono h.2 fun e w'' he => ?_⟩
        cases e with
        | returned u => exact ⟨keep a hy u, by rw [← Act.put_comm a v u h2]; exact he⟩
        | panicked c => exact hQ _ _ _ he
        | outgrown => exact he
    | halt x w' =>
      cases x <;> simp only [Oper.uponIn] at h ⊢
      case panic u => exact hQ _ _ _ h
  · rw [if_neg hw] at h ⊢
    exact ⟨fun _ _ => trivial, keep a hy _, by rw [← Act.put_comm a v undef h2]; exact h.2⟩
/-- S is shown anew behind each. -/
def wpAnyHI (n : Nat) (P : Program) (md : Region.Mode) (ops : Array Oper) (Q : Exit → Act → World → Prop) (S : World → Prop) : Nat → Array Bool → Act → World → Prop
  | 0, listed, a, w => Region.ready md ops listed = [] ∧ Q .normal a w
  | fuel + 1, listed, a, w => (Region.ready md ops listed = [] → Q .normal a w) ∧ ∀ i ∈ Region.ready md ops listed, wpOpIn Fence.wide n P ops Q i (fun a' w' => S w' ∧ wpAnyHI n P md ops Q S fuel (listed.setIfInBounds i true) a' w') a w
theorem anyHI_sound : ∀ (fuel : Nat) (listed : Array Bool) (a : Act) (w : World), wpAnyHI n P md ops Q S fuel listed a w → wpAnyIn Fence.wide n P md ops Q fuel listed a w
  | 0, _, _, _, h => h
  | fuel + 1, _, _, _, h => ⟨h.1, fun i hi => wpOpIn_mono (fun a' w' h' => anyHI_sound fuel _ a' w' h'.2) (h.2 i hi)⟩
theorem anyHI_first {i : Nat} {oi : Oper} {v : Value} (hi : ops[i]? = some oi) (hsel : ∀ (j : Nat) (o : Oper) cs b, ops[j]? = some o → o.op ≠ .select cs b) (hQ : ∀ c a w, Q (.panic c) (a.put oi.dst v) w → Q (.panic c) a w) :
    ∀ (fuel : Nat) (listed : Array Bool) (a : Act) (w : World),
      (∀ j oj, ops[j]? = some oj → j ≠ i → listed.getD j true = false → (∀ e ∈ oj.after, Region.binds md e = true → e.on ≠ i) → oi.apart ops oj = true) →
      i ∈ Region.ready md ops listed → YieldsIf P ops S oi v a → S w → wpAnyHI n P md ops Q S fuel (listed.setIfInBounds i true) (a.put oi.dst v) w → wpAnyHI n P md ops Q S (fuel + 1) listed a w := by
  intro fuel
  induction fuel with
  | zero =>
    intro listed a w _ hr hy hS H
    refine ⟨fun h => (by rw [h] at hr; cases hr), fun j hj => ?_⟩
    by_cases hji : j = i
    · subst hji; exact opIn_yields hi hy hS ⟨hS, H⟩
    · have := ready_mono hj hji
      rw [H.1] at this
      cases this
  | succ fuel ih =>
    intro listed a w hfree hr hy hS H
    refine ⟨fun h => (by rw [h] at hr; cases hr), fun j hj => ?_⟩
    by_cases hji : j = i
    · subst hji; exact opIn_yields hi hy hS ⟨hS, H⟩
    · have h1 := H.2 j (ready_mono hj hji)
      obtain ⟨hjun, oj, hoj, hall⟩ := mem_ready.1 hj
      have hnot : ∀ e ∈ oj.after, Region.binds md e = true → e.on ≠ i := fun e he hb heq => by
        have h1 := hall e he hb
        have h0 := (mem_ready.1 hr).1
        rw [heq] at h1
        rcases Nat.lt_or_ge i listed.size with h' | h'
        · simp [h'] at h0 h1; rw [h0] at h1; cases h1
        · simp [Array.getElem?_eq_none h'] at h1
      have h2 := opIn_putIf hoj (hfree j oj hoj hji hjun hnot) (fun cs b => hsel i oi cs b hi) (fun cs b => hsel j oj cs b hoj) hQ hy h1
      have hfree' : ∀ k ok, ops[k]? = some ok → k ≠ i → (listed.setIfInBounds j true).getD k true = false → (∀ e ∈ ok.after, Region.binds md e = true → e.on ≠ i) → oi.apart ops ok = true := fun k ok hk hki hun hno => by
        refine hfree k ok hk hki ?_ hno
        by_cases hjk : j = k
        · subst hjk; exact hjun
        · rw [getD_set_ne true hjk] at hun; exact hun
      refine wpOpIn_mono (fun a' w' h3 => ⟨h3.2.1, ih (listed.setIfInBounds j true) a' w' hfree' (ready_mono hr (Ne.symm hji)) h3.1 h3.2.1 ?_⟩) h2
      rw [Array.setIfInBounds_comm _ _ hji]
      exact h3.2.2
theorem anyHI_take {i : Nat} {oi : Oper} {v : Value} {fuel : Nat} {listed : Array Bool} {a : Act} {w : World} (hi : ops[i]? = some oi) (hs : Region.noSelect ops = true) (hf : Region.free md ops listed i = true) (hr : (Region.ready md ops listed).contains i = true)
    (hQ : ∀ c a w, Q (.panic c) (a.put oi.dst v) w → Q (.panic c) a w) (hy : YieldsIf P ops S oi v a) (hS : S w) (h : wpAnyHI n P md ops Q S fuel (listed.setIfInBounds i true) (a.put oi.dst v) w) : wpAnyHI n P md ops Q S (fuel + 1) listed a w :=
  anyHI_first hi (Region.noSelect_spec hs) hQ fuel listed a w (Region.free_spec hi hf) (by simpa using hr) hy hS h
theorem anyHI_one {i : Nat} {fuel : Nat} {listed : Array Bool} {a : Act} {w : World} (hr : Region.ready md ops listed = [i]) (h : wpOpIn Fence.wide n P ops Q i (fun a' w' => S w' ∧ wpAnyHI n P md ops Q S fuel (listed.setIfInBounds i true) a' w') a w) : wpAnyHI n P md ops Q S (fuel + 1) listed a w :=
  ⟨fun h0 => (by rw [hr] at h0; cases h0), fun j hj => by rw [hr] at hj; rw [List.mem_singleton.1 hj]; exact h⟩
theorem anyHI_done {listed : Array Bool} {a : Act} {w : World} (hr : Region.ready md ops listed = []) (h : Q .normal a w) : ∀ fuel, wpAnyHI n P md ops Q S fuel listed a w
  | 0 => ⟨hr, h⟩
  | _ + 1 => ⟨fun _ => h, by rw [hr]; simp⟩
/-- One operation after the other, in the fence; behind each S is shown anew. -/
def wpSeqI (n : Nat) (P : Program) (ops : Array Oper) (S : World → Prop) (Q : Exit → Act → World → Prop) : List Oper → Act → World → Prop
  | [], a, w => Q .normal a w
  | o :: rest, a, w => wpListIn Fence.wide n P ops (outQ Q fun a' w' => S w' ∧ wpSeqI n P ops S Q rest a' w') [o] a w
theorem oper_wpIn_post {o : Oper} {a : Act} {w : World} {K : Act → World → Prop} {Q Q' : Exit → Act → World → Prop} (hp : ∀ c a w, Q (.panic c) a w → Q' (.panic c) a w) (ho : LetsOut Q → LetsOut Q') (h : o.wpIn Fence.wide n P a w K Q) : o.wpIn Fence.wide n P a w K Q' := by
  unfold Oper.wpIn at *
  refine ⟨h.1, ?_⟩
  have h := h.2
  generalize (o.semAt Fence.wide.round a.eval).run P w = r at *
  cases r with
  | ok x w' =>
    cases x <;> simp only [Oper.uponIn] at h ⊢ <;>
      first
        | exact h
        | exact ⟨h.1, CallsIn.mono h.2 (fun e w'' he => by cases e <;> first | exact he | exact hp _ _ _ he | exact ho he)⟩
        | exact ⟨h.1, RoundIn.mono h.2 (fun e w'' he => by cases e <;> first | exact he | exact hp _ _ _ he | exact ho he)⟩
  | halt x w' => cases x <;> simp only [Oper.uponIn] at h ⊢ <;> first | exact h | exact hp _ _ _ h
theorem letsOut_out {Q : Exit → Act → World → Prop} {N : Act → World → Prop} (h : LetsOut (outQ Q N)) : LetsOut Q := by
  obtain ⟨a, w, h⟩ := h; exact ⟨a, w, h⟩
end
section
variable {P : Program} {n : Nat} {l : List Oper} {Q : Exit → Act → World → Prop} {S : World → Prop}
theorem opIn_of_list {i : Nat} {o : Oper} (ho : l[i]? = some o) {N : Act → World → Prop} {K : Act → World → Prop} {a : Act} {w : World} (hK : ∀ a w, N a w → K a w) (h : wpListIn Fence.wide n P l.toArray (outQ Q N) [o] a w) : wpOpIn Fence.wide n P l.toArray Q i K a w := by
  have ho' : l.toArray[i]? = some o := by simpa using ho
  unfold wpOpIn
  simp only [ho']
  unfold wpListIn at h
  by_cases hw : Region.wanted o (yielded l.toArray a.tmps) = true
  · rw [if_pos hw] at h ⊢
    exact oper_wpIn_post (fun c a w h => h) (fun h => letsOut_out (N := N) h) (Oper.wpIn_mono (fun a w h => hK a w h) h)
  · rw [if_neg hw] at h ⊢
    exact ⟨h.1, hK _ _ h.2⟩
def seqIB (l : List Oper) (rs ts : List Nat) : Bool :=
  Region.noSelect l.toArray && takesB l.toArray (Array.replicate l.length false) rs && chainB l.toArray (listAll (Array.replicate l.length false) rs) ts && decide (rs.length + ts.length = l.length) &&
  rs.all (fun i => atB l i yieldsOnly) && ts.all (fun i => decide (i < l.length))
/-! Reads and others by turns: (true, i): i may be taken now, whatever else may come up; (false, i): i is the one that may come up. -/
def mixB (ops : Array Oper) : Array Bool → List (Bool × Nat) → Bool
  | listed, [] => (Region.ready .any ops listed).isEmpty
  | listed, (true, i) :: s => Region.free .any ops listed i && (Region.ready .any ops listed).contains i && mixB ops (listed.setIfInBounds i true) s
  | listed, (false, i) :: s => (Region.ready .any ops listed) == [i] && mixB ops (listed.setIfInBounds i true) s
def wpMix (n : Nat) (P : Program) (l : List Oper) (S : World → Prop) (Q : Exit → Act → World → Prop) : List (Bool × Nat) → Act → World → Prop
  | [], a, w => Q .normal a w
  | (true, i) :: s, a, w => match l[i]? with | some o => wpQuiet P l.toArray S (fun a' => wpMix n P l S Q s a' w) [o] a | none => False
  | (false, i) :: s, a, w => match l[i]? with | some o => wpListIn Fence.wide n P l.toArray (outQ Q fun a' w' => S w' ∧ wpMix n P l S Q s a' w') [o] a w | none => False
def mixAllB (l : List Oper) (s : List (Bool × Nat)) : Bool :=
  Region.noSelect l.toArray && mixB l.toArray (Array.replicate l.length false) s && decide (s.length = l.length) && s.all (fun x => !x.1 || atB l x.2 yieldsOnly)
end
end Go.Proofs.YtclhhdodebdmjaaGreat

namespace Go.Proofs.YtclhhdodebdmjaaGreat
open Go.RowKit
set_option linter.unusedVariables false
set_option linter.unusedSimpArgs false

/-- any is t: all of these may come up, in any order (they yield nothing), and then t. take i: a read, whatever else may come up; one i: i is the one that may come up; two i j s t: i and j may come up: s behind i, t behind j. -/
inductive Tn where
  | nil
  | take (i : Nat) (t : Tn)
  | one (i : Nat) (t : Tn)
  | two (i j : Nat) (s t : Tn)
  | any (is : List Nat) (t : Tn)
def Tn.len : Tn → Nat
  | .nil => 0
  | .take _ t => t.len + 1
  | .one _ t => t.len + 1
  | .two _ _ s _ => s.len + 1
  | .any is t => is.length + t.len
def Tn.takes : List Nat → Tn → Tn
  | [], t => t
  | i :: l, t => .take i (Tn.takes l t)
def Tn.ones : List Nat → Tn → Tn
  | [], t => t
  | i :: l, t => .one i (Tn.ones l t)
/-- These may come up now, each whatever others of them have; nothing else may ahead of all of them. -/
def anyB (l : List Oper) (listed : Array Bool) (is : List Nat) : Bool :=
  (Region.ready .any l.toArray listed) == is && decide is.Nodup && decide (listed.size = l.length) &&
    (List.range l.length).all fun j => listed.getD j false || is.contains j || is.all fun i => match l[j]? with | some o => o.after.any fun e => e.on == i && Region.binds .any e | none => false
def treeB (l : List Oper) : Array Bool → Tn → Bool
  | listed, .nil => (Region.ready .any l.toArray listed).isEmpty
  | listed, .take i t => atB l i yieldsOnly && Region.free .any l.toArray listed i && (Region.ready .any l.toArray listed).contains i && treeB l (listed.setIfInBounds i true) t
  | listed, .one i t => (Region.ready .any l.toArray listed) == [i] && treeB l (listed.setIfInBounds i true) t
  | listed, .two i j s t => (Region.ready .any l.toArray listed) == [i, j] && decide (s.len = t.len) && treeB l (listed.setIfInBounds i true) s && treeB l (listed.setIfInBounds j true) t
  | listed, .any is t => anyB l listed is && treeB l (listAll listed is) t
section
variable {P : Program} {n : Nat} {l : List Oper} {Q : Exit → Act → World → Prop} {S : World → Prop}
def wpTree (n : Nat) (P : Program) (l : List Oper) (S : World → Prop) (Q : Exit → Act → World → Prop) : Tn → Act → World → Prop
  | .nil, a, w => Q .normal a w
  | .take i t, a, w => match l[i]? with | some o => wpQuiet P l.toArray S (fun a' => wpTree n P l S Q t a' w) [o] a | none => False
  | .one i t, a, w => match l[i]? with | some o => wpListIn Fence.wide n P l.toArray (outQ Q fun a' w' => S w' ∧ wpTree n P l S Q t a' w') [o] a w | none => False
  | .two i j s t, a, w => (match l[i]? with | some o => wpListIn Fence.wide n P l.toArray (outQ Q fun a' w' => S w' ∧ wpTree n P l S Q s a' w') [o] a w | none => False) ∧
      (match l[j]? with | some o => wpListIn Fence.wide n P l.toArray (outQ Q fun a' w' => S w' ∧ wpTree n P l S Q t a' w') [o] a w | none => False)
  | .any is t, a, w => ∃ J : List Nat → World → Prop, J [] w ∧
      (∀ done i w', i ∈ is → i ∉ done → done.Nodup → (∀ j ∈ done, j ∈ is) → J done w' → S w' → match l[i]? with | some o => wpListIn Fence.wide n P l.toArray (outQ Q fun a' w'' => a' = a ∧ S w'' ∧ J (i :: done) w'') [o] a w' | none => False) ∧
      ∀ done w', done.Nodup → (∀ i ∈ is, i ∈ done) → (∀ i ∈ done, i ∈ is) → J done w' → S w' → wpTree n P l S Q t a w'
theorem tn_len_le : ∀ {l m : List Nat}, l.Nodup → (∀ i ∈ l, i ∈ m) → l.length ≤ m.length
  | [], _, _, _ => Nat.zero_le _
  | x :: l, m, hn, h => by
    obtain ⟨h1, h2⟩ := List.nodup_cons.1 hn
    have hx := h x (by simp)
    have h3 := tn_len_le (m := m.erase x) h2 (fun i hi => (List.mem_erase_of_ne (fun (e : i = x) => h1 (e ▸ hi))).2 (h i (by simp [hi])))
    have h4 := List.length_erase_of_mem hx
    have h5 : 0 < m.length := List.length_pos_of_mem hx
    rw [List.length_cons]; omega
theorem listAll_size (is : List Nat) : ∀ listed : Array Bool, (listAll listed is).size = listed.size := by
  induction is with
  | nil => intro listed; rfl
  | cons i is ih => intro listed; show (listAll (listed.setIfInBounds i true) is).size = _; rw [ih]; simp
theorem listAll_get (is : List Nat) (d : Bool) (j : Nat) : ∀ listed : Array Bool, j < listed.size → (listAll listed is).getD j d = (listed.getD j d || is.contains j) := by
  induction is with
  | nil => intro listed _; simp [listAll]
  | cons i is ih =>
    intro listed hj
    show (listAll (listed.setIfInBounds i true) is).getD j d = _
    rw [ih _ (by simpa using hj)]
    by_cases e : i = j
    · subst e; simp [Array.getD, hj]
    · have : (listed.setIfInBounds i true).getD j d = listed.getD j d := by simp [Array.getD, hj, Array.getElem_setIfInBounds, e]
      rw [this]
      simp [List.contains_cons, Ne.symm e, beq_eq_false_iff_ne.2 (Ne.symm e)]
theorem listAll_same {is js : List Nat} (h : ∀ i, i ∈ is ↔ i ∈ js) (listed : Array Bool) : listAll listed is = listAll listed js := by
  apply Array.ext
  · rw [listAll_size, listAll_size]
  · intro i h1 h2
    have hi : i < listed.size := by rw [listAll_size] at h1; exact h1
    have e1 := listAll_get is false i listed hi
    have e2 := listAll_get js false i listed hi
    have hc : is.contains i = js.contains i := by rw [Bool.eq_iff_iff]; simp [h i]
    rw [hc, ← e2] at e1
    simpa [Array.getD, h1, h2] using e1
theorem listAll_snoc (is : List Nat) (i : Nat) (listed : Array Bool) : (listAll listed is).setIfInBounds i true = listAll listed (i :: is) := by
  have h : (listAll listed is).setIfInBounds i true = listAll listed (is ++ [i]) := by simp [listAll]
  rw [h]
  exact listAll_same (fun j => by simp [or_comm]) listed
theorem anyB_ready {listed : Array Bool} {is done : List Nat} (hB : anyB l listed is = true) (hd : ∀ j ∈ done, j ∈ is) {k : Nat} (hk : k ∈ is) (hkd : k ∉ done) (i : Nat) : i ∈ Region.ready .any l.toArray (listAll listed done) ↔ i ∈ is ∧ i ∉ done := by
  simp only [anyB, Bool.and_eq_true, beq_iff_eq, decide_eq_true_eq, List.all_eq_true, List.mem_range] at hB
  obtain ⟨⟨⟨hr, hn⟩, hsz⟩, hw⟩ := hB
  have hr2 : ∀ i, i ∈ Region.ready .any l.toArray listed ↔ i ∈ is := fun i => by rw [hr]
  have hlt : ∀ i ∈ is, i < listed.size := fun i hi => by
    have := (mem_ready.1 ((hr2 i).2 hi)).1
    rcases Nat.lt_or_ge i listed.size with h | h
    · exact h
    · simp [Array.getD, Nat.not_lt.2 h] at this
  constructor
  · intro hi
    obtain ⟨h1, o, ho, he⟩ := mem_ready.1 hi
    have hil : i < l.length := by
      have ho : l[i]? = some o := by simpa using ho
      exact (List.getElem?_eq_some_iff.1 ho).1
    rw [listAll_get done true i listed (by omega), Bool.or_eq_false_iff] at h1
    have hnd : i ∉ done := fun h => by have := h1.2; simp [h] at this
    refine ⟨?_, hnd⟩
    have h2 := hw i hil
    rw [Bool.or_eq_true, Bool.or_eq_true] at h2
    rcases h2 with (h2 | h2) | h2
    · exfalso
      have h3 := h1.1
      have e : listed.getD i true = listed.getD i false := by simp [Array.getD, show i < listed.size by omega]
      rw [e, h2] at h3; cases h3
    · simpa using h2
    · exfalso
      rw [List.all_eq_true] at h2
      have h3 := h2 k hk
      have ho : l[i]? = some o := by simpa using ho
      rw [ho] at h3
      simp only at h3
      rw [Array.any_eq_true] at h3
      obtain ⟨x, hx, h4⟩ := h3
      simp only [Bool.and_eq_true, beq_iff_eq] at h4
      have h5 := he o.after[x] (Array.getElem_mem hx) h4.2
      rw [h4.1, listAll_get done false k listed (hlt k hk), Bool.or_eq_true] at h5
      have h6 := (mem_ready.1 ((hr2 k).2 hk)).1
      have e : listed.getD k true = listed.getD k false := by simp [Array.getD, hlt k hk]
      rw [e] at h6
      rcases h5 with h5 | h5
      · rw [h6] at h5; cases h5
      · exact hkd (by simpa using h5)
  · rintro ⟨hi, hnd⟩
    obtain ⟨h1, o, ho, he⟩ := mem_ready.1 ((hr2 i).2 hi)
    refine mem_ready.2 ⟨?_, o, ho, fun e hm hb => ?_⟩
    · rw [listAll_get done true i listed (hlt i hi), h1]
      simp [hnd]
    · have h2 := he e hm hb
      have hlt2 : e.on < listed.size := by
        rcases Nat.lt_or_ge e.on listed.size with h | h
        · exact h
        · simp [Array.getD, Nat.not_lt.2 h] at h2
      rw [listAll_get done false e.on listed hlt2, h2]; rfl
theorem wpTree_any {is : List Nat} {s : Tn} {a : Act} {w : World} (J : List Nat → World → Prop) (h0 : J [] w) (hS : S w)
    (h : ∀ done i w', i ∈ is → i ∉ done → done.Nodup → (∀ j ∈ done, j ∈ is) → J done w' → S w' → match l[i]? with | some o => wpListIn Fence.wide n P l.toArray (outQ Q fun a' w'' => a' = a ∧ S w'' ∧ J (i :: done) w'') [o] a w' | none => False)
    (h1 : ∀ done w', done.Nodup → (∀ i ∈ is, i ∈ done) → (∀ i ∈ done, i ∈ is) → J done w' → S w' → wpTree n P l S Q s a w') : wpTree n P l S Q (.any is s) a w := ⟨J, h0, h, h1⟩
theorem wpTree_take {i : Nat} {o : Oper} {s : Tn} {a : Act} {w : World} (ho : l[i]? = some o) (h : wpQuiet P l.toArray S (fun a' => wpTree n P l S Q s a' w) [o] a) : wpTree n P l S Q (.take i s) a w := by
  unfold wpTree; rw [ho]; exact h
theorem wpTree_one {i : Nat} {o : Oper} {s : Tn} {a : Act} {w : World} (ho : l[i]? = some o) (h : wpListIn Fence.wide n P l.toArray (outQ Q fun a' w' => S w' ∧ wpTree n P l S Q s a' w') [o] a w) : wpTree n P l S Q (.one i s) a w := by
  unfold wpTree; rw [ho]; exact h
theorem wpTree_two {i j : Nat} {o o' : Oper} {s t : Tn} {a : Act} {w : World} (ho : l[i]? = some o) (ho' : l[j]? = some o') (h : wpListIn Fence.wide n P l.toArray (outQ Q fun a' w' => S w' ∧ wpTree n P l S Q s a' w') [o] a w) (h' : wpListIn Fence.wide n P l.toArray (outQ Q fun a' w' => S w' ∧ wpTree n P l S Q t a' w') [o'] a w) : wpTree n P l S Q (.two i j s t) a w := by
  unfold wpTree; rw [ho, ho']; exact ⟨h, h'⟩
theorem wpTree_nil {a : Act} {w : World} (h : Q .normal a w) : wpTree n P l S Q .nil a w := h
theorem anyHI_two {i j : Nat} {fuel : Nat} {listed : Array Bool} {a : Act} {w : World} {md : Region.Mode} {ops : Array Oper} (hr : Region.ready md ops listed = [i, j]) (h : wpOpIn Fence.wide n P ops Q i (fun a' w' => S w' ∧ wpAnyHI n P md ops Q S fuel (listed.setIfInBounds i true) a' w') a w) (h' : wpOpIn Fence.wide n P ops Q j (fun a' w' => S w' ∧ wpAnyHI n P md ops Q S fuel (listed.setIfInBounds j true) a' w') a w) : wpAnyHI n P md ops Q S (fuel + 1) listed a w :=
  ⟨fun h0 => (by rw [hr] at h0; cases h0), fun k hk => by
    rw [hr] at hk
    rcases List.mem_cons.1 hk with rfl | hk
    · exact h
    · rw [List.mem_singleton.1 hk]; exact h'⟩
theorem anyHI_tree (hs : Region.noSelect l.toArray = true) (hQ : ∀ c (a : Act) d v w, Q (.panic c) (a.put d v) w → Q (.panic c) a w) : ∀ (s : Tn) (listed : Array Bool) (a : Act) (w : World), treeB l listed s = true → S w →
    wpTree n P l S Q s a w → wpAnyHI n P .any l.toArray Q S s.len listed a w
  | .nil, listed, a, w, hB, _, h => anyHI_done (by simpa [treeB] using hB) h _
  | .take i s, listed, a, w, hB, hS, h => by
    simp only [treeB, Bool.and_eq_true] at hB
    obtain ⟨⟨⟨hyo, hf⟩, hc⟩, hB⟩ := hB
    obtain ⟨o, ho, hyo⟩ := atB_spec hyo
    have ho' : l.toArray[i]? = some o := by simpa using ho
    unfold wpTree at h
    rw [ho] at h
    simp only [wpQuiet] at h
    have key : ∃ v, YieldsIf P l.toArray S o v a ∧ wpTree n P l S Q s (a.put o.dst v) w := by
      by_cases hw : Region.wanted o (yielded l.toArray a.tmps) = true
      · rw [if_pos hw] at h
        obtain ⟨v, hv, hn⟩ := h
        refine ⟨v, .inl ⟨hw, fun w1 hw1 => ?_⟩, hn⟩
        have h1 := hv w1 hw1
        unfold Oper.quietAt at h1
        cases hx : (execOp a.eval o).run P w1 with
        | halt x w2 => rw [hx] at h1; exact h1.elim
        | ok r w2 =>
          obtain ⟨v2, rfl⟩ := yieldsOnly_spec hyo _ hx
          rw [hx] at h1
          obtain ⟨rfl, rfl⟩ := h1
          rfl
      · rw [if_neg hw] at h
        exact ⟨undef, .inr ⟨by simpa using hw, rfl⟩, h⟩
    obtain ⟨v, hy', hn⟩ := key
    refine anyHI_take ho' hs hf hc (fun c a' w' h' => hQ c a' _ _ w' h') hy' hS ?_
    exact anyHI_tree hs hQ s _ _ w hB hS hn
  | .one i s, listed, a, w, hB, hS, h => by
    simp only [treeB, Bool.and_eq_true, beq_iff_eq] at hB
    unfold wpTree at h
    cases ho : l[i]? with
    | none => rw [ho] at h; exact h.elim
    | some o =>
      rw [ho] at h
      refine anyHI_one hB.1 ?_
      exact opIn_of_list ho (fun a' w' h' => ⟨h'.1, anyHI_tree hs hQ s _ a' w' hB.2 h'.1 h'.2⟩) h
  | .two i j s t, listed, a, w, hB, hS, h => by
    simp only [treeB, Bool.and_eq_true, beq_iff_eq, decide_eq_true_eq] at hB
    obtain ⟨⟨⟨hr, hl⟩, hBi⟩, hBj⟩ := hB
    unfold wpTree at h
    obtain ⟨hi, hj⟩ := h
    cases ho : l[i]? with
    | none => rw [ho] at hi; exact hi.elim
    | some o =>
      cases ho' : l[j]? with
      | none => rw [ho'] at hj; exact hj.elim
      | some o' =>
        rw [ho] at hi
        rw [ho'] at hj
        refine anyHI_two (fuel := s.len) hr ?_ ?_
        · exact opIn_of_list ho (fun a' w' h' => ⟨h'.1, anyHI_tree hs hQ s _ a' w' hBi h'.1 h'.2⟩) hi
        · exact opIn_of_list ho' (fun a' w' h' => ⟨h'.1, by rw [hl]; exact anyHI_tree hs hQ t _ a' w' hBj h'.1 h'.2⟩) hj
  | .any is t, listed, a, w, hB, hS, h => by
    simp only [treeB, Bool.and_eq_true] at hB
    obtain ⟨hBa, hBt⟩ := hB
    unfold wpTree at h
    obtain ⟨J, h0, hstep, hend⟩ := h
    have hn : is.Nodup := by
      simp only [anyB, Bool.and_eq_true, decide_eq_true_eq] at hBa
      exact hBa.1.1.2
    have key : ∀ (k : Nat) (done : List Nat) (w' : World), done.Nodup → (∀ j ∈ done, j ∈ is) → done.length + k = is.length → J done w' → S w' → wpAnyHI n P .any l.toArray Q S (k + t.len) (listAll listed done) a w' := by
      intro k
      induction k with
      | zero =>
        intro done w' hd hsub hl hJ hSw
        have hall : ∀ i ∈ is, i ∈ done := fun i hi => Classical.byContradiction fun hno => by
          have := tn_len_le (l := i :: done) (m := is) (List.nodup_cons.2 ⟨hno, hd⟩) (fun j hj => by
            rcases List.mem_cons.1 hj with rfl | hj
            · exact hi
            · exact hsub j hj)
          rw [List.length_cons] at this
          omega
        rw [Nat.zero_add, listAll_same (js := is) (fun i => ⟨hsub i, hall i⟩) listed]
        exact anyHI_tree hs hQ t _ a w' hBt hSw (hend done w' hd hall hsub hJ hSw)
      | succ k ih =>
        intro done w' hd hsub hl hJ hSw
        obtain ⟨x, hx, hxd⟩ : ∃ x, x ∈ is ∧ x ∉ done := Classical.byContradiction fun hno => by
          have hsub2 : ∀ i ∈ is, i ∈ done := fun i hi => Classical.byContradiction fun h => hno ⟨i, hi, h⟩
          have := tn_len_le hn hsub2
          omega
        have hr := anyB_ready hBa hsub hx hxd
        rw [show k + 1 + t.len = (k + t.len) + 1 by omega]
        refine ⟨fun hemp => ?_, fun i hi => ?_⟩
        · have := (hr x).2 ⟨hx, hxd⟩
          rw [hemp] at this; cases this
        · obtain ⟨hii, hid⟩ := (hr i).1 hi
          have h1 := hstep done i w' hii hid hd hsub hJ hSw
          cases ho : l[i]? with
          | none => rw [ho] at h1; exact h1.elim
          | some o =>
            rw [ho] at h1
            refine opIn_of_list ho (fun a' w'' h' => ⟨h'.2.1, ?_⟩) h1
            rw [h'.1, listAll_snoc]
            exact ih (i :: done) w'' (List.nodup_cons.2 ⟨hid, hd⟩) (fun j hj => by
              rcases List.mem_cons.1 hj with rfl | hj
              · exact hii
              · exact hsub j hj) (by rw [List.length_cons]; omega) h'.2.2 h'.2.1
    have := key is.length [] w (List.nodup_nil) (by simp) (by simp) h0 hS
    exact this
def treeAllB (l : List Oper) (s : Tn) : Bool :=
  Region.noSelect l.toArray && treeB l (Array.replicate l.length false) s && decide (s.len = l.length)
/-- **A REGION THAT DRAWS ITS ORDER, BY A TREE**; behind each operation that is no read S is shown anew. -/
theorem region_tree {id : Nat} {a : Act} {w : World} (S : World → Prop) (s : Tn) (hm : P.follows .mixedOrders = true) (hB : treeAllB l s = true) (hQ : ∀ c (a : Act) d v w, Q (.panic c) (a.put d v) w → Q (.panic c) a w) (hS : S w.drew)
    (h : wpTree n P l S Q s a w.drew) : (Code.region id l.toArray true).wpIn Fence.wide n P Q a w := by
  simp only [treeAllB, Bool.and_eq_true, decide_eq_true_eq] at hB
  obtain ⟨⟨h1, h2⟩, h3⟩ := hB
  refine wpIn_region_any hm ?_
  have hsz : l.toArray.size = l.length := by simp
  rw [hsz]
  have := anyHI_tree (P := P) (n := n) (S := S) (Q := Q) h1 hQ s (Array.replicate l.length false) a w.drew h2 hS h
  rw [h3] at this
  exact anyHI_sound _ _ _ _ this
/-- The like at a plain walk. -/
theorem region_treeW {id : Nat} {a : Act} {w : World} (S : World → Prop) (s : Tn) (hm : P.follows .mixedOrders = true) (hB : treeAllB l s = true) (hQ : ∀ c (a : Act) d v w, Q (.panic c) (a.put d v) w → Q (.panic c) a w) (hS : S w.drew)
    (h : wpTree 9 P l S Q s a w.drew) : (Code.region id l.toArray true).wp P Q a w := wpIn_wide.1 (region_tree S s hm hB hQ hS h)
end
end Go.Proofs.YtclhhdodebdmjaaGreat
