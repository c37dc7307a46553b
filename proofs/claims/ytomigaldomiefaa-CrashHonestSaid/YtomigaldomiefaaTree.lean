/- A region that draws its order, by a tree: reads are taken first; where two others may come up, both ways are walked. -/
import Derived.Test.YtomigaldomiefaaSeqIn
namespace Go.Proofs.Ytomigaldomiefaa
open Go.RowKit
set_option linter.unusedVariables false
set_option linter.unusedSimpArgs false

/-- take i: a read, whatever else may come up; one i: i is the one that may come up; two i j s t: i and j may come up: s behind i, t behind j. -/
inductive Tn where
  | nil
  | take (i : Nat) (t : Tn)
  | one (i : Nat) (t : Tn)
  | two (i j : Nat) (s t : Tn)
def Tn.len : Tn → Nat
  | .nil => 0
  | .take _ t => t.len + 1
  | .one _ t => t.len + 1
  | .two _ _ s _ => s.len + 1
def Tn.takes : List Nat → Tn → Tn
  | [], t => t
  | i :: l, t => .take i (Tn.takes l t)
def Tn.ones : List Nat → Tn → Tn
  | [], t => t
  | i :: l, t => .one i (Tn.ones l t)
def treeB (l : List Oper) : Array Bool → Tn → Bool
  | listed, .nil => (Region.ready .any l.toArray listed).isEmpty
  | listed, .take i t => atB l i yieldsOnly && Region.free .any l.toArray listed i && (Region.ready .any l.toArray listed).contains i && treeB l (listed.setIfInBounds i true) t
  | listed, .one i t => (Region.ready .any l.toArray listed) == [i] && treeB l (listed.setIfInBounds i true) t
  | listed, .two i j s t => (Region.ready .any l.toArray listed) == [i, j] && decide (s.len = t.len) && treeB l (listed.setIfInBounds i true) s && treeB l (listed.setIfInBounds j true) t
section
variable {P : Program} {n : Nat} {l : List Oper} {Q : Exit → Act → World → Prop} {S : World → Prop}
def wpTree (n : Nat) (P : Program) (l : List Oper) (S : World → Prop) (Q : Exit → Act → World → Prop) : Tn → Act → World → Prop
  | .nil, a, w => Q .normal a w
  | .take i t, a, w => match l[i]? with | some o => wpQuiet P l.toArray S (fun a' => wpTree n P l S Q t a' w) [o] a | none => False
  | .one i t, a, w => match l[i]? with | some o => wpListIn Fence.wide n P l.toArray (outQ Q fun a' w' => S w' ∧ wpTree n P l S Q t a' w') [o] a w | none => False
  | .two i j s t, a, w => (match l[i]? with | some o => wpListIn Fence.wide n P l.toArray (outQ Q fun a' w' => S w' ∧ wpTree n P l S Q s a' w') [o] a w | none => False) ∧
      (match l[j]? with | some o => wpListIn Fence.wide n P l.toArray (outQ Q fun a' w' => S w' ∧ wpTree n P l S Q t a' w') [o] a w | none => False)
theorem wpTree_take {i : Nat} {o : Oper} {s : Tn} {a : Act} {w : World} (ho : l[i]? = some o) (h : wpQuiet P l.toArray S (fun a' => wpTree n P l S Q s a' w) [o] a) : wpTree n P l S Q (.take i s) a w := by
  unfold wpTree; rw [ho]; exact h
theorem wpTree_one {i : Nat} {o : Oper} {s : Tn} {a : Act} {w : World} (ho : l[i]? = some o) (h : wpListIn Fence.wide n P l.toArray (outQ Q fun a' w' => S w' ∧ wpTree n P l S Q s a' w') [o] a w) : wpTree n P l S Q (.one i s) a w := by
  unfold wpTree; rw [ho]; exact h
theorem wpTree_two {i j : Nat} {o o' : Oper} {s t : Tn} {a : Act} {w : World} (ho : l[i]? = some o) (ho' : l[j]? = some o') (h : wpListIn Fence.wide n P l.toArray (outQ Q fun a' w' => S w' ∧ wpTree n P l S Q s a' w') [o] a w) (h' : wpListIn Fence.wide n P l.toArray (outQ Q fun a' w' => S w' ∧ wpTree n P l S Q t a' w') [o'] a w) : wpTree n P l S Q (.two i j s t) a w := by
  unfold wpTree; rw [ho, ho']; exact ⟨h, h'⟩
theorem wpTree_nil {a : Act} {w : World} (h : Q .normal a w) : wpTree n P l S Q .nil a w := h
theorem wpTree_skip {i : Nat} {o : Oper} {s : Tn} {a : Act} {w : World} (ho : l[i]? = some o) (hw : Region.wanted o (yielded l.toArray a.tmps) = false) (hS : S w) (h : wpTree n P l S Q s (a.put o.dst undef) w) : wpTree n P l S Q (.one i s) a w := by
  refine wpTree_one ho ?_
  simp only [wpListIn, hw]
  exact ⟨fun _ _ => trivial, outQ_normal hS h⟩
theorem anyHI_two {i j : Nat} {fuel : Nat} {listed : Array Bool} {a : Act} {w : World} {md : Region.Mode} {ops : Array Oper} (hr : Region.ready md ops listed = [i, j]) (h : wpOpIn Fence.wide n P ops Q i (fun a' w' => S w' ∧ wpAnyHI n P md ops Q S fuel (listed.setIfInBounds i true) a' w') a w) (h' : wpOpIn Fence.wide n P ops Q j (fun a' w' => S w' ∧ wpAnyHI n P md ops Q S fuel (listed.setIfInBounds j true) a' w') a w) : wpAnyHI n P md ops Q S (fuel + 1) listed a w :=
  ⟨fun h0 => (by rw [hr] at h0; cases h0), fun k hk => by
    rw [hr] at hk
    rcases List.mem_cons.1 hk with rfl | hk
    · exact h
    · rw [List.mem_singleton.1 hk]; exact h'⟩
theorem anyHI_tree (hs : Region.noSelect l.toArray = true) (hQ : ∀ c (a : Act) d v w, Q (.panic c) (a.put d v) w → Q (.panic c) a w) : ∀ (s : Tn) (listed : Array Bool) (a : Act) (w : World), treeB l listed s = true → S w →
    wpTree n P l S Q s a w → wpAnyHI n P .any l.toArray Q S s.len listed a w
  | .nil, listed, a, w, hB, _, h => anyHI_done (by simpa [treeB] using hB) h _
  | .take i s, listed, a, w, hB, hS, h => by
    simp only [treeB, Bool.and_eq_true] at hB
    obtain ⟨⟨⟨hyo, hf⟩, hc⟩, hB⟩ := hB
    obtain ⟨o, ho, hyo⟩ := atB_spec hyo
    have ho' : l.toArray[i]? = some o := by simpa using ho
    unfold wpTree at h
    rw [ho] at h
    simp only [wpQuiet] at h
    have key : ∃ v, YieldsIf P l.toArray S o v a ∧ wpTree n P l S Q s (a.put o.dst v) w := by
      by_cases hw : Region.wanted o (yielded l.toArray a.tmps) = true
      · rw [if_pos hw] at h
        obtain ⟨v, hv, hn⟩ := h
        refine ⟨v, .inl ⟨hw, fun w1 hw1 => ?_⟩, hn⟩
        have h1 := hv w1 hw1
        unfold Oper.quietAt at h1
        cases hx : (execOp a.eval o).run P w1 with
        | halt x w2 => rw [hx] at h1; exact h1.elim
        | ok r w2 =>
          obtain ⟨v2, rfl⟩ := yieldsOnly_spec hyo _ hx
          rw [hx] at h1
          obtain ⟨rfl, rfl⟩ := h1
          rfl
      · rw [if_neg hw] at h
        exact ⟨undef, .inr ⟨by simpa using hw, rfl⟩, h⟩
    obtain ⟨v, hy', hn⟩ := key
    refine anyHI_take ho' hs hf hc (fun c a' w' h' => hQ c a' _ _ w' h') hy' hS ?_
    exact anyHI_tree hs hQ s _ _ w hB hS hn
  | .one i s, listed, a, w, hB, hS, h => by
    simp only [treeB, Bool.and_eq_true, beq_iff_eq] at hB
    unfold wpTree at h
    cases ho : l[i]? with
    | none => rw [ho] at h; exact h.elim
    | some o =>
      rw [ho] at h
      refine anyHI_one hB.1 ?_
      exact opIn_of_list ho (fun a' w' h' => ⟨h'.1, anyHI_tree hs hQ s _ a' w' hB.2 h'.1 h'.2⟩) h
  | .two i j s t, listed, a, w, hB, hS, h => by
    simp only [treeB, Bool.and_eq_true, beq_iff_eq, decide_eq_true_eq] at hB
    obtain ⟨⟨⟨hr, hl⟩, hBi⟩, hBj⟩ := hB
    unfold wpTree at h
    obtain ⟨hi, hj⟩ := h
    cases ho : l[i]? with
    | none => rw [ho] at hi; exact hi.elim
    | some o =>
      cases ho' : l[j]? with
      | none => rw [ho'] at hj; exact hj.elim
      | some o' =>
        rw [ho] at hi
        rw [ho'] at hj
        refine anyHI_two (fuel := s.len) hr ?_ ?_
        · exact opIn_of_list ho (fun a' w' h' => ⟨h'.1, anyHI_tree hs hQ s _ a' w' hBi h'.1 h'.2⟩) hi
        · exact opIn_of_list ho' (fun a' w' h' => ⟨h'.1, by rw [hl]; exact anyHI_tree hs hQ t _ a' w' hBj h'.1 h'.2⟩) hj
theorem oper_wpIn_of_wp {o : Oper} {K : Act → World → Prop} {a : Act} {w : World} (h : o.wp P a w K Q) : o.wpIn Fence.wide n P a w K Q := by
  unfold Oper.wp at h
  unfold Oper.wpIn
  refine ⟨fun _ _ => trivial, ?_⟩
  rw [sem_wide]
  generalize (execOp a.eval o).run P w = r at *
  cases r with
  | ok x w' =>
    cases x <;> simp only [Oper.upon, Oper.uponIn] at h ⊢ <;>
      first
        | exact h
        | exact ⟨fun h => by simp [Fence.wide] at h, callsIn_wide.2 h⟩
        | exact ⟨fun h => by simp [Fence.wide] at h, fun c cs _ => let ⟨v, w', r, s⟩ := h c cs; ⟨v, w', r, stepsIn_wide.2 s⟩⟩
  | halt x w' => cases x <;> simp only [Oper.upon, Oper.uponIn] at h ⊢ <;> exact h
/-- A law of the plain walk, in the fence. -/
theorem wpListIn_law {ops : Array Oper} {o : Oper} {rest : List Oper} {a : Act} {w : World} (hg : o.guard = none) (h : ∀ K : Act → World → Prop, (∀ a w, wpListIn Fence.wide n P ops Q rest a w → K a w) → o.wp P a w K Q) : wpListIn Fence.wide n P ops Q (o :: rest) a w :=
  wpListIn_plain hg fun K hK => oper_wpIn_of_wp (h K hK)
def treeAllB (l : List Oper) (s : Tn) : Bool :=
  Region.noSelect l.toArray && treeB l (Array.replicate l.length false) s && decide (s.len = l.length)
/-- **A REGION THAT DRAWS ITS ORDER, BY A TREE**; behind each operation that is no read S is shown anew. -/
theorem region_tree {id : Nat} {a : Act} {w : World} (S : World → Prop) (s : Tn) (hm : P.follows .mixedOrders = true) (hB : treeAllB l s = true) (hQ : ∀ c (a : Act) d v w, Q (.panic c) (a.put d v) w → Q (.panic c) a w) (hS : S w.drew)
    (h : wpTree n P l S Q s a w.drew) : (Code.region id l.toArray true).wpIn Fence.wide n P Q a w := by
  simp only [treeAllB, Bool.and_eq_true, decide_eq_true_eq] at hB
  obtain ⟨⟨h1, h2⟩, h3⟩ := hB
  refine wpIn_region_any hm ?_
  have hsz : l.toArray.size = l.length := by simp
  rw [hsz]
  have := anyHI_tree (P := P) (n := n) (S := S) (Q := Q) h1 hQ s (Array.replicate l.length false) a w.drew h2 hS h
  rw [h3] at this
  exact anyHI_sound _ _ _ _ this
/-- The like at a plain walk. -/
theorem region_treeW {id : Nat} {a : Act} {w : World} (S : World → Prop) (s : Tn) (hm : P.follows .mixedOrders = true) (hB : treeAllB l s = true) (hQ : ∀ c (a : Act) d v w, Q (.panic c) (a.put d v) w → Q (.panic c) a w) (hS : S w.drew)
    (h : wpTree 9 P l S Q s a w.drew) : (Code.region id l.toArray true).wp P Q a w := wpIn_wide.1 (region_tree S s hm hB hQ hS h)
end
end Go.Proofs.Ytomigaldomiefaa
