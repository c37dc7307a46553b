/- What follows is laid together from several texts of mine, in their order. -/
import Derived.Test.YtomigaldomiefaaQ9
import Derived.Test.YtomigaldomiefaaQ12
import Derived.Deep.CutRange

namespace Go.Proofs.Ytomigaldomiefaa
open Go.RowKit
set_option linter.unusedVariables false
set_option linter.unusedSimpArgs false

/-- take i: a read, whatever else may come up; one i: i is the one that may come up; two i j s t: i and j may come up: s behind i, t behind j. -/
inductive Tn where
  | nil
  | take (i : Nat) (t : Tn)
  | one (i : Nat) (t : Tn)
  | two (i j : Nat) (s t : Tn)
def Tn.len : Tn → Nat
  | .nil => 0
  | .take _ t => t.len + 1
  | .one _ t => t.len + 1
  | .two _ _ s _ => s.len + 1
def Tn.takes : List Nat → Tn → Tn
  | [], t => t
  | i :: l, t => .take i (Tn.takes l t)
def Tn.ones : List Nat → Tn → Tn
  | [], t => t
  | i :: l, t => .one i (Tn.ones l t)
def treeB (l : List Oper) : Array Bool → Tn → Bool
  | listed, .nil => (Region.ready .any l.toArray listed).isEmpty
  | listed, .take i t => atB l i yieldsOnly && Region.free .any l.toArray listed i && (Region.ready .any l.toArray listed).contains i && treeB l (listed.setIfInBounds i true) t
  | listed, .one i t => (Region.ready .any l.toArray listed) == [i] && treeB l (listed.setIfInBounds i true) t
  | listed, .two i j s t => (Region.ready .any l.toArray listed) == [i, j] && decide (s.len = t.len) && treeB l (listed.setIfInBounds i true) s && treeB l (listed.setIfInBounds j true) t
section
variable {P : Program} {n : Nat} {l : List Oper} {Q : Exit → Act → World → Prop} {S : World → Prop}
def wpTree (n : Nat) (P : Program) (l : List Oper) (S : World → Prop) (Q : Exit → Act → World → Prop) : Tn → Act → World → Prop
  | .nil, a, w => Q .normal a w
  | .take i t, a, w => match l[i]? with | some o => wpQuiet P l.toArray S (fun a' => wpTree n P l S Q t a' w) [o] a | none => False
  | .one i t, a, w => match l[i]? with | some o => wpListIn Fence.wide n P l.toArray (outQ Q fun a' w' => S w' ∧ wpTree n P l S Q t a' w') [o] a w | none => False
  | .two i j s t, a, w => (match l[i]? with | some o => wpListIn Fence.wide n P l.toArray (outQ Q fun a' w' => S w' ∧ wpTree n P l S Q s a' w') [o] a w | none => False) ∧
      (match l[j]? with | some o => wpListIn Fence.wide n P l.toArray (outQ Q fun a' w' => S w' ∧ wpTree n P l S Q t a' w') [o] a w | none => False)
theorem wpTree_take {i : Nat} {o : Oper} {s : Tn} {a : Act} {w : World} (ho : l[i]? = some o) (h : wpQuiet P l.toArray S (fun a' => wpTree n P l S Q s a' w) [o] a) : wpTree n P l S Q (.take i s) a w := by
  unfold wpTree; rw [ho]; exact h
theorem wpTree_one {i : Nat} {o : Oper} {s : Tn} {a : Act} {w : World} (ho : l[i]? = some o) (h : wpListIn Fence.wide n P l.toArray (outQ Q fun a' w' => S w' ∧ wpTree n P l S Q s a' w') [o] a w) : wpTree n P l S Q (.one i s) a w := by
  unfold wpTree; rw [ho]; exact h
theorem wpTree_two {i j : Nat} {o o' : Oper} {s t : Tn} {a : Act} {w : World} (ho : l[i]? = some o) (ho' : l[j]? = some o') (h : wpListIn Fence.wide n P l.toArray (outQ Q fun a' w' => S w' ∧ wpTree n P l S Q s a' w') [o] a w) (h' : wpListIn Fence.wide n P l.toArray (outQ Q fun a' w' => S w' ∧ wpTree n P l S Q t a' w') [o'] a w) : wpTree n P l S Q (.two i j s t) a w := by
  unfold wpTree; rw [ho, ho']; exact ⟨h, h'⟩
theorem wpTree_nil {a : Act} {w : World} (h : Q .normal a w) : wpTree n P l S Q .nil a w := h
theorem wpTree_skip {i : Nat} {o : Oper} {s : Tn} {a : Act} {w : World} (ho : l[i]? = some o) (hw : Region.wanted o (yielded l.toArray a.tmps) = false) (hS : S w) (h : wpTree n P l S Q s (a.put o.dst undef) w) : wpTree n P l S Q (.one i s) a w := by
  refine wpTree_one ho ?_
  simp only [wpListIn, hw]
  exact ⟨fun _ _ => trivial, outQ_normal hS h⟩
theorem anyHI_two {i j : Nat} {fuel : Nat} {listed : Array Bool} {a : Act} {w : World} {md : Region.Mode} {ops : Array Oper} (hr : Region.ready md ops listed = [i, j]) (h : wpOpIn Fence.wide n P ops Q i (fun a' w' => S w' ∧ wpAnyHI n P md ops Q S fuel (listed.setIfInBounds i true) a' w') a w) (h' : wpOpIn Fence.wide n P ops Q j (fun a' w' => S w' ∧ wpAnyHI n P md ops Q S fuel (listed.setIfInBounds j true) a' w') a w) : wpAnyHI n P md ops Q S (fuel + 1) listed a w :=
  ⟨fun h0 => (by rw [hr] at h0; cases h0), fun k hk => by
    rw [hr] at hk
    rcases List.mem_cons.1 hk with rfl | hk
    · exact h
    · rw [List.mem_singleton.1 hk]; exact h'⟩
theorem anyHI_tree (hs : Region.noSelect l.toArray = true) (hQ : ∀ c (a : Act) d v w, Q (.panic c) (a.put d v) w → Q (.panic c) a w) : ∀ (s : Tn) (listed : Array Bool) (a : Act) (w : World), treeB l listed s = true → S w →
    wpTree n P l S Q s a w → wpAnyHI n P .any l.toArray Q S s.len listed a w
  | .nil, listed, a, w, hB, _, h => anyHI_done (by simpa [treeB] using hB) h _
  | .take i s, listed, a, w, hB, hS, h => by
    simp only [treeB, Bool.and_eq_true] at hB
    obtain ⟨⟨⟨hyo, hf⟩, hc⟩, hB⟩ := hB
    obtain ⟨o, ho, hyo⟩ := atB_spec hyo
    have ho' : l.toArray[i]? = some o := by simpa using ho
    unfold wpTree at h
    rw [ho] at h
    simp only [wpQuiet] at h
    have key : ∃ v, YieldsIf P l.toArray S o v a ∧ wpTree n P l S Q s (a.put o.dst v) w := by
      by_cases hw : Region.wanted o (yielded l.toArray a.tmps) = true
      · rw [if_pos hw] at h
        obtain ⟨v, hv, hn⟩ := h
        refine ⟨v, .inl ⟨hw, fun w1 hw1 => ?_⟩, hn⟩
        have h1 := hv w1 hw1
        unfold Oper.quietAt at h1
        cases hx : (execOp a.eval o).run P w1 with
        | halt x w2 => rw [hx] at h1; exact h1.elim
        | ok r w2 =>
          obtain ⟨v2, rfl⟩ := yieldsOnly_spec hyo _ hx
          rw [hx] at h1
          obtain ⟨rfl, rfl⟩ := h1
          rfl
      · rw [if_neg hw] at h
        exact ⟨undef, .inr ⟨by simpa using hw, rfl⟩, h⟩
    obtain ⟨v, hy', hn⟩ := key
    refine anyHI_take ho' hs hf hc (fun c a' w' h' => hQ c a' _ _ w' h') hy' hS ?_
    exact anyHI_tree hs hQ s _ _ w hB hS hn
  | .one i s, listed, a, w, hB, hS, h => by
    simp only [treeB, Bool.and_eq_true, beq_iff_eq] at hB
    unfold wpTree at h
    cases ho : l[i]? with
    | none => rw [ho] at h; exact h.elim
    | some o =>
      rw [ho] at h
      refine anyHI_one hB.1 ?_
      exact opIn_of_list ho (fun a' w' h' => ⟨h'.1, anyHI_tree hs hQ s _ a' w' hB.2 h'.1 h'.2⟩) h
  | .two i j s t, listed, a, w, hB, hS, h => by
    simp only [treeB, Bool.and_eq_true, beq_iff_eq, decide_eq_true_eq] at hB
    obtain ⟨⟨⟨hr, hl⟩, hBi⟩, hBj⟩ := hB
    unfold wpTree at h
    obtain ⟨hi, hj⟩ := h
    cases ho : l[i]? with
    | none => rw [ho] at hi; exact hi.elim
    | some o =>
      cases ho' : l[j]? with
      | none => rw [ho'] at hj; exact hj.elim
      | some o' =>
        rw [ho] at hi
        rw [ho'] at hj
        refine anyHI_two (fuel := s.len) hr ?_ ?_
        · exact opIn_of_list ho (fun a' w' h' => ⟨h'.1, anyHI_tree hs hQ s _ a' w' hBi h'.1 h'.2⟩) hi
        · exact opIn_of_list ho' (fun a' w' h' => ⟨h'.1, by rw [hl]; exact anyHI_tree hs hQ t _ a' w' hBj h'.1 h'.2⟩) hj
theorem oper_wpIn_of_wp {o : Oper} {K : Act → World → Prop} {a : Act} {w : World} (h : o.wp P a w K Q) : o.wpIn Fence.wide n P a w K Q := by
  unfold Oper.wp at h
  unfold Oper.wpIn
  refine ⟨fun _ _ => trivial, ?_⟩
  rw [sem_wide]
  generalize (execOp a.eval o).run P w = r at *
  cases r with
  | ok x w' =>
    cases x <;> simp only [Oper.upon, Oper.uponIn] at h ⊢ <;>
      first
        | exact h
        | exact ⟨fun h => by simp [Fence.wide] at h, callsIn_wide.2 h⟩
        | exact ⟨fun h => by simp [Fence.wide] at h, fun c cs _ => let ⟨v, w', r, s⟩ := h c cs; ⟨v, w', r, stepsIn_wide.2 s⟩⟩
  | halt x w' => cases x <;> simp only [Oper.upon, Oper.uponIn] at h ⊢ <;> exact h
/-- A law of the plain walk, in the fence. -/
theorem wpListIn_law {ops : Array Oper} {o : Oper} {rest : List Oper} {a : Act} {w : World} (hg : o.guard = none) (h : ∀ K : Act → World → Prop, (∀ a w, wpListIn Fence.wide n P ops Q rest a w → K a w) → o.wp P a w K Q) : wpListIn Fence.wide n P ops Q (o :: rest) a w :=
  wpListIn_plain hg fun K hK => oper_wpIn_of_wp (h K hK)
def treeAllB (l : List Oper) (s : Tn) : Bool :=
  Region.noSelect l.toArray && treeB l (Array.replicate l.length false) s && decide (s.len = l.length)
/-- **A REGION THAT DRAWS ITS ORDER, BY A TREE**; behind each operation that is no read S is shown anew. -/
theorem region_tree {id : Nat} {a : Act} {w : World} (S : World → Prop) (s : Tn) (hm : P.follows .mixedOrders = true) (hB : treeAllB l s = true) (hQ : ∀ c (a : Act) d v w, Q (.panic c) (a.put d v) w → Q (.panic c) a w) (hS : S w.drew)
    (h : wpTree n P l S Q s a w.drew) : (Code.region id l.toArray true).wpIn Fence.wide n P Q a w := by
  simp only [treeAllB, Bool.and_eq_true, decide_eq_true_eq] at hB
  obtain ⟨⟨h1, h2⟩, h3⟩ := hB
  refine wpIn_region_any hm ?_
  have hsz : l.toArray.size = l.length := by simp
  rw [hsz]
  have := anyHI_tree (P := P) (n := n) (S := S) (Q := Q) h1 hQ s (Array.replicate l.length false) a w.drew h2 hS h
  rw [h3] at this
  exact anyHI_sound _ _ _ _ this
/-- The like at a plain walk. -/
theorem region_treeW {id : Nat} {a : Act} {w : World} (S : World → Prop) (s : Tn) (hm : P.follows .mixedOrders = true) (hB : treeAllB l s = true) (hQ : ∀ c (a : Act) d v w, Q (.panic c) (a.put d v) w → Q (.panic c) a w) (hS : S w.drew)
    (h : wpTree 9 P l S Q s a w.drew) : (Code.region id l.toArray true).wp P Q a w := wpIn_wide.1 (region_tree S s hm hB hQ hS h)
end
end Go.Proofs.Ytomigaldomiefaa

namespace Go.Proofs.Ytomigaldomiefaa
open Go.RowKit Go.Shelf Go.MapKept Go.ChangeMaps
attribute [local go_sem] Oper.semAt_some
attribute [local simp, local go_sem] wide_fn
set_option linter.unusedVariables false
set_option linter.unusedSimpArgs false

set_option maxHeartbeats 400000 in
theorem CloneG_any (A : Option Addr) (n c : Nat) (xs : List Value) (hlen : n ≤ 1048576) (w : World) (hs : Src w 1 A n xs) (h1 : ∀ u ∈ xs, u.oneCell' = true) :
    Calls Try.prog 50 #[.slice A n c] w fun e w' => ∃ A' c', e = .returned (.slice A' n c') ∧ w'.ownsRow w.heap.size 23 1 (.slice A' n c') n xs ∧ Below w.heap.size w w' := by
  obtain ⟨i0, hi, hz0, hz1, hz2⟩ := info_parts grp_info
  have q22 : ∀ (w : World) (a : Option Addr) (n c n' c' : Nat), (binOp .eql 35 (.slice a n c) (.slice none n' c')).run Try.prog w = .ok (.bool a.isNone) w := fun w a n c n' c' => Lib.run_eql_slice_nil w _ _ a n c n' c' Try.underlying35
  cases A with
  | none =>
    have hn : n = 0 := by
      rcases Nat.eq_zero_or_pos n with h | h
      · exact h
      · obtain ⟨_, e, _⟩ := hs.lies h; cases e
    subst hn
    obtain rfl : xs = [] := List.eq_nil_of_length_eq_zero (by simpa using hs.len)
    clear hs h1
    go_enter Try.func50, Try.ntmps50
    go_wp2
    go_ret
    exact ⟨_, _, rfl, World.ownsRow_nil _ _ _ _, Below.refl _ _⟩
  | some ad =>
    have H1 := Lib.hid h1
    have HO := Lib.hid (World.ownsRow_made (base := w.heap.size) (size := 1) (e := 23) w #[] 0 (Nat.le_refl _) (Nat.zero_le _) rfl)
    have HS := Lib.hid (hs.keep (w' := w.alloc (.cells #[] 23)) (fun a v h => (World.cell?_alloc_lt _ _ _ (World.block_lt_of_cell? w a h)).trans h))
    have HB : Hid (Below w.heap.size w (w.alloc (.cells #[] 23))) := by unfold Hid; (repeat (first | (with_reducible refine Below.drew ?_) | (with_reducible refine below_drewN0 ?_ _) | ((with_reducible refine Below.setCell ?_ ?_ _); rotate_left; focus (first | omega | (simp; done) | (simp; omega) | (simp at *; omega))) | ((with_reducible refine Below.alloc ?_ ?_ _); rotate_left; focus (first | omega | (simp; done) | (simp; omega) | (simp at *; omega))) | (with_reducible exact Below.refl _ _)))
    have b1 : Hid (0 + n ≤ maxLen) := by unfold Hid maxLen; omega
    have b2 : Hid ((0 + n) * 24 ≤ 140737488355328) := by unfold Hid; omega
    clear hs h1
    go_enter Try.func50, Try.ntmps50
    go_wp2_with (at_builtin; refine wpList_append_src _ rfl _ _ 35 rfl w.heap.size 23 i0 _ 1 24 Try.underlying35 hi hz0 hz1 hz2 rfl (by decide) _ 0 [] rfl HO.out (some ad) n c xs rfl HS.out H1.out b1.out b2.out (by simp) ?_; intro v' w1 hown hgrow hv)
    rw [Nat.zero_add, List.nil_append] at hown
    obtain ⟨A', c', rfl, _, _⟩ := own_shape hown
    have hown := Lib.hid hown
    go_wp2
    go_ret
    refine ⟨A', c', rfl, hown.out, HB.out.grown hgrow (by simp) ?_⟩
    intro k hk
    have : w.heap.size = k := by injection hk
    omega
theorem GrsIs.one {w : World} {B : Nat} {vs : List Value} {gs : List (List Wr)} (h : ∀ (i : Nat) (g : List Wr), gs[i]? = some g → ∃ u, vs[i]? = some u ∧ WrsIs w B u g) (hl : vs.length = gs.length) : ∀ u ∈ vs, u.oneCell' = true := by
  intro u hu
  obtain ⟨i, hi⟩ := List.mem_iff_getElem?.1 hu
  have hlt : i < gs.length := by rw [← hl]; exact (List.getElem?_eq_some_iff.1 hi).1
  obtain ⟨u', h1, h2⟩ := h i gs[i] (List.getElem?_eq_getElem hlt)
  rw [hi] at h1; injection h1 with h1; subst h1
  obtain ⟨n, A, c, rfl⟩ := h2.shape
  rfl
set_option maxRecDepth 100000 in
set_option maxHeartbeats 4000000 in
theorem moving_any (B C H L : Nat) (v4 v5 : Value) (S : Cr) (w : World) (h : CrIs w B C H L v4 v5 S) :
    Calls Try.prog 35 #[.pointer (some ⟨C, 0, none⟩)] w fun e w' => ∃ v, e = .returned v ∧ w'.ownsRow w.heap.size 3 1 v (seenL S.n S.mov).length ((seenL S.n S.mov).map encZ) ∧ Below w.heap.size w w' := by
  have hmm := @run_makeMap Try.prog
  obtain ⟨vs, hv1, hv2⟩ := h.grs
  obtain ⟨A4, c4, rfl, _, _⟩ := own_shape hv1
  obtain ⟨n5, A5, c5, rfl⟩ := h.fly.shape
  obtain ⟨Q, hQ⟩ : ∃ Q, Q = w.heap.size := ⟨_, rfl⟩
  obtain ⟨w1, hw1⟩ : ∃ w1, w1 = w.alloc (.map #[] 0) := ⟨_, rfl⟩
  have HB1 : Hid (Below w.heap.size w w1) := by unfold Hid; rw [hw1]; (repeat (first | (with_reducible refine Below.drew ?_) | (with_reducible refine below_drewN0 ?_ _) | ((with_reducible refine Below.setCell ?_ ?_ _); rotate_left; focus (first | omega | (simp; done) | (simp; omega) | (simp at *; omega))) | ((with_reducible refine Below.alloc ?_ ?_ _); rotate_left; focus (first | omega | (simp; done) | (simp; omega) | (simp at *; omega))) | (with_reducible exact Below.refl _ _)))
  have HSe : Hid (SeenIs w1 Q S.n (fun _ => false)) := by unfold Hid; rw [hw1, hQ]; exact SeenIs.fresh _ _
  have HC0 := Lib.hid h
  have HC1 := Lib.hid (h.below HB1.out)
  have HW1 := Lib.hid hw1
  have HQe := Lib.hid hQ
  have HV : Hid (w.ownsRow B 23 1 (.slice A4 S.groups.length c4) S.groups.length vs ∧ ∀ (i : Nat) (g : List Wr), S.groups[i]? = some g → ∃ u, vs[i]? = some u ∧ WrsIs w B u g) := ⟨hv1, hv2⟩
  have k1 : ∀ t : Later w1, t.u.cell? ⟨C, 4, none⟩ = some (.slice A4 S.groups.length c4) := fun t => (HC1.out.below t.h).row.cell 4
  have k2 : ∀ t : Later w1, t.u.cell? ⟨C, 5, none⟩ = some (.slice A5 n5 c5) := fun t => (HC1.out.below t.h).row.cell 5
  have HCl : Hid (∀ t : Later w1, Calls Try.prog 50 #[.slice A4 S.groups.length c4] t.u fun e w' => ∃ A' c', e = .returned (.slice A' S.groups.length c') ∧ w'.ownsRow t.u.heap.size 23 1 (.slice A' S.groups.length c') S.groups.length vs ∧ Below t.u.heap.size t.u w') := fun t =>
    CloneG_any A4 S.groups.length c4 vs HC0.out.few.1 t.u ((Src.of_own hv1).keep (fun a v h => keep_below t.h _ _ (keep_below HB1.out _ _ h))) (GrsIs.one hv2 (by have := hv1.1; omega))
  have HLn : Hid (S.groups.length + 1 ≤ maxLen ∧ (S.groups.length + 1) * 24 ≤ 140737488355328) := by have := HC0.out.few.1; unfold Hid maxLen; omega
  obtain ⟨i0, hi, hz0, hz1, hz2⟩ := info_parts grp_info
  clear h hw1 hQ hv1 hv2
  go_enter Try.func35, Try.ntmps35
  go_upto_region 2 with fail
  rw [← HW1.out, ← HQe.out]
  clear hmm
  go_cut [20, 21, 22] from 10 to 20 (fun b20 b21 b22 wx => ∃ A c, b20 = .slice A (S.groups.length + 1) c ∧ b21 = .int .i64 ((S.groups.length + 1 : Nat) : Int) ∧ b22 = .int .i64 0 ∧ wx.ownsRow w1.heap.size 23 1 (.slice A (S.groups.length + 1) c) (S.groups.length + 1) (vs ++ [.slice A5 n5 c5]) ∧ Below w1.heap.size w1 wx)
  case first =>
    refine wp_region_noPanic ?_
    refine region_treeW (fun u => ∃ t : Later w1, u = t.u) (Tn.takes [0, 1, 2, 3, 5, 6, 7, 8, 12] (.two 4 9 (.one 9 (.one 10 (.take 11 .nil))) (.one 4 (.one 10 (.take 11 .nil))))) (by kernel_rfl) (by kernel_rfl) (fun _ _ _ _ _ h => h) ⟨⟨_, (Below.refl _ _).drew⟩, rfl⟩ ?_
    simp only [Tn.takes]
    (repeat ((with_reducible refine wpTree_take (by with_unfolding_all exact rfl) ?_); (with_reducible (show wpQuiet _ _ _ _ (_ :: _) _)); go_big_quiet_step (fail); (with_reducible refine wpQuiet_nil ?_)))
    (with_reducible refine wpTree_two (by with_unfolding_all exact rfl) (by with_unfolding_all exact rfl) ?_ ?_)
    · gi_wp2_with fail
      refine ((callsIn_wide (n := 8)).2 (HCl.out ⟨w1.drew, (Below.refl _ _).drew⟩)).mono ?_
      rintro e w3 ⟨A', c', rfl, hown, hb⟩
      have HO3 := Lib.hid hown
      have HB3 : Hid (Below w1.heap.size w1 w3) := (Below.refl _ _).drew.trans hb
      have HB4 : Hid (Below w1.heap.size w1 (w3.alloc (.cells #[.slice A5 n5 c5] 23))) := HB3.out.alloc HB3.out.size _
      have HO4 : Hid ((w3.alloc (.cells #[.slice A5 n5 c5] 23)).ownsRow w1.heap.size 23 1 (.slice A' S.groups.length c') S.groups.length vs) := own_below hown (by (repeat (first | (with_reducible refine Below.drew ?_) | (with_reducible refine below_drewN0 ?_ _) | ((with_reducible refine Below.setCell ?_ ?_ _); rotate_left; focus (first | omega | (simp; done) | (simp; omega) | (simp at *; omega))) | ((with_reducible refine Below.alloc ?_ ?_ _); rotate_left; focus (first | omega | (simp; done) | (simp; omega) | (simp at *; omega))) | (with_reducible exact Below.refl _ _))))
      have HS4 : Hid (Src (w3.alloc (.cells #[.slice A5 n5 c5] 23)) 1 (some ⟨w3.heap.size, 0, none⟩) 1 [.slice A5 n5 c5]) := src_new (w := w3) (t := 23) (cs := [.slice A5 n5 c5]) (sz := 1) rfl
      clear hown hb
      gi_wp2_with fail
      (with_reducible refine outQ_normal ?_ ?_); exact ⟨⟨w3, HB3.out⟩, rfl⟩
      (with_reducible refine wpTree_one (by with_unfolding_all exact rfl) ?_)
      gi_wp2_with fail
      (with_reducible refine outQ_normal ?_ ?_); exact ⟨⟨_, HB4.out⟩, rfl⟩
      (with_reducible refine wpTree_one (by with_unfolding_all exact rfl) ?_)
      refine wpListIn_law rfl fun K hK => wp_append_src _ (.tmp 14) (.tmp 19) 35 rfl w1.heap.size 23 i0 _ 1 24 Try.underlying35 hi hz0 hz1 hz2 rfl (by decide) (.slice A' S.groups.length c') S.groups.length vs rfl HO4.out _ 1 1 _ rfl HS4.out (by intro u hu; rw [List.mem_singleton.1 hu]; rfl) HLn.out.1 HLn.out.2 (by have := HB4.out.size; omega) ?_
      intro v6 w6 hown hgrow hat
      obtain ⟨A6, c6, rfl, _, _⟩ := own_shape hown
      have HB6 : Hid (Below w1.heap.size w1 w6) := HB4.out.grown hgrow HB4.out.size (fun y hy => by
        cases A' with
        | none => simp [Value.ownBlock] at hy
        | some ad => exact (own_blk HO4.out (k := y) (by unfold blkV; rw [hy]; simp)).1)
      have HO6 := Lib.hid hown
      refine hK _ _ (wpListIn_nil (outQ_normal ⟨⟨w6, HB6.out⟩, rfl⟩ ?_))
      clear hown hgrow hat hK
      simp only [Act.put, List.setIfInBounds_toArray, List.set_cons_succ, List.set_cons_zero]
      ((with_reducible refine wpTree_take (by with_unfolding_all exact rfl) ?_); (with_reducible (show wpQuiet _ _ _ _ (_ :: _) _)); go_big_quiet_step (fail); (with_reducible refine wpQuiet_nil ?_))
      with_reducible refine wpTree_nil ?_
      refine NoPanic.normal ?_
      clear k1 k2 hi hz0 hz1 hz2
      go_wp2_with fail
      go_meet
      case rel => exact ⟨A6, c6, rfl, by simp, rfl, HO6.out, HB6.out⟩
    · gi_wp2_with fail
      have HB3 : Hid (Below w1.heap.size w1 (w1.alloc (.cells #[.slice A5 n5 c5] 23)).drew) := by unfold Hid; (repeat (first | (with_reducible refine Below.drew ?_) | (with_reducible refine below_drewN0 ?_ _) | ((with_reducible refine Below.setCell ?_ ?_ _); rotate_left; focus (first | omega | (simp; done) | (simp; omega) | (simp at *; omega))) | ((with_reducible refine Below.alloc ?_ ?_ _); rotate_left; focus (first | omega | (simp; done) | (simp; omega) | (simp at *; omega))) | (with_reducible exact Below.refl _ _)))
      (with_reducible refine outQ_normal ?_ ?_); exact ⟨⟨_, HB3.out⟩, rfl⟩
      (with_reducible refine wpTree_one (by with_unfolding_all exact rfl) ?_)
      gi_wp2_with fail
      refine ((callsIn_wide (n := 8)).2 (HCl.out ⟨(w1.alloc (.cells #[.slice A5 n5 c5] 23)).drew, HB3.out⟩)).mono ?_
      rintro e w3 ⟨A', c', rfl, hown, hb⟩
      have HB4 : Hid (Below w1.heap.size w1 w3) := HB3.out.trans (hb.mono HB3.out.size)
      have HO4 : Hid (w3.ownsRow w1.heap.size 23 1 (.slice A' S.groups.length c') S.groups.length vs) := own_mono hown HB3.out.size
      have HS4 : Hid (Src w3 1 (some ⟨w1.heap.size, 0, none⟩) 1 [.slice A5 n5 c5]) := (src_new (w := w1) (t := 23) (cs := [.slice A5 n5 c5]) (sz := 1) rfl).keep (fun a v h => keep_below hb _ _ h)
      clear hown hb
      gi_wp2_with fail
      (with_reducible refine outQ_normal ?_ ?_); exact ⟨⟨w3, HB4.out⟩, rfl⟩
      (with_reducible refine wpTree_one (by with_unfolding_all exact rfl) ?_)
      refine wpListIn_law rfl fun K hK => wp_append_src _ (.tmp 14) (.tmp 19) 35 rfl w1.heap.size 23 i0 _ 1 24 Try.underlying35 hi hz0 hz1 hz2 rfl (by decide) (.slice A' S.groups.length c') S.groups.length vs rfl HO4.out _ 1 1 _ rfl HS4.out (by intro u hu; rw [List.mem_singleton.1 hu]; rfl) HLn.out.1 HLn.out.2 (by have := HB4.out.size; omega) ?_
      intro v6 w6 hown hgrow hat
      obtain ⟨A6, c6, rfl, _, _⟩ := own_shape hown
      have HB6 : Hid (Below w1.heap.size w1 w6) := HB4.out.grown hgrow HB4.out.size (fun y hy => by
        cases A' with
        | none => simp [Value.ownBlock] at hy
        | some ad => exact (own_blk HO4.out (k := y) (by unfold blkV; rw [hy]; simp)).1)
      have HO6 := Lib.hid hown
      refine hK _ _ (wpListIn_nil (outQ_normal ⟨⟨w6, HB6.out⟩, rfl⟩ ?_))
      clear hown hgrow hat hK
      simp only [Act.put, List.setIfInBounds_toArray, List.set_cons_succ, List.set_cons_zero]
      ((with_reducible refine wpTree_take (by with_unfolding_all exact rfl) ?_); (with_reducible (show wpQuiet _ _ _ _ (_ :: _) _)); go_big_quiet_step (fail); (with_reducible refine wpQuiet_nil ?_))
      with_reducible refine wpTree_nil ?_
      refine NoPanic.normal ?_
      clear k1 k2 hi hz0 hz1 hz2
      go_wp2_with fail
      go_meet
      case rel => exact ⟨A6, c6, rfl, by simp, rfl, HO6.out, HB6.out⟩
  case rest =>
    obtain ⟨A, c, rfl, rfl, rfl, hown, hb⟩ := hcut
    have HBw : Hid (Below w.heap.size w wc) := HB1.out.trans (hb.mono HB1.out.size)
    have HSe2 : Hid (SeenIs wc Q S.n (fun _ => false)) := HSe.out.turns (Turns.of_below hb []) (by simp)
    have HC2 := Lib.hid (HC0.out.below HBw.out)
    obtain ⟨all, hall⟩ : ∃ all, all = S.groups ++ [S.fly] := ⟨_, rfl⟩
    have HAll := Lib.hid hall
    have hal : all.length = S.groups.length + 1 := by rw [hall]; simp
    have HAv : Hid (∀ (i : Nat) (g : List Wr), all[i]? = some g → g.length ≤ 3518437208883 ∧ OkL S.n S.sz g ∧ ∃ A' n' c', (vs ++ [Value.slice A5 n5 c5])[i]? = some (.slice A' n' c') ∧ WrsIs wc B (.slice A' n' c') g) := fun i g hg => by
      have hvl : vs.length = S.groups.length := by have := HV.out.1.1; omega
      rw [hall] at hg
      rcases Nat.lt_or_ge i S.groups.length with hi | hi
      · rw [List.getElem?_append_left hi] at hg
        obtain ⟨u, h1, h2⟩ := HV.out.2 i g hg
        obtain ⟨n', A', c', rfl⟩ := h2.shape
        exact ⟨HC0.out.few.2.1 g (List.mem_of_getElem? hg), HC0.out.okG g (List.mem_of_getElem? hg), A', n', c', by rw [List.getElem?_append_left (by omega)]; exact h1, h2.lone (Turns.of_below HBw.out []) (lone_nil _)⟩
      · rw [List.getElem?_append_right hi] at hg
        have hi2 : i = S.groups.length := by
          have := (List.getElem?_eq_some_iff.1 hg).1
          simp at this; omega
        subst hi2
        simp at hg; subst hg
        exact ⟨HC0.out.few.2.2, HC0.out.okF, A5, n5, c5, by rw [List.getElem?_append_right (by omega), hvl]; simp, HC2.out.fly⟩
    obtain ⟨an, han⟩ : ∃ an, an = S.groups.length + 1 := ⟨_, rfl⟩
    have HAn : Hid (an = all.length) := by unfold Hid; omega
    have HAs : Hid (an ≤ 1048577) := by have := HC0.out.few.1; unfold Hid; omega
    have hcast : ((S.groups.length + 1 : Nat) : Int) = (S.groups.length : Int) + 1 := by omega
    rw [← han] at hown ⊢
    have HOw := Lib.hid hown
    have HQn : Hid (Q < wc.heap.size ∧ ∀ t cs, ¬ Row wc Q t cs) := ⟨HSe2.out.lt, HSe2.out.not_row⟩
    have HSn := Lib.hid HC0.out.n.2
    clear hown hb hall hal han k1 k2 hi hz0 hz1 hz2 HCl HLn HSe
    have HLo : Hid (Lone wc [Q]) := fun g ty cs hr _ hm => HQn.out.2 ty cs (List.mem_singleton.1 hm ▸ hr)
    go_wp2
    go_loopw [5, 7, 22] (fun _ _ i wr => ∃ k : Nat, i = .int .i64 k ∧ k ≤ an ∧ SeenIs wr Q S.n (fun p => (all.take k).any (fun g => inW g p)) ∧ Turns wc wr [Q]) (fun _ _ i _ => an - (intOf i).toNat)
    case atStart => exact ⟨0, rfl, by omega, by simpa using HSe2.out, Turns.refl _ _⟩
    case round =>
      obtain ⟨k, rfl, hk, hse, ht⟩ := hrel
      have HSk := Lib.hid hse
      have HTk := Lib.hid ht
      clear hse ht
      by_cases hkn : k < an
      · obtain ⟨g, hg⟩ : ∃ g, all[k]? = some g := ⟨_, List.getElem?_eq_getElem (by rw [← HAn.out]; exact hkn)⟩
        obtain ⟨hgl, hok, Ag, ng, cg, hav, hwg⟩ := HAv.out k g hg
        obtain ⟨Mb, c', eA, hcell⟩ := own_cellAt (own_lone (by decide) HOw.out HTk.out HLo.out) hkn hav
        injection eA with eA _ ec
        subst eA
        subst ec
        have hng : ng = g.length := hwg.at0.1
        subst hng
        obtain ⟨gl, hgle⟩ : ∃ gl, gl = g.length := ⟨_, rfl⟩
        have HGe := Lib.hid hgle
        have HGw : Hid (∀ X, Turns wc X [Q] → WrsIs X B (.slice Ag gl cg) g) := fun X h => by rw [hgle]; exact hwg.lone h HLo.out
        rw [← hgle] at hcell hgl
        have HOk := Lib.hid hok
        have HTs : Hid (∀ p, (all.take (k + 1)).any (fun g => inW g p) = ((all.take k).any (fun g => inW g p) || inW g p)) := fun p => by
          rw [List.take_add_one, hg, List.any_append]; simp
        have HBa : Hid (Turns wc wr [Q]) := HTk.out
        clear hg hav hwg hok hgle
        go_wp2
        clear hcell
        go_loopw [7, 28] (fun _ i wr2 => ∃ j : Nat, i = .int .i64 j ∧ j ≤ gl ∧ SeenIs wr2 Q S.n (fun p => (all.take k).any (fun g => inW g p) || inW (g.take j) p) ∧ Turns wc wr2 [Q]) (fun _ i _ => gl - (intOf i).toNat)
        case atStart => exact ⟨0, rfl, by omega, by simpa [inW] using HSk.out, HTk.out⟩
        case round =>
          obtain ⟨j, rfl, hj, hse, ht⟩ := hrel
          have HSj := Lib.hid hse
          have HTj := Lib.hid ht
          clear hse ht
          by_cases hjn : j < gl
          · obtain ⟨⟨q, d⟩, hx⟩ : ∃ x, g[j]? = some x := ⟨_, List.getElem?_eq_getElem (by rw [← HGe.out]; exact hjn)⟩
            obtain ⟨gb, A1, c1, rfl, q0, q1, q2, hd⟩ := (HGw.out wr HTj.out).at0.2 j (q, d) hx
            have hqn : q < S.n := (HOk.out _ (List.mem_of_getElem? hx)).1
            obtain ⟨wz, hwz⟩ : ∃ wz, wz = wr.alloc (.cells #[.int .i64 0, .int .i64 q, .slice A1 d.length c1] 30) := ⟨_, rfl⟩
            have HTz : Hid (Turns wc wz [Q]) := by unfold Hid; rw [hwz]; exact HTj.out.alloc _
            have HRz : Hid (Row wz wr.heap.size 30 #[.int .i64 0, .int .i64 q, .slice A1 d.length c1]) := by unfold Hid; rw [hwz]; exact Row.fresh _ _ _
            have hsz : SeenIs wz Q S.n (fun p => (all.take k).any (fun g => inW g p) || inW (g.take j) p) := by
              rw [hwz]; exact HSj.out.turns ((Turns.refl _ []).alloc _) (by simp)
            obtain ⟨w5, hup, hs5, ht5⟩ := hsz.set HSn.out hqn
            have HS5 : Hid (SeenIs w5 Q S.n (fun p => (all.take k).any (fun g => inW g p) || inW (g.take (j + 1)) p)) := by
              unfold Hid
              have e : (fun p => (all.take k).any (fun g => inW g p) || inW (g.take (j + 1)) p) = setSeen (fun p => (all.take k).any (fun g => inW g p) || inW (g.take j) p) q := by
                funext p
                have : inW (g.take (j + 1)) p = (inW (g.take j) p || (p == q)) := by
                  unfold inW
                  rw [List.take_add_one, hx, List.any_append]
                  simp [Bool.beq_comm]
                rw [this]; unfold setSeen
                cases (p == q) <;> simp
              rw [e]; exact hs5
            have HT5 : Hid (Turns wc w5 [Q]) := HTz.out.trans ht5 (fun y hy => .inl hy)
            have r1 := HRz.out.cell 1
            simp only [List.getElem?_toArray, List.getElem?_cons_zero, List.getElem?_cons_succ] at r1
            clear hsz hs5 ht5 hx hd
            generalize d.length = dl at *
            subst hwz
            go_wp2
            go_roundw
            case rel => exact ⟨j + 1, by go_num, by omega, HS5.out, HT5.out⟩
            case measure => simp [intOf]; omega
          · obtain rfl : j = gl := by omega
            have hfull : g.take j = g := by rw [HGe.out]; exact List.take_length
            have HS6 : Hid (SeenIs wr Q S.n (fun p => (all.take (k + 1)).any (fun g => inW g p))) := by
              unfold Hid
              have e : (fun p => (all.take (k + 1)).any (fun g => inW g p)) = (fun p => (all.take k).any (fun g => inW g p) || inW (g.take j) p) := by
                funext p; rw [HTs.out p, hfull]
              rw [e]; exact HSj.out
            clear hfull
            have hAs := HAs.out
            go_wp2
            go_roundw
            case rel => exact ⟨k + 1, by go_num, by omega, HS6.out, HTj.out⟩
            case measure => simp [intOf]; omega
      · obtain rfl : k = an := by omega
        have hfull : all.take k = all := by rw [HAn.out]; exact List.take_length
        rw [hfull] at HSk
        have HC3 := Lib.hid (HC2.out.keep (Turns.refl wc []))
        clear hfull
        have hLt := HTk.out
        obtain ⟨⟨cn, f, hmap, hf⟩, hlt⟩ := HC0.out.loose
        have HMap : Hid (MapIs Try.prog 77 wr L cn f) := (hmap.turns (Turns.of_below HBw.out []) (by simp)).turns hLt (fun hm => by
          have h1 := hmap.lt
          have h2 := List.mem_singleton.1 hm
          have h3 := HQe.out
          omega)
        have HF := Lib.hid hf
        have HLt := Lib.hid hlt
        have c3 : wr.cell? ⟨C, 3, none⟩ = some (.map (some L)) := hLt.cell (HC2.out.row.cell 3) (fun hm => by
          have h1 : C = Q := List.mem_singleton.1 hm
          have h2 := HC2.out.row
          rw [h1] at h2
          exact HQn.out.2 _ _ h2)
        clear hmap hf hlt hLt
        go_wp2_with (at_range; refine wpList_range_sweep rfl _ 65 rfl 77 4 spotL_under L cn f rfl HMap.out ?_; intro w7 hit7 hb7)
        obtain ⟨r, hr⟩ : ∃ r, r = wr.heap.size := ⟨_, rfl⟩
        have HIt7 : Hid (SweepIs Try.prog 77 w7 L r f (fun _ => False) cn) := by unfold Hid; rw [hr]; exact hit7
        have HSe7 : Hid (SeenIs w7 Q S.n (fun p => all.any fun g => inW g p)) := HSk.out.turns (Turns.of_below hb7 []) (by simp)
        have HT7 : Hid (Turns wc w7 [Q]) := HTk.out.then_below hb7
        have HRr : Hid (wc.heap.size ≤ r ∧ Q ≠ r) := by have := HTk.out.size; have := HQn.out.1; unfold Hid; omega
        rw [← hr]
        clear hit7 hb7 hr c3
        simp only [Act.put, List.setIfInBounds_toArray, List.set_cons_succ, List.set_cons_zero]
        go_loopw [8] (fun _ wr => ∃ (cnt : Nat) (K : Value → Prop) (lk : Nat → Bool), SweepIs Try.prog 77 wr L r f K cnt ∧ SeenIs wr Q S.n (fun p => (all.any fun g => inW g p) || lk p) ∧ (∀ p, lk p = true → S.loose p = true) ∧ (∀ key, K key → ∃ p : Nat, key = pv p ∧ lk p = true) ∧ Turns wc wr [Q]) (fun _ wr => wr.rangeLeft L r)
        case atStart => exact ⟨cn, fun _ => False, fun _ => false, HIt7.out, by simpa using HSe7.out, by simp, by simp, HT7.out⟩
        case round =>
          obtain ⟨cnt, K, lk, hit, hse, hl1, hl2, ht⟩ := hrel
          have HIt := Lib.hid hit
          have HSe := Lib.hid hse
          have HL1 := Lib.hid hl1
          have HL2 := Lib.hid hl2
          have HT := Lib.hid ht
          clear HIt7 HSe7 HT7 hit hse hl1 hl2 ht HMap
          go_wp2_with (at_next; refine wpList_next_sweep rfl _ rfl 77 L r f K cnt rfl HIt.out ?_ ?_)
          · intro h0 hallK
            have hSn : SeenIs wr Q S.n S.mov := by
              have e : (fun p => (all.any fun g => inW g p) || lk p) = S.mov := by
                funext p
                have h1 : lk p = S.loose p := by
                  cases hlo : S.loose p with
                  | true =>
                    obtain ⟨p', e, h⟩ := HL2.out (pv p) (hallK _ _ ((HF.out _ _).2 ⟨p, hlo, rfl, rfl⟩))
                    have : p = p' := by injection e with e; injection e with e; injection e with e _; injection e with _ e; omega
                    rw [this]; exact h
                  | false =>
                    cases hlk : lk p with
                    | false => rfl
                    | true => rw [HL1.out p hlk] at hlo; cases hlo
                rw [h1, HAll.out, List.any_append]
                simp [Cr.mov, Bool.or_assoc]
              rw [← e]; exact HSe.out
            have HFin := Lib.hid (sortedA_any wr hSn HSn.out)
            have HBf : Hid (Below w.heap.size w wr) := HT.out.below HBw.out HBw.out.size (fun y hy => by rw [List.mem_singleton.1 hy, HQe.out]; exact Nat.le_refl _)
            clear h0 hallK hSn
            go_wp2_with (first
              | (go_at_call 52; refine (keysA_any _ _).mono ?_; rintro e w' ⟨rfl, rfl⟩)
              | (go_at_call 51; refine HFin.out.mono ?_; rintro e w' ⟨v, rfl, hrow, hbs⟩))
            go_ret
            exact ⟨v, rfl, own_mono hrow (by have := HBf.out.size; omega), HBf.out.trans (((Below.refl _ _).alloc (Nat.le_refl _) _).mono HBf.out.size |>.trans (hbs.mono (by have := HBf.out.size; omega)))⟩
          · intro key vv w8 cnt8 hfk hit8 hlt8 hg8 hen
            obtain ⟨p, hp, rfl, rfl⟩ := (HF.out key vv).1 hfk
            have hpn : p < S.n := HLt.out p hp
            have HT8 : Hid (Turns wc w8 [Q]) := HT.out.trans (Turns.of_grown hg8) (fun q hq => by simp at hq; subst hq; exact .inr HRr.out.1)
            have HSe8 : Hid (SeenIs w8 Q S.n (fun p => (all.any fun g => inW g p) || lk p)) := HSe.out.turns (Turns.of_grown hg8) (by simp; exact HRr.out.2)
            have HIt8 := Lib.hid hit8
            have HLt8 := Lib.hid hlt8
            have HPp := Lib.hid hp
            clear hfk hit8 hlt8 hg8 hp
            obtain ⟨wL, hwL⟩ : ∃ wL, wL = w8.alloc (.cells #[.int .i64 p] 77) := ⟨_, rfl⟩
            have hbL : Below w8.heap.size w8 wL := by rw [hwL]; (repeat (first | (with_reducible refine Below.drew ?_) | (with_reducible refine below_drewN0 ?_ _) | ((with_reducible refine Below.setCell ?_ ?_ _); rotate_left; focus (first | omega | (simp; done) | (simp; omega) | (simp at *; omega))) | ((with_reducible refine Below.alloc ?_ ?_ _); rotate_left; focus (first | omega | (simp; done) | (simp; omega) | (simp at *; omega))) | (with_reducible exact Below.refl _ _)))
            have HRL : Hid (Row wL w8.heap.size 77 #[.int .i64 p]) := by unfold Hid; rw [hwL]; exact Row.fresh _ _ _
            have HTL : Hid (Turns wc wL [Q]) := HT8.out.then_below hbL
            have HItL := Lib.hid (HIt8.out.below hbL)
            have hsL : SeenIs wL Q S.n (fun p => (all.any fun g => inW g p) || lk p) := HSe8.out.turns (Turns.of_below hbL []) (by simp)
            obtain ⟨w9, hup, hs9, ht9⟩ := hsL.set HSn.out hpn
            have HS9 : Hid (SeenIs w9 Q S.n (fun i => (all.any fun g => inW g i) || setSeen lk p i)) := by
              unfold Hid
              have e : (fun i => (all.any fun g => inW g i) || setSeen lk p i) = setSeen (fun p => (all.any fun g => inW g p) || lk p) p := by
                funext i; unfold setSeen
                cases (i == p) <;> simp
              rw [e]; exact hs9
            have HT9 : Hid (Turns wc w9 [Q]) := HTL.out.trans ht9 (fun y hy => .inl hy)
            have HIt9 : Hid (SweepIs Try.prog 77 w9 L r f (fun y => y = pv p ∨ K y) cnt8) := HItL.out.keep (ht9.block L HItL.out.lt.2 (fun hm => by
              have h1 := List.mem_singleton.1 hm
              have h2 := HC0.out.loose.lt
              have h3 := HQe.out
              omega)) (ht9.block r HItL.out.lt.1 (fun hm => HRr.out.2 (List.mem_singleton.1 hm).symm))
            have r1 := HRL.out.cell 0
            simp only [List.getElem?_toArray, List.getElem?_cons_zero, List.getElem?_cons_succ] at r1
            clear hbL hsL hs9 ht9
            subst hwL
            go_wp2
            go_roundw
            case rel => exact ⟨cnt8, _, setSeen lk p, HIt9.out, HS9.out, fun i hi => by
              unfold setSeen at hi
              rw [Bool.or_eq_true] at hi
              rcases hi with h | h
              · rw [show i = p by simpa using h]; exact HPp.out
              · exact HL1.out i h, fun y hy => by
              rcases hy with rfl | hy
              · exact ⟨p, rfl, by simp [setSeen]⟩
              · obtain ⟨q, e, h⟩ := HL2.out y hy
                exact ⟨q, e, by simp [setSeen, h]⟩, HT9.out⟩
            case measure => rw [HIt9.out.left_eq, HIt.out.left_eq]; exact HLt8.out
end Go.Proofs.Ytomigaldomiefaa

namespace Go.Proofs.Ytomigaldomiefaa
open Go.RowKit Go.Shelf Go.MapKept Go.ChangeMaps
attribute [local go_sem] Oper.semAt_some
attribute [local simp, local go_sem] wide_fn
set_option linter.unusedVariables false
set_option linter.unusedSimpArgs false

/-- A reader: at each place it hands back bytes, whatever but the blocks T has turned since w0. -/
structure RdOk (w0 : World) (T : List Nat) (n : Nat) (f : FuncId) (lb : Array Value) (rd : Nat → List Nat) : Prop where
  run : ∀ args w, (callFunc f args).run Try.prog w = .ok (.enter f args) w
  ok : ∀ p : Nat, p < n → ∀ w, Turns w0 w T → Calls Try.prog f (#[.int .i64 p] ++ lb) w fun e w' => ∃ A c, e = .returned (.slice A (rd p).length c) ∧ Cells8 w' A (rd p) ∧ Below w.heap.size w w'
  byte : ∀ p, ∀ u ∈ rd p, u < 256
theorem RdOk.later {w0 w1 : World} {T : List Nat} {n : Nat} {f : FuncId} {lb : Array Value} {rd : Nat → List Nat} (h : RdOk w0 T n f lb rd) (hb : Turns w0 w1 T) : RdOk w1 T n f lb rd :=
  ⟨h.run, fun p hp w hw => h.ok p hp w (hb.trans hw (fun k hk => .inl hk)), h.byte⟩
set_option maxRecDepth 100000 in
set_option maxHeartbeats 1000000 in
theorem May1_any (B C H L : Nat) (v4 v5 : Value) (S : Cr) (k p : Nat) (hk : k ≤ S.groups.length) (hp : p < S.n) (w0 : World) (T : List Nat) (f : FuncId) (lb : Array Value) (rd : Nat → List Nat) (hrd : RdOk w0 T S.n f lb rd) (w : World) (hw : Turns w0 w T) (h : CrIs w B C H L v4 v5 S)
    (Zs Zk Zr : Nat) (c1 : w.cell? ⟨Zs, 0, none⟩ = some (.pointer (some ⟨C, 0, none⟩))) (c2 : w.cell? ⟨Zk, 0, none⟩ = some (.int .i64 k)) (c3 : w.cell? ⟨Zr, 0, none⟩ = some (.func (.func f) #[] lb)) :
    Calls Try.prog 39 #[.int .i64 p, .pointer (some ⟨Zs, 0, none⟩), .pointer (some ⟨Zk, 0, none⟩), .pointer (some ⟨Zr, 0, none⟩)] w fun e w' => e = .returned (.bool (!S.at k p (rd p))) ∧ Below w.heap.size w w' := by
  have k1 : ∀ t : Later w, t.u.cell? ⟨Zs, 0, none⟩ = some (.pointer (some ⟨C, 0, none⟩)) := fun t => keep_below t.h _ _ c1
  have k2 : ∀ t : Later w, t.u.cell? ⟨Zk, 0, none⟩ = some (.int .i64 k) := fun t => keep_below t.h _ _ c2
  have k3 : ∀ t : Later w, t.u.cell? ⟨Zr, 0, none⟩ = some (.func (.func f) #[] lb) := fun t => keep_below t.h _ _ c3
  have hrun := hrd.run
  have HRd : Hid (Calls Try.prog f (#[.int .i64 p] ++ lb) w.drew fun e w' => ∃ A c, e = .returned (.slice A (rd p).length c) ∧ Cells8 w' A (rd p) ∧ Below w.drew.heap.size w.drew w') := hrd.ok p hp _ hw.drew
  have HC := Lib.hid h
  have HBy := Lib.hid (hrd.byte p)
  clear c1 c2 c3 hrd hw h
  go_enter Try.func39, Try.ntmps39
  go_wp2
  refine wp_region_noPanic ?_
  refine region_treeW (fun u => ∃ t : Later w, u = t.u) (Tn.takes [0, 1, 2, 3, 4] (.one 5 (.one 6 (.take 7 (.one 8 .nil))))) (by kernel_rfl) (by kernel_rfl) (fun _ _ _ _ _ h => h) ⟨⟨_, (Below.refl _ _).drew⟩, rfl⟩ ?_
  simp only [Tn.takes]
  (repeat ((with_reducible refine wpTree_take (by with_unfolding_all exact rfl) ?_); (with_reducible (show wpQuiet _ _ _ _ (_ :: _) _)); go_big_quiet_step (fail); (with_reducible refine wpQuiet_nil ?_)))
  (with_reducible refine wpTree_one (by with_unfolding_all exact rfl) ?_)
  gi_wp2_with fail
  refine ((callsIn_wide (n := 8)).2 HRd.out).mono ?_
  rintro e w3 ⟨A, c, rfl, hc8, hb⟩
  have HB3 : Hid (Below w.heap.size w w3) := (Below.refl _ _).drew.trans hb
  have HAt := Lib.hid (at_any B C H L v4 v5 S k p hk hp A c (rd p) HBy.out w3 (HC.out.below HB3.out) hc8)
  clear hc8 hb
  generalize (rd p).length = ln at *
  gi_wp2_with fail
  (with_reducible refine outQ_normal ?_ ?_); exact ⟨⟨w3, HB3.out⟩, rfl⟩
  (with_reducible refine wpTree_one (by with_unfolding_all exact rfl) ?_)
  gi_wp2_with fail
  refine ((callsIn_wide (n := 8)).2 HAt.out).mono ?_
  rintro e w4 ⟨rfl, hb⟩
  have HB4 : Hid (Below w.heap.size w w4) := HB3.out.trans (hb.mono HB3.out.size)
  clear hb
  gi_wp2_with fail
  (with_reducible refine outQ_normal ?_ ?_); exact ⟨⟨w4, HB4.out⟩, rfl⟩
  ((with_reducible refine wpTree_take (by with_unfolding_all exact rfl) ?_); (with_reducible (show wpQuiet _ _ _ _ (_ :: _) _)); go_big_quiet_step (fail); (with_reducible refine wpQuiet_nil ?_))
  (with_reducible refine wpTree_one (by with_unfolding_all exact rfl) ?_)
  gi_wp2_with fail
  (with_reducible refine outQ_normal ?_ ?_); exact ⟨⟨w4, HB4.out⟩, rfl⟩
  with_reducible refine wpTree_nil ?_
  refine NoPanic.normal ?_
  clear k1 k2 k3 hrun
  go_wp2
  go_ret
  exact ⟨rfl, HB4.out⟩
/-- The ints of a slice of one's own. -/
theorem own_int {w : World} {B : Nat} {v : Value} {ms : List Nat} (h : w.ownsRow B 3 1 v ms.length (ms.map fun (p : Nat) => encZ p)) {i p : Nat} (hp : ms[i]? = some p) : ∃ g c, v = .slice (some ⟨g, 0, none⟩) ms.length c ∧ w.cell? ⟨g, i, none⟩ = some (.int .i64 p) :=
  own_cellAt h (List.getElem?_eq_some_iff.1 hp).1 (by rw [List.getElem?_map, hp]; rfl)
set_option maxRecDepth 100000 in
set_option maxHeartbeats 1000000 in
theorem IndexFunc_any (B : Nat) (v : Value) (ms : List Nat) (hlen : ms.length ≤ 4294967296) (w : World) (h : w.ownsRow B 3 1 v ms.length (ms.map fun (p : Nat) => encZ p)) (f : FuncId) (lb : Array Value) (hrun : ∀ args w, (callFunc f args).run Try.prog w = .ok (.enter f args) w) (q : Nat → Bool)
    (hq : ∀ p ∈ ms, ∀ w', Below w.heap.size w w' → Calls Try.prog f (#[.int .i64 (p : Nat)] ++ lb) w' fun e w'' => e = .returned (.bool (q p)) ∧ Below w'.heap.size w' w'') :
    Calls Try.prog 55 #[v, .func (.func f) #[] lb] w fun e w' => ∃ i : Int, e = .returned (.int .i64 i) ∧ (decide (i ≥ 0) = ms.any q) ∧ Below w.heap.size w w' := by
  obtain ⟨A, c, rfl, hc, _⟩ := own_shape h
  have H := Lib.hid h
  have HQ := Lib.hid hq
  obtain ⟨ln, hln⟩ : ∃ ln, ln = ms.length := ⟨_, rfl⟩
  have HLn := Lib.hid hln
  rw [← hln] at hlen hc ⊢
  clear h hq hln
  go_enter Try.func55, Try.ntmps55
  go_wp2
  go_loopw [5, 8] (fun _ i wr => ∃ j : Nat, i = .int .i64 j ∧ j ≤ ln ∧ (ms.take j).any q = false ∧ Below w.heap.size w wr) (fun _ i _ => ln - (intOf i).toNat)
  case atStart => exact ⟨0, rfl, by omega, by simp, Below.refl _ _⟩
  case round =>
    obtain ⟨j, rfl, hj, hno, hb⟩ := hrel
    have HB := Lib.hid hb
    by_cases hjn : j < ln
    · obtain ⟨p, hp⟩ : ∃ p, ms[j]? = some p := ⟨_, List.getElem?_eq_getElem (by rw [← HLn.out]; exact hjn)⟩
      obtain ⟨g, c', e, hcell⟩ := own_int (own_below H.out hb) hp
      injection e with e _ ec
      subst e; subst ec
      have HQp := Lib.hid (HQ.out p (List.mem_of_getElem? hp) wr hb)
      have HT : Hid ((ms.take (j + 1)).any q = ((ms.take j).any q || q p)) := by
        unfold Hid; rw [List.take_add_one, hp, List.any_append]; simp only [Option.toList_some, List.any_cons, List.any_nil, Bool.or_false]
      have HMem : Hid (p ∈ ms) := List.mem_of_getElem? hp
      rw [hno] at HT
      have HNo := Lib.hid hno
      clear hb hp hno
      go_wp2_with fail
      refine HQp.out.mono ?_
      rintro e w3 ⟨rfl, hb⟩
      have HB3 : Hid (Below w.heap.size w w3) := HB.out.trans (hb.mono HB.out.size)
      have HQq := Lib.hid (rfl : q p = q p)
      clear hb hcell
      generalize hqp : q p = b at *
      have HQb := Lib.hid hqp
      clear hqp
      cases b with
      | true =>
        go_wp2
        go_ret
        refine ⟨j, rfl, ?_, HB3.out⟩
        rw [List.any_eq_true.2 ⟨p, HMem.out, HQb.out⟩]
        exact decide_eq_true (by omega)
      | false =>
        go_wp2
        go_roundw
        case rel => exact ⟨j + 1, by go_num, by omega, by rw [HT.out]; rfl, HB3.out⟩
        case measure => simp [intOf]; omega
    · obtain rfl : j = ln := by omega
      have hall : ms.take j = ms := by rw [HLn.out]; exact List.take_length
      rw [hall] at hno
      have HNo := Lib.hid hno
      clear hno hall hb
      go_wp2
      go_ret
      exact ⟨-1, rfl, by rw [HNo.out]; rfl, HB.out⟩
theorem ContainsFunc_any (B : Nat) (v : Value) (ms : List Nat) (hlen : ms.length ≤ 4294967296) (w : World) (h : w.ownsRow B 3 1 v ms.length (ms.map fun (p : Nat) => encZ p)) (f : FuncId) (lb : Array Value) (hrun : ∀ args w, (callFunc f args).run Try.prog w = .ok (.enter f args) w) (q : Nat → Bool)
    (hq : ∀ p ∈ ms, ∀ w', Below w.heap.size w w' → Calls Try.prog f (#[.int .i64 (p : Nat)] ++ lb) w' fun e w'' => e = .returned (.bool (q p)) ∧ Below w'.heap.size w' w'') :
    Calls Try.prog 38 #[v, .func (.func f) #[] lb] w fun e w' => e = .returned (.bool (ms.any q)) ∧ Below w.heap.size w w' := by
  have HI := Lib.hid (IndexFunc_any B v ms hlen w h f lb hrun q hq)
  clear h hq
  go_enter Try.func38, Try.ntmps38
  go_wp2_with fail
  refine HI.out.mono ?_
  rintro e w3 ⟨i, rfl, hi, hb⟩
  have HB := Lib.hid hb
  have HE := Lib.hid hi
  clear hi hb
  go_wp2
  go_ret
  refine ⟨?_, HB.out⟩
  show Ending.returned (Value.bool (decide (i ≥ 0))) = _
  rw [HE.out]
theorem search_any (B : Nat) (v : Value) (ms : List Nat) (hlen : ms.length ≤ 4294967296) (w : World) (h : w.ownsRow B 3 1 v ms.length (ms.map fun (p : Nat) => encZ p)) (hs : ms.Pairwise (· ≤ ·)) (x : Nat) :
    Calls Try.prog 36 #[v, .int .i64 x] w fun e w' => ∃ i : Nat, e = .returned (.tuple #[.int .i64 i, .bool (ms.contains x)]) ∧ Below w.heap.size w w' := by
  obtain ⟨A, c, rfl, hc, _⟩ := own_shape h
  cases ms with
  | nil =>
    refine (Any.slices_BinarySearch_int_empty Try.binSearch A c x w).mono ?_
    rintro e w' ⟨rfl, rfl⟩
    exact ⟨0, rfl, Below.refl _ _⟩
  | cons m ms =>
    obtain ⟨g, c', e, _⟩ := own_int h (i := 0) rfl
    injection e with e _ ec
    subst e; subst ec
    have hcs : ∀ j, j < ((m :: ms).map fun (p : Nat) => (p : Int)).length → w.cell? ⟨g, 0 + j, none⟩ = some (.int .i64 (((m :: ms).map fun (p : Nat) => (p : Int)).getD j 0)) := fun j hj => by
      rw [List.length_map] at hj
      obtain ⟨g', c', e, hcell⟩ := own_int h (List.getElem?_eq_getElem hj)
      injection e with e _ _; injection e with e; injection e with e _ _; subst e
      rw [Nat.zero_add, hcell, List.getD_eq_getElem?_getD, List.getElem?_map, List.getElem?_eq_getElem hj]; rfl
    have hp : (((m :: ms).map fun (p : Nat) => (p : Int)).take (m :: ms).length).Pairwise (· ≤ ·) := by
      rw [List.take_of_length_le (by simp)]
      exact List.pairwise_map.2 (hs.imp fun h => by omega)
    refine (Any.slices_BinarySearch_int Try.binSearch g 0 (m :: ms).length c ((m :: ms).map fun (p : Nat) => (p : Int)) x w (by simp) (by omega) hcs hp).mono ?_
    rintro e w' ⟨rfl, q, rfl⟩
    have hco : ((m :: ms).map fun (p : Nat) => (p : Int)).contains (x : Int) = (m :: ms).contains x := by
      rw [Bool.eq_iff_iff, List.contains_iff_mem, List.contains_iff_mem, List.mem_map]
      exact ⟨fun ⟨y, hy, e⟩ => by rw [show x = y by omega]; exact hy, fun h => ⟨x, h, rfl⟩⟩
    refine ⟨(((m :: ms).map fun (p : Nat) => (p : Int)).take (m :: ms).length).countP (· < (x : Int)), ?_, below_drewN0 (Below.refl _ _) q⟩
    rw [List.take_of_length_le (by simp), hco]
end Go.Proofs.Ytomigaldomiefaa
