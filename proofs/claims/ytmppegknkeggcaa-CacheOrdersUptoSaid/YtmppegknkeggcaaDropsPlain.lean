/- CacheDrops, plain: two rows of writes, one without a sector's. -/
import Derived.Test.YtmppegknkeggcaaCacheR
namespace Go.Proofs.Ytmppegknkeggcaa
set_option linter.unusedVariables false
set_option linter.unusedSimpArgs false

theorem dropP_eq {a s : Int} (y x : It) (h : y.sees = x.sees) : dropP a s y = dropP a s x := by
  simp only [It.sees, Prod.mk.injEq] at h
  simp only [dropP, h.1, h.2.1]
def Rising (l : List It) (g : Int) : Prop := l.Pairwise (fun x y => x.g ≤ y.g) ∧ ∀ x ∈ l, x.g ≤ g
theorem Rising.nil (g : Int) : Rising [] g := ⟨List.Pairwise.nil, by simp⟩
theorem Rising.filter {l : List It} {g : Int} (h : Rising l g) (p : It → Bool) : Rising (l.filter p) g := ⟨h.1.filter p, fun x hx => h.2 x (List.mem_filter.1 hx).1⟩
theorem Rising.snoc {l : List It} {g : Int} (h : Rising l g) (y : It) (hy : y.g = g) : Rising (l ++ [y]) g := by
  refine ⟨List.pairwise_append.2 ⟨h.1, List.pairwise_singleton _ _, fun x hx z hz => ?_⟩, fun x hx => ?_⟩
  · simp at hz; subst hz; rw [hy]; exact h.2 x hx
  · rw [List.mem_append, List.mem_singleton] at hx
    rcases hx with hx | rfl
    · exact h.2 x hx
    · omega
theorem Rising.mono {l : List It} {g g' : Int} (h : Rising l g) (hg : g ≤ g') : Rising l g' := ⟨h.1, fun x hx => Int.le_trans (h.2 x hx) hg⟩
/-- Where the last one is not of the group, none is. -/
theorem Rising.none {l : List It} {g : Int} (h : Rising l g) (hl : ∀ x, l.getLast? = some x → x.g ≠ g) : ∀ x ∈ l, x.g ≠ g := by
  intro x hx e
  obtain ⟨y, hy⟩ : ∃ y, l.getLast? = some y := by
    cases hq : l.getLast? with
    | none => rw [List.getLast?_eq_none_iff] at hq; subst hq; cases hx
    | some y => exact ⟨y, rfl⟩
  have hyl : y ∈ l := List.mem_of_getLast? hy
  obtain ⟨l', rfl⟩ := List.getLast?_eq_some_iff.1 hy
  have h1 := List.pairwise_append.1 h.1
  rw [List.mem_append, List.mem_singleton] at hx
  have : x.g ≤ y.g := by
    rcases hx with hx | rfl
    · exact h1.2.2 x hx y (by simp)
    · exact Int.le_refl _
  have h2 := h.2 y hyl
  exact hl y hy (by omega)
theorem barG_or (l : List It) (g : Int) : (barG l g = g + 1) ∨ (barG l g = g ∧ ∀ x, l.getLast? = some x → x.g ≠ g) := by
  unfold barG
  cases h : l.getLast? with
  | none => exact .inr ⟨rfl, by simp⟩
  | some x =>
    simp only
    by_cases hx : x.g = g
    · rw [if_pos hx]; exact .inl rfl
    · rw [if_neg hx]; exact .inr ⟨rfl, fun y e => by injection e with e; subst e; exact hx⟩
theorem barG_le (l : List It) (g : Int) : g ≤ barG l g ∧ barG l g ≤ g + 1 := by
  rcases barG_or l g with e | ⟨e, _⟩ <;> rw [e] <;> omega
theorem Rising.bar {l : List It} {g : Int} (h : Rising l g) : Rising l (barG l g) ∧ ∀ x ∈ l, x.g ≠ barG l g := by
  rcases barG_or l g with e | ⟨e, hn⟩
  · rw [e]; exact ⟨h.mono (by omega), fun x hx => by have := h.2 x hx; omega⟩
  · rw [e]; exact ⟨h, h.none hn⟩
/-- What is seen of a write, and whether it is of the newest group. -/
def It.now (g : Int) (x : It) : (Int × Int × List Nat) × Bool := (x.sees, decide (x.g = g))
structure DInv (a s : Int) (ia : List It) (ga : Int) (ib : List It) (gb : Int) (hd : Bool) : Prop where
  now : (ia.filter fun x => !dropP a s x).map (It.now ga) = ib.map (It.now gb)
  ra : Rising ia ga
  rb : Rising ib gb
  had : hd = ia.any (dropP a s)
theorem DInv.nil (a s : Int) : DInv a s [] 0 [] 0 false := ⟨rfl, Rising.nil _, Rising.nil _, rfl⟩
theorem goneP_now (a s g : Int) (x : It) : (!goneP a s g x) = (fun p : (Int × Int × List Nat) × Bool => !(p.2 && decide (p.1.1 = a ∧ p.1.2.1 = s))) (x.now g) := by
  simp only [goneP, It.now, It.sees]
  by_cases h1 : x.g = g <;> by_cases h2 : x.a = a <;> by_cases h3 : x.s = s <;> simp [h1, h2, h3]
theorem filter_now (a s g : Int) (l : List It) : (l.filter fun x => !goneP a s g x).map (It.now g) = (l.map (It.now g)).filter (fun p => !(p.2 && decide (p.1.1 = a ∧ p.1.2.1 = s))) := by
  rw [List.filter_map]
  congr 1
  refine List.filter_congr fun x _ => ?_
  exact goneP_now a s g x
theorem DInv.put_other {a s : Int} {ia ib : List It} {ga gb : Int} {hd : Bool} (h : DInv a s ia ga ib gb hd) (x y z : It) (hx : dropP a s x = false) (hy : y.sees = x.sees) (hyg : y.g = ga) (hz : z.sees = x.sees) (hzg : z.g = gb) :
    DInv a s ((ia.filter fun q => !goneP x.a x.s ga q) ++ [y]) ga ((ib.filter fun q => !goneP x.a x.s gb q) ++ [z]) gb hd := by
  have hdy : dropP a s y = false := by rw [dropP_eq y x hy]; exact hx
  refine ⟨?_, (h.ra.filter _).snoc y hyg, (h.rb.filter _).snoc z hzg, ?_⟩
  · rw [List.filter_append, List.map_append, List.map_append, filter_now, ← h.now, List.filter_filter]
    congr 1
    · rw [show (ia.filter fun q => (!dropP a s q) && !goneP x.a x.s ga q) = (ia.filter fun q => !dropP a s q).filter fun q => !goneP x.a x.s ga q by
        rw [List.filter_filter]; exact List.filter_congr fun q _ => Bool.and_comm _ _]
      exact filter_now x.a x.s ga _
    · simp [hdy, It.now, hy, hz, hyg, hzg]
  · rw [h.had, List.any_append]
    simp only [List.any_cons, List.any_nil, hdy, Bool.or_false]
    rw [Bool.eq_iff_iff, List.any_eq_true, List.any_eq_true]
    constructor
    · rintro ⟨q, hq, hp⟩
      refine ⟨q, List.mem_filter.2 ⟨hq, ?_⟩, hp⟩
      simp only [dropP, decide_eq_true_eq] at hp
      simp only [dropP, decide_eq_false_iff_not] at hx
      simp only [goneP, Bool.not_eq_true', decide_eq_false_iff_not]
      rintro ⟨_, h1, h2⟩
      exact hx ⟨by rw [← h1]; exact hp.1, by rw [← h2]; exact hp.2⟩
    · rintro ⟨q, hq, hp⟩
      exact ⟨q, (List.mem_filter.1 hq).1, hp⟩
theorem DInv.put_it {a s : Int} {ia ib : List It} {ga gb : Int} {hd : Bool} (h : DInv a s ia ga ib gb hd) (x y : It) (hx : dropP a s x = true) (hy : y.sees = x.sees) (hyg : y.g = ga) :
    DInv a s ((ia.filter fun q => !goneP x.a x.s ga q) ++ [y]) ga ib gb true := by
  have hdy : dropP a s y = true := by rw [dropP_eq y x hy]; exact hx
  refine ⟨?_, (h.ra.filter _).snoc y hyg, h.rb, ?_⟩
  · rw [List.filter_append, List.map_append, ← h.now, List.filter_filter]
    rw [show ([y].filter fun q => !dropP a s q) = [] by simp [hdy], List.map_nil, List.append_nil]
    congr 1
    refine List.filter_congr fun q _ => ?_
    simp only [dropP, decide_eq_true_eq] at hx
    cases hq : dropP a s q with
    | true => rfl
    | false =>
      simp only [dropP, decide_eq_false_iff_not] at hq
      simp only [Bool.not_false, Bool.true_and, goneP, Bool.not_eq_true', decide_eq_false_iff_not]
      rintro ⟨_, h1, h2⟩
      exact hq ⟨by rw [h1]; exact hx.1, by rw [h2]; exact hx.2⟩
  · rw [List.any_append]; simp [hdy]
theorem map_now_none (l : List It) (g : Int) (h : ∀ x ∈ l, x.g ≠ g) : l.map (It.now g) = (l.map It.sees).map (fun k => (k, false)) := by
  rw [List.map_map]
  refine List.map_congr_left fun x hx => ?_
  simp [It.now, h x hx]
theorem DInv.bar {a s : Int} {ia ib : List It} {ga gb : Int} {hd : Bool} (h : DInv a s ia ga ib gb hd) : DInv a s ia (barG ia ga) ib (barG ib gb) hd := by
  have h1 := h.ra.bar
  have h2 := h.rb.bar
  refine ⟨?_, h1.1, h2.1, h.had⟩
  rw [map_now_none _ _ (fun x hx => h1.2 x (List.mem_filter.1 hx).1), map_now_none _ _ h2.2]
  have := congrArg (List.map Prod.fst) h.now
  rw [List.map_map, List.map_map] at this
  congr 1
theorem DInv.sees {a s : Int} {ia ib : List It} {ga gb : Int} {hd : Bool} (h : DInv a s ia ga ib gb hd) : (ia.filter fun x => !dropP a s x).map It.sees = ib.map It.sees := by
  have := congrArg (List.map Prod.fst) h.now
  rw [List.map_map, List.map_map] at this
  exact this
theorem DInv.count {a s : Int} {ia ib : List It} {ga gb : Int} {hd : Bool} (h : DInv a s ia ga ib gb hd) : decide (0 < cntI ia a s) = hd := by
  rw [h.had, Bool.eq_iff_iff, decide_eq_true_eq, List.any_eq_true]
  unfold cntI
  rw [Int.natCast_pos, List.length_pos_iff_exists_mem]
  constructor
  · rintro ⟨x, hx⟩
    exact ⟨x, (List.mem_filter.1 hx).1, (List.mem_filter.1 hx).2⟩
  · rintro ⟨x, hx, hp⟩
    exact ⟨x, List.mem_filter.2 ⟨hx, hp⟩⟩
theorem DInv.less {a s : Int} {ia ib : List It} {ga gb : Int} {hd : Bool} (h : DInv a s ia ga ib gb hd) : ib.length ≤ ia.length := by
  have := congrArg List.length h.sees
  simp only [List.length_map] at this
  rw [← this]; exact List.length_filter_le _ _
end Go.Proofs.Ytmppegknkeggcaa
