/- What follows is laid together from several texts of mine, in their order. -/
import Derived.Test.YthjomnaejhehoaaGreatDoorQ18
import Derived.Sort.OwnSortedInts

namespace Go.Proofs.YthjomnaejhehoaaGreatDoor
open Go.RowKit Go.Shelf Go.MapKept Go.ChangeMaps Go.Sort
set_option linter.unusedVariables false
set_option linter.unusedSimpArgs false

/-- Ints, sorted. -/
def sortI (vs : List Int) : List Int := vs.mergeSort fun x y => decide (x ≤ y)
theorem sortI_length (vs : List Int) : (sortI vs).length = vs.length := (List.mergeSort_perm _ _).length_eq
theorem sortI_perm (vs : List Int) : (sortI vs).Perm vs := List.mergeSort_perm _ _
theorem sortI_le (vs : List Int) : (sortI vs).Pairwise (· ≤ ·) := by
  have tr : ∀ a b c : Int, decide (a ≤ b) = true → decide (b ≤ c) = true → decide (a ≤ c) = true := fun a b c h1 h2 => by simp only [decide_eq_true_eq] at *; exact Int.le_trans h1 h2
  have tt : ∀ a b : Int, (decide (a ≤ b) || decide (b ≤ a)) = true := fun a b => by simp only [Bool.or_eq_true, decide_eq_true_eq]; exact Int.le_total a b
  exact (List.pairwise_mergeSort tr tt vs).imp fun h => by simpa using h
theorem compact_full (vs : List Int) (h : vs.Nodup) : (Lib.compact (sortI vs)).length = vs.length := by
  have hn : (sortI vs).Nodup := (sortI_perm vs).nodup_iff.2 h
  unfold Lib.compact
  rw [Lib.compactUpTo_all, List.length_map, List.length_range, sortI_length]
  intro j hj
  unfold Lib.keeps
  refine decide_eq_true ?_
  by_cases h0 : j = 0
  · exact .inl h0
  · right
    have h1 : j - 1 < (sortI vs).length := by omega
    rw [List.getElem!_toArray, List.getElem!_toArray, List.getElem!_eq_getElem?_getD, List.getElem!_eq_getElem?_getD, List.getElem?_eq_getElem hj, List.getElem?_eq_getElem h1]
    intro e
    exact (List.pairwise_iff_getElem.1 hn) (j - 1) j h1 hj (by omega) (by simp at e; exact e.symm)
theorem compact_short (vs : List Int) (h : ¬ vs.Nodup) : (Lib.compact (sortI vs)).length < vs.length := by
  rw [← sortI_length vs]
  have hle := sortI_le vs
  have hn : ¬ (sortI vs).Nodup := fun hn => h ((sortI_perm vs).nodup_iff.1 hn)
  have hex : ∃ j, j < (sortI vs).length ∧ Lib.keeps (sortI vs).toArray j = false := by
    refine Classical.byContradiction fun hne => hn ?_
    have hk : ∀ j, (hj : j < (sortI vs).length) → 0 < j → (sortI vs)[j] ≠ (sortI vs)[j - 1]'(by omega) := fun j hj h0 e => hne ⟨j, hj, by
      unfold Lib.keeps
      refine decide_eq_false ?_
      rintro (h1 | h1)
      · omega
      · refine h1 ?_
        rw [List.getElem!_toArray, List.getElem!_toArray, List.getElem!_eq_getElem?_getD, List.getElem!_eq_getElem?_getD, List.getElem?_eq_getElem hj, List.getElem?_eq_getElem (by omega : j - 1 < _), e]⟩
    refine List.pairwise_iff_getElem.2 fun i j hi hj hij e => ?_
    have h2 := List.pairwise_iff_getElem.1 hle
    have h1 : (sortI vs)[i] ≤ (sortI vs)[j - 1]'(by omega) := by
      rcases Nat.lt_or_eq_of_le (show i ≤ j - 1 by omega) with h | h
      · exact h2 i (j - 1) hi (by omega) h
      · simp only [← h]; exact Int.le_refl _
    have h3 := h2 (j - 1) j (by omega) hj (by omega)
    exact hk j hj (by omega) (by omega)
  obtain ⟨j, hj, hk⟩ := hex
  unfold Lib.compact Lib.compactUpTo
  rw [List.length_map]
  have h1 : ((List.range (sortI vs).length).filter (Lib.keeps (sortI vs).toArray)).length < (List.range (sortI vs).length).length := by
    refine List.length_filter_lt_length_iff_exists.2 ⟨j, List.mem_range.2 hj, by rw [hk]; simp⟩
  rwa [List.length_range] at h1
theorem Lib_compact_le (zs : List Int) : (Lib.compact zs).length ≤ zs.length := by
  unfold Lib.compact Lib.compactUpTo
  rw [List.length_map]
  exact Nat.le_trans (List.length_filter_le _ _) (by simp)
/-- A row of ints of its own, sorted in place. -/
theorem sortI_any {w : World} {base : Nat} {A : Option Addr} {n c : Nat} {vs : List Int} (h : w.ownsRow base 3 1 (.slice A n c) n (intsI vs)) (hlen : n ≤ 100000) :
    Calls Tryz.prog 67 #[.slice A n c] w fun e w' => e = .returned (.tuple #[]) ∧ w'.ownsRow base 3 1 (.slice A n c) n (intsI (sortI vs)) ∧ w.grownBy w' (Value.slice A n c).ownBlock := by
  have hl : vs.length = n := by have := h.1; simpa [intsI] using this
  subst hl
  rcases h.2 with ⟨h1, h2⟩ | ⟨g, cap, cur, hv, hg, hb, hn, hcap, hsz, ht⟩
  · injection h1 with h1 h3 h4
    subst h1 h4
    have e : vs = [] := List.eq_nil_of_length_eq_zero h2
    subst e
    refine (AnyM.slices_Sort_int_none Tryz.sortA none 0 w).mono ?_
    rintro e w' ⟨rfl, rfl⟩
    have e0 : sortI [] = [] := by simp [sortI]
    rw [e0]
    exact ⟨rfl, World.ownsRow_nil _ _ _ _, ⟨rfl, rfl, rfl, Nat.le_refl _, fun _ _ _ => rfl⟩⟩
  · injection hv with hv h3 h4
    subst hv h4
    rw [Nat.mul_one] at ht
    have hH := holds_of_blockI (ss := vs) hb ht
    refine (AnyM.slices_Sort_int Tryz.sortA g 0 c vs w hH (Array.getElem?_eq_some_iff.1 hb).1 (by omega)).mono ?_
    rintro e w' ⟨rfl, n, os, rfl⟩
    exact ⟨rfl, ownsRow_sortedI (sortI_length vs) hg hb hn hcap hsz, grownBy_sortedI _⟩
/-- Collect of such an iterator. -/
theorem CollectV_any (Z c : Nat) (A : Option Addr) (vs : List Int) (hlen : vs.length ≤ 100000) (w : World) (hz : w.cell? ⟨Z, 0, none⟩ = some (.slice A vs.length c)) (hc : CellsI w A vs) :
    Calls Tryz.prog 66 #[.func (.func 71) #[] #[.pointer (some ⟨Z, 0, none⟩)]] w fun e w' => ∃ v, e = .returned v ∧ w'.ownsRow w.heap.size 3 1 v vs.length (intsI vs) ∧ Below w.heap.size w w' := by
  have HA := Lib.hid (AppendSeq_any Z c A vs hlen w hz hc)
  clear hz hc
  go_enter Tryz.func66, Tryz.ntmps66
  go_wp2_with fail
  refine HA.out.mono ?_
  rintro e w1 ⟨v, rfl, ho, hb⟩
  have HO := Lib.hid ho
  have HB := Lib.hid hb
  clear HA ho hb
  go_wp2
  go_ret
  exact ⟨_, rfl, HO.out, HB.out⟩
theorem SortedV_any (Z c : Nat) (A : Option Addr) (vs : List Int) (hlen : vs.length ≤ 100000) (w : World) (hz : w.cell? ⟨Z, 0, none⟩ = some (.slice A vs.length c)) (hc : CellsI w A vs) :
    Calls Tryz.prog 51 #[.func (.func 71) #[] #[.pointer (some ⟨Z, 0, none⟩)]] w fun e w' => ∃ v, e = .returned v ∧ w'.ownsRow w.heap.size 3 1 v vs.length (intsI (sortI vs)) ∧ Below w.heap.size w w' := by
  have HC := Lib.hid (CollectV_any Z c A vs hlen w hz hc)
  clear hz hc
  go_enter Tryz.func51, Tryz.ntmps51
  go_wp2_with fail
  refine HC.out.mono ?_
  rintro e w1 ⟨v, rfl, ho, hb⟩
  obtain ⟨A', c', rfl, _, _⟩ := own_shape ho
  have HS := Lib.hid (sortI_any ho hlen)
  have HO := Lib.hid ho
  have HB := Lib.hid hb
  clear HC ho hb
  go_wp2_with fail
  refine HS.out.mono ?_
  rintro e w2 ⟨rfl, ho, hg⟩
  have HO2 := Lib.hid ho
  have HB2 : Hid (Below w.heap.size w w2) := HB.out.grown hg HB.out.size (own_ge HO.out)
  clear HS ho hg
  go_wp2
  go_ret
  exact ⟨_, rfl, HO2.out, HB2.out⟩
/-- Compact of a row of ints of its own. -/
theorem CompactI_any {w : World} {base : Nat} {A : Option Addr} {n c : Nat} {vs : List Int} (h : w.ownsRow base 3 1 (.slice A n c) n (intsI vs)) (hlen : n ≤ 100000) :
    Calls Tryz.prog 58 #[.slice A n c] w fun e w' => (∃ A', e = .returned (.slice A' (Lib.compact vs).length c)) ∧ Below base w w' := by
  have hl : vs.length = n := by have := h.1; simpa [intsI] using this
  subst hl
  rcases h.2 with ⟨h1, h2⟩ | ⟨g, cap, cur, hv, hg, hb, hn, hcap, hsz, ht⟩
  · injection h1 with h1 h3 h4
    subst h1 h4
    have e : vs = [] := List.eq_nil_of_length_eq_zero h2
    subst e
    refine (AnyG.slices_Compact_int_empty Tryz.compactA none 0 w).mono ?_
    rintro e w' ⟨rfl, rfl⟩
    exact ⟨⟨_, rfl⟩, Below.refl _ _⟩
  · injection hv with hv h3 h4
    subst hv h4
    rw [Nat.mul_one] at ht
    have hH := holds_of_blockI (ss := vs) hb ht
    have hgw : g < w.heap.size := (Array.getElem?_eq_some_iff.1 hb).1
    refine (AnyG.slices_Compact_int Tryz.compactA g 0 c vs w hH (by omega) hn).mono ?_
    rintro e w' ⟨rfl, q, rfl⟩
    have h1 := grownBy_sortedI (w := w) (g := g) (n := q) (os := #[]) (Lib.compact vs ++ List.replicate (vs.length - (Lib.compact vs).length) 0).toArray
    rw [grow_empty] at h1
    exact ⟨⟨_, rfl⟩, (Below.refl base w).grown h1 (by omega) (fun k e => by injection e with e; omega)⟩
end Go.Proofs.YthjomnaejhehoaaGreatDoor

namespace Go.Proofs.YthjomnaejhehoaaGreatDoor
open Go.RowKit Go.MapKept Go.ChangeMaps
set_option linter.unusedVariables false
set_option linter.unusedSimpArgs false

/-- Blocks that a store may have. -/
def okOn (nb : Nat) (vs : List Int) : Prop := 3 ≤ vs.length ∧ vs.Nodup ∧ ∀ x ∈ vs, 0 ≤ x ∧ x < nb
/-- Those blocks, rising. -/
def natsI (vs : List Int) : List Nat := (sortI vs).map Int.toNat
theorem natsI_length (vs : List Int) : (natsI vs).length = vs.length := by unfold natsI; rw [List.length_map, sortI_length]
theorem mem_natsI {vs : List Int} (h : ∀ x ∈ vs, 0 ≤ x) (k : Nat) : k ∈ natsI vs ↔ (k : Int) ∈ vs := by
  unfold natsI
  rw [List.mem_map]
  constructor
  · rintro ⟨x, hx, rfl⟩
    have := (sortI_perm vs).mem_iff.1 hx
    rw [Int.toNat_of_nonneg (h x this)]; exact this
  · intro hk
    exact ⟨k, (sortI_perm vs).mem_iff.2 hk, by simp⟩
theorem intsI_natsI {vs : List Int} (h : ∀ x ∈ vs, 0 ≤ x) : intsI (sortI vs) = natsV (natsI vs) := by
  unfold intsI natsV natsI
  rw [List.map_map]
  refine List.map_congr_left fun x hx => ?_
  have := h x ((sortI_perm vs).mem_iff.1 hx)
  simp [Int.toNat_of_nonneg this]
theorem natsI_lt {vs : List Int} (h : ∀ x ∈ vs, 0 ≤ x) (hn : vs.Nodup) : (natsI vs).Pairwise (· < ·) := by
  unfold natsI
  have hn' : (sortI vs).Nodup := (sortI_perm vs).nodup_iff.2 hn
  have hp : (sortI vs).Pairwise fun a b => a ≤ b ∧ a ≠ b := (sortI_le vs).and hn'
  refine List.pairwise_map.2 (hp.imp_of_mem fun {a b} ha hb hab => ?_)
  have h1 := h a ((sortI_perm vs).mem_iff.1 ha)
  omega
theorem sortI_get0 {vs : List Int} (h : 0 < vs.length) : ∀ x ∈ vs, (sortI vs).getD 0 0 ≤ x := fun x hx => by
  have hx' := (sortI_perm vs).mem_iff.2 hx
  obtain ⟨i, hi, e⟩ := List.mem_iff_getElem.1 hx'
  have hl := sortI_length vs
  rw [List.getD_eq_getElem?_getD, List.getElem?_eq_getElem (by omega)]
  subst e
  rcases Nat.eq_zero_or_pos i with h0 | h0
  · subst h0; exact Int.le_refl _
  · exact List.pairwise_iff_getElem.1 (sortI_le vs) 0 i (by omega) hi h0
theorem sortI_last {vs : List Int} (h : 0 < vs.length) : ∀ x ∈ vs, x ≤ (sortI vs).getD (vs.length - 1) 0 := fun x hx => by
  have hx' := (sortI_perm vs).mem_iff.2 hx
  obtain ⟨i, hi, e⟩ := List.mem_iff_getElem.1 hx'
  have hl := sortI_length vs
  rw [List.getD_eq_getElem?_getD, List.getElem?_eq_getElem (by omega)]
  subst e
  rcases Nat.lt_or_eq_of_le (show i ≤ vs.length - 1 by omega) with h0 | h0
  · exact List.pairwise_iff_getElem.1 (sortI_le vs) i (vs.length - 1) hi (by omega) h0
  · subst h0; exact Int.le_refl _
theorem sortI_in {vs : List Int} (i : Nat) (h : i < vs.length) : (sortI vs).getD i 0 ∈ vs := by
  have hl := sortI_length vs
  rw [List.getD_eq_getElem?_getD, List.getElem?_eq_getElem (by omega)]
  exact (sortI_perm vs).mem_iff.1 (List.getElem_mem _)
theorem own_get {w : World} {B : Nat} {t : TypeId} {L n c : Nat} {xs : List Value} (h : w.ownsRow B t 1 (.slice (some ⟨L, 0, none⟩) n c) n xs) (i : Nat) (x : Value) (hx : xs[i]? = some x) : w.cell? ⟨L, i, none⟩ = some x := by
  have := h.cells (g := L) rfl i _ hx
  rw [addr_add, Nat.zero_add] at this
  exact this
theorem intsI_get (l : List Int) (i : Nat) (h : i < l.length) : (intsI l)[i]? = some (.int .i64 (l.getD i 0)) := by
  simp [intsI, List.getD, List.getElem?_eq_getElem h]
section
variable {w : World} {B M Q F L n : Nat} {P : Nat → Nat} {S : Fl} {bad : Nat → Bool} {md : Int}
set_option maxRecDepth 100000 in
set_option maxHeartbeats 4000000 in
theorem on_any (h : MedIs w B M Q F L P S n bad md) (A : Option Addr) (c : Nat) (vs : List Int) (hlen : vs.length ≤ 1024) (hc : CellsI w A vs) :
    Calls Tryz.prog 40 #[.pointer (some ⟨M, 0, none⟩), .slice A vs.length c] w fun e w' =>
      (okOn S.nb vs → ∃ St Bk Vb c', e = .returned (.tuple #[.pointer (some ⟨St, 0, none⟩), .int .i64 0]) ∧ StIs w' w.heap.size St Bk Vb M (natsI vs) c' (-1) 0 fun _ => none) ∧
      (¬ okOn S.nb vs → e = .returned (.tuple #[.pointer none, .int .i64 1])) ∧ Below w.heap.size w w' := by
  have k0 := h.row.cell 0
  simp only [mcells, List.getElem?_toArray, List.getElem?_cons_zero] at k0
  obtain ⟨m, hm⟩ : ∃ m, m = vs.length := ⟨_, rfl⟩
  have HM := Lib.hid hm
  have hml : m ≤ 1024 := by omega
  obtain ⟨w1, hw1⟩ : ∃ w1, w1 = w.alloc (.cells #[.slice A m c] 26) := ⟨_, rfl⟩
  have HB1 : Hid (Below w.heap.size w w1) := by unfold Hid; rw [hw1]; (repeat (first | (with_reducible refine Below.drew ?_) | (with_reducible refine below_drewN0 ?_ _) | ((with_reducible refine Below.setCell ?_ ?_ _); rotate_left; focus (first | omega | (simp; done) | (simp; omega) | (simp at *; omega))) | ((with_reducible refine Below.alloc ?_ ?_ _); rotate_left; focus (first | omega | (simp; done) | (simp; omega) | (simp at *; omega))) | (with_reducible exact Below.refl _ _)))
  have HV := Lib.hid (ival_any A m c w)
  have HS : Hid (Calls Tryz.prog 51 #[.func (.func 71) #[] #[.pointer (some ⟨w.heap.size, 0, none⟩)]] w1 fun e w' => ∃ v, e = .returned v ∧ w'.ownsRow w1.heap.size 3 1 v m (intsI (sortI vs)) ∧ Below w1.heap.size w1 w') := by
    rw [hm]
    refine SortedV_any w.heap.size c A vs (by omega) w1 ?_ ?_
    · rw [hw1, ← hm]; exact (Row.fresh _ _ _).cell 0
    · intro i hi
      obtain ⟨b, off, e, hcc⟩ := hc i hi
      exact ⟨b, off, e, keep_below HB1.out _ _ hcc⟩
  have HH := Lib.hid h
  have HW1 := Lib.hid hw1
  have HSz : Hid (w1.heap.size = w.heap.size + 1) := by unfold Hid; rw [hw1]; simp
  rw [← hm]
  obtain ⟨nb, hnb⟩ : ∃ nb, nb = S.nb := ⟨_, rfl⟩
  have HNb := Lib.hid hnb
  rw [← hnb]
  clear h hm hlen hc hw1 hnb
  go_enter Tryz.func40, Tryz.ntmps40
  go_wp2_with fail
  refine HV.out.mono ?_
  rintro e w1' ⟨rfl, rfl⟩
  rw [← HW1.out]
  clear HV
  go_wp2_with fail
  refine HS.out.mono ?_
  rintro e w2 ⟨v, rfl, ho, hb⟩
  obtain ⟨A2, c2, rfl, _, _⟩ := own_shape ho
  have HO := Lib.hid ho
  have HB2 : Hid (Below w.heap.size w w2) := HB1.out.trans (hb.mono HB1.out.size)
  have HSh := Lib.hid (Shape_any (HH.out.below HB2.out).fl)
  have q0 := keep_below HB2.out _ _ k0
  clear HS ho hb k0
  have hns := nil_shape F
  have hms := met_shape F
  have H1 : Hid (∀ u ∈ intsI (sortI vs), u.oneCell' = true) := fun u hu => by obtain ⟨x, _, rfl⟩ := List.mem_map.1 hu; rfl
  rw [← HNb.out] at HSh
  go_wp2_with fail
  refine HSh.out.mono ?_
  rintro e w3 ⟨rfl, k, rfl⟩
  clear HSh hns hms q0
  have HB3 : Hid (Below w.heap.size w (w2.drewN k)) := below_drewN0 HB2.out k
  have HO3 : Hid ((w2.drewN k).ownsRow w1.heap.size 3 1 (.slice A2 m c2) m (intsI (sortI vs))) := HO.out
  generalize w2.drewN k = w3 at *
  have HB1s : Hid (w.heap.size ≤ w1.heap.size) := HB1.out.size
  clear HO HB2 HB1
  by_cases h3 : (m : Int) < 3
  · have hno : Hid (¬ okOn nb vs) := fun hk => by have := hk.1; have := HM.out; omega
    go_wp2
    refine bodyPost_ret (v := .tuple #[.pointer none, .int .i64 1]) (by simp [results, Tryz.results40, go_sem]) rfl ⟨fun hk => absurd hk hno.out, fun _ => rfl, HB3.out⟩
  · have HCl := Lib.hid (CloneI_any A2 m c2 (intsI (sortI vs)) (by omega) w3 (Src.of_own HO3.out) H1.out)
    obtain ⟨g, c', hA, _⟩ := own_at HO3.out (by omega)
    injection hA with hA _ hA2
    subst hA hA2
    obtain ⟨cur, hr⟩ : ∃ cur, Row w3 g 3 cur := by
      obtain ⟨_, cur, hr, _⟩ := own_row HO3.out
      exact ⟨cur, hr⟩
    have hcell : ∀ i, i < m → w3.cell? ⟨g, i, none⟩ = some (.int .i64 ((sortI vs).getD i 0)) := fun i hi => own_get HO3.out i _ (intsI_get _ i (by rw [sortI_length, ← HM.out]; exact hi))
    have c0 := hcell 0 (by omega)
    have c1 := hcell (m - 1) (by omega)
    have e1 : ((m : Int) - 1) = ((m - 1 : Nat) : Int) := by omega
    obtain ⟨cl, hcl⟩ : ∃ cl, cl = (Lib.compact (sortI vs)).length := ⟨_, rfl⟩
    obtain ⟨x0, hx0⟩ : ∃ x0, x0 = (sortI vs).getD 0 0 := ⟨_, rfl⟩
    obtain ⟨x1, hx1⟩ : ∃ x1, x1 = (sortI vs).getD (m - 1) 0 := ⟨_, rfl⟩
    rw [← hx0] at c0
    rw [← hx1] at c1
    have HCe := Lib.hid (And.intro hcl (And.intro hx0 hx1))
    have HC0 := Lib.hid c0
    have HC1 := Lib.hid c1
    clear hcell hr hcl hx0 hx1 c0 c1
    go_wp2_with fail
    refine HCl.out.mono ?_
    rintro e w4 ⟨A4, c4, rfl, ho, hb⟩
    have HCo := Lib.hid (CompactI_any ho (by omega))
    rw [← HCe.out.1] at HCo
    have HB4 : Hid (Below w3.heap.size w3 w4) := hb
    clear HCl ho hb
    go_wp2_with fail
    refine HCo.out.mono ?_
    rintro e w5 ⟨⟨A5, rfl⟩, hb⟩
    have HB5 : Hid (Below w3.heap.size w3 w5) := HB4.out.trans hb
    have HBw : Hid (Below w.heap.size w w5) := HB3.out.trans (HB5.out.mono HB3.out.size)
    clear HCo hb HB4
    have q0 := keep_below HB5.out _ _ HC0.out
    have q1 := keep_below HB5.out _ _ HC1.out
    clear HC0 HC1
    by_cases hd : cl < m
    · have hno : Hid (¬ okOn nb vs) := fun hk => by have := compact_full vs hk.2.1; have := HCe.out.1; have := HM.out; omega
      go_wp2
      refine bodyPost_ret (v := .tuple #[.pointer none, .int .i64 1]) (by simp [results, Tryz.results40, go_sem]) rfl ⟨fun hk => absurd hk hno.out, fun _ => rfl, HBw.out⟩
    · by_cases h0 : x0 < 0
      · have hno : Hid (¬ okOn nb vs) := fun hk => by
          have h1 := (hk.2.2 _ (sortI_in (vs := vs) 0 (by have := HM.out; omega))).1
          rw [← HCe.out.2.1] at h1
          omega
        go_wp2
        refine bodyPost_ret (v := .tuple #[.pointer none, .int .i64 1]) (by simp [results, Tryz.results40, go_sem]) rfl ⟨fun hk => absurd hk hno.out, fun _ => rfl, HBw.out⟩
      · by_cases h1 : (nb : Int) ≤ x1
        · have hno : Hid (¬ okOn nb vs) := fun hk => by
            have h2 := (hk.2.2 _ (sortI_in (vs := vs) (m - 1) (by have := HM.out; omega))).2
            rw [← HCe.out.2.2] at h2
            omega
          go_wp2
          refine bodyPost_ret (v := .tuple #[.pointer none, .int .i64 1]) (by simp [results, Tryz.results40, go_sem]) rfl ⟨fun hk => absurd hk hno.out, fun _ => rfl, HBw.out⟩
        · have hyes : Hid (okOn nb vs) := by
            have hm := HM.out
            refine ⟨by omega, Classical.byContradiction fun hn => ?_, fun x hx => ⟨?_, ?_⟩⟩
            · have := compact_short vs hn
              have := HCe.out.1
              omega
            · have h2 := sortI_get0 (vs := vs) (by omega) x hx
              rw [← HCe.out.2.1] at h2
              omega
            · have h2 := sortI_last (vs := vs) (by omega) x hx
              rw [← hm, ← HCe.out.2.2] at h2
              omega
          have hmm := @run_makeMap Tryz.prog
          have HF : Hid (StIs ((w5.alloc (.map #[] 0)).alloc (.cells (stCells M g m c2 (-1) 0 w5.heap.size) 112)) w.heap.size (w5.heap.size + 1) g w5.heap.size M (natsI vs) c2 (-1) 0 (fun _ => none) ∧ Below w.heap.size w ((w5.alloc (.map #[] 0)).alloc (.cells (stCells M g m c2 (-1) 0 w5.heap.size) 112))) := by
            have hsz := HBw.out.size
            have hm := HM.out
            have hnl : (natsI vs).length = m := by rw [natsI_length]; exact hm.symm
            have hb2 : Below w5.heap.size w5 ((w5.alloc (.map #[] 0)).alloc (.cells (stCells M g m c2 (-1) 0 w5.heap.size) 112)) := ((Below.refl _ _).alloc (Nat.le_refl _) _).alloc (by simp) _
            refine ⟨⟨by omega, by omega, ?_, ?_, ?_, by rw [hnl]; exact hml⟩, HBw.out.trans (hb2.mono hsz)⟩
            · have := Row.fresh (w5.alloc (.map #[] 0)) 112 (stCells M g m c2 (-1) 0 w5.heap.size)
              rw [World.size_alloc] at this
              rw [hnl]; exact this
            · rw [hnl, ← intsI_natsI (fun x hx => (hyes.out.2.2 x hx).1)]
              exact own_mono (own_below (own_below HO3.out HB5.out) hb2) HB1s.out
            · exact (ValsIs.fresh w5 _).below ((Below.refl _ _).alloc (Nat.le_refl _) _)
          unfold stCells at HF
          go_wp2
          refine bodyPost_ret (v := .tuple #[.pointer (some ⟨w5.heap.size + 1, 0, none⟩), .int .i64 0]) (by simp [results, Tryz.results40, go_sem]) rfl ⟨fun _ => ⟨_, _, _, _, rfl, HF.out.1⟩, fun hk => absurd hyes.out hk, HF.out.2⟩
end
end Go.Proofs.YthjomnaejhehoaaGreatDoor

namespace Go.Proofs.YthjomnaejhehoaaGreatDoor
open Go.RowKit Go.MapKept Go.ChangeMaps
set_option linter.unusedVariables false
set_option linter.unusedSimpArgs false

/-- Blocks erased, one behind the other. -/
def erAll (S : Fl) (ks : List Nat) : Fl := ks.foldl (fun S k => S.erased k false) S
structure ErK (S S' : Fl) (ks : List Nat) : Prop where
  other : ∀ i, i ∉ ks → S'.b i = S.b i
  new : ∀ n i, i ∈ ks → S'.newest n i = none
  failed : ∀ i, (S'.b i).failed = (S.b i).failed
  nb : S'.nb = S.nb
  pages : S'.pages = S.pages
  chunks : S'.chunks = S.chunks
  off : S'.off = S.off
  armed : S.armed = 0 → S'.armed = 0
theorem ErK.step {S S0 : Fl} {ks : List Nat} (h : ErK S S0 ks) (k : Nat) : ErK S (S0.erased k false) (ks ++ [k]) := by
  refine ⟨fun i hi => ?_, fun n i hi => ?_, fun i => (erased_failed S0 k i false).trans (h.failed i), h.nb, h.pages, h.chunks, h.off, fun hz => armed_erased S0 k false (h.armed hz)⟩
  · simp only [List.mem_append, List.mem_singleton, not_or] at hi
    rw [erased_ne S0 false hi.2]; exact h.other i hi.1
  · by_cases e : i = k
    · rw [e]; exact newest_erased S0 n k false
    · have hm : i ∈ ks := by
        rcases List.mem_append.1 hi with h1 | h1
        · exact h1
        · exact absurd (List.mem_singleton.1 h1) e
      rw [newest_congr (erased_ne S0 false e) rfl]; exact h.new n i hm
theorem erAll_k (S : Fl) : ∀ (ks : List Nat) (S0 : Fl) (ds : List Nat), ErK S S0 ds → ErK S (erAll S0 ks) (ds ++ ks)
  | [], S0, ds, h => by rw [List.append_nil]; exact h
  | k :: ks, S0, ds, h => by
    have := erAll_k S ks _ _ (h.step k)
    rw [List.append_assoc] at this
    exact this
theorem erAll_is (S : Fl) (ks : List Nat) : ErK S (erAll S ks) ks := by
  have := erAll_k S ks S [] ⟨fun _ _ => rfl, (fun _ _ h => by cases h), fun _ => rfl, rfl, rfl, rfl, rfl, fun h => h⟩
  rwa [List.nil_append] at this
theorem erAll_take (S : Fl) (l : List Nat) (j : Nat) (h : j < l.length) : erAll S (l.take (j + 1)) = (erAll S (l.take j)).erased (l.getD j 0) false := by
  have e : l.getD j 0 = l[j] := by rw [List.getD_eq_getElem?_getD, List.getElem?_eq_getElem h]; rfl
  unfold erAll
  rw [e, List.take_succ_eq_append_getElem h, List.foldl_append]
  rfl
theorem fit_none (n : Nat) (h : 16 ≤ n) : FitV n fun _ => none := by
  have e : keysOf (fun _ => none) = [] := by simp [keysOf]
  unfold FitV lenV
  rw [e]
  simpa using h
theorem StIs.low {w : World} {B B' St Bk Vb M : Nat} {l : List Nat} {c : Nat} {a : Int} {q : Nat} {V : Vals} (h : StIs w B St Bk Vb M l c a q V) (hb : B' ≤ B) : StIs w B' St Bk Vb M l c a q V :=
  ⟨Nat.le_trans hb h.hS, Nat.le_trans hb h.hV, h.row, own_mono h.bl hb, h.vals.low hb, h.few⟩
/-- An error of this number. -/
def FailIs (w : World) (v : Value) (i : Int) : Prop := ∃ E, v = .iface 96 (.pointer (some ⟨E, 0, none⟩)) ∧ Row w E 98 #[.int .i64 i]
section
variable {w : World} {B M Q F L n : Nat} {P : Nat → Nat} {S : Fl} {bad : Nat → Bool} {md : Int}
set_option maxRecDepth 100000 in
set_option maxHeartbeats 1000000 in
theorem Format_bad (h : MedIs w B M Q F L P S n bad md) (A : Option Addr) (c : Nat) (vs : List Int) (hlen : vs.length ≤ 1024) (hc : CellsI w A vs) (hn : ¬ okOn S.nb vs) :
    Calls Tryz.prog 21 #[.pointer (some ⟨M, 0, none⟩), .slice A vs.length c] w fun e w' => (∃ v, e = .returned (.tuple #[.pointer none, v]) ∧ FailIs w' v 1) ∧ Below w.heap.size w w' := by
  have HOn := Lib.hid (on_any h A c vs hlen hc)
  have HN := Lib.hid hn
  generalize vs.length = m at *
  clear h hc hlen hn
  go_enter Tryz.func21, Tryz.ntmps21
  go_wp2_with fail
  refine HOn.out.mono ?_
  rintro e w1 ⟨_, h2, hb⟩
  obtain rfl := h2 HN.out
  have HB := Lib.hid hb
  clear HOn h2 hb
  go_wp2
  refine bodyPost_ret (v := .tuple #[.pointer none, .iface 96 (.pointer (some ⟨w1.heap.size, 0, none⟩))]) (by simp [results, Tryz.results21, go_sem]) rfl ⟨⟨_, rfl, _, rfl, Row.fresh _ _ _⟩, HB.out.alloc HB.out.size _⟩
set_option maxRecDepth 100000 in
set_option maxHeartbeats 4000000 in
theorem Format_ok (h : MedIs w B M Q F L P S n bad md) (A : Option Addr) (c : Nat) (vs : List Int) (hlen : vs.length ≤ 1024) (hc : CellsI w A vs) (hn : okOn S.nb vs) (ho : S.off = false) (har : S.armed = 0) (hbad : ∀ k, bad k = false) (hf : ∀ k, (S.b k).failed = false) (hn16 : 16 ≤ n) :
    Calls Tryz.prog 21 #[.pointer (some ⟨M, 0, none⟩), .slice A vs.length c] w fun e w' => ∃ (St Bk Vb c' k : Nat) (S' : Fl) (md' : Int) (bad' : Nat → Bool) (G : Nat → Option (Nat × Vals)),
      e = .returned (.tuple #[.pointer (some ⟨St, 0, none⟩), .nilIface]) ∧ MedIs w' B M Q F L P S' n bad' md' ∧ StIs w' B St Bk Vb M (natsI vs) c' (k : Nat) 1 (fun _ => none) ∧ Vb ≠ Q ∧ w.heap.size ≤ St ∧ Sl S' n bad' (natsI vs) k 1 (fun _ => none) G ∧
      S'.off = false ∧ S'.armed = 0 ∧ S'.nb = S.nb ∧ S'.pages = S.pages ∧ S'.chunks = S.chunks ∧ (∀ i, (S'.b i).failed = false) ∧ (∀ i, i ∉ natsI vs → S'.b i = S.b i) ∧ Turns w w' (medT M Q F L P S.nb) := by
  have HOn := Lib.hid (on_any h A c vs hlen hc)
  have HN := Lib.hid hn
  have HH := Lib.hid h
  have HF := Lib.hid (And.intro hf (And.intro har ho))
  have hbe : bad = fun _ => false := funext hbad
  subst hbe
  obtain ⟨m, hm⟩ : ∃ m, m = vs.length := ⟨_, rfl⟩
  obtain ⟨l, hl⟩ : ∃ l, l = natsI vs := ⟨_, rfl⟩
  have HL : Hid ((∀ k ∈ l, k < S.nb) ∧ l.length = m) := by
    rw [hl]
    refine ⟨fun k hk => ?_, by rw [natsI_length]; exact hm.symm⟩
    have := hn.2.2 _ ((mem_natsI (fun x hx => (hn.2.2 x hx).1) k).1 hk)
    omega
  have hm3 : 3 ≤ m := by rw [hm]; exact hn.1
  rw [← hm] at HOn ⊢
  rw [← hl] at HOn ⊢
  clear h hc hlen hn hf har ho hbad hm hl
  go_enter Tryz.func21, Tryz.ntmps21
  go_wp2_with fail
  refine HOn.out.mono ?_
  rintro e w1 ⟨h1, -, hb⟩
  obtain ⟨St, Bk, Vb, c', rfl, hst⟩ := h1 HN.out
  have HB1 := Lib.hid hb
  have hBw : B ≤ w.heap.size := by have := HH.out.hM; have := HH.out.row.lt; omega
  have HSt0 : Hid (w.heap.size ≤ St ∧ Vb ≠ Q) := ⟨hst.hS, by have := hst.hV; have := HH.out.bad.lt; omega⟩
  have HSt1 := Lib.hid (hst.low hBw)
  have HM1 := Lib.hid (HH.out.below hb)
  have HBl : Hid (∀ W S' md', Turns w1 W (medT M Q F L P S.nb) → S'.nb = S.nb → MedIs W B M Q F L P S' n (fun _ => false) md' → Calls Tryz.prog 24 #[.pointer (some ⟨St, 0, none⟩)] W fun e w' => ∃ g c', e = .returned (.slice (some ⟨g, 0, none⟩) m c') ∧ w'.ownsRow W.heap.size 3 1 (.slice (some ⟨g, 0, none⟩) m c') m (natsV l) ∧ Below W.heap.size W w') := fun W S' md' ht hnb hmed => by
    have h1 := Blocks_any hmed (HSt1.out.behind HM1.out HSt0.out.2 ht (fun g hg => hg)) (by rw [HL.out.2]; omega) (by rw [hnb]; exact HL.out.1)
    rw [good_all (fun _ => false) l (fun _ _ => rfl)] at h1
    refine h1.mono ?_
    rintro e w' ⟨g, r, c', he, hr, h2, h3⟩
    rw [HL.out.2] at hr
    subst hr
    exact ⟨g, c', he, h2, h3⟩
  have HBl1 := Lib.hid (HBl.out w1 S md (Turns.refl _ _) rfl HM1.out)
  clear HOn h1 hb hst
  go_wp2_with fail
  refine HBl1.out.mono ?_
  rintro e w2 ⟨g2, c2, rfl, -, hb⟩
  have HM2 := Lib.hid (HM1.out.below hb)
  have HT2 : Hid (Turns w1 w2 (medT M Q F L P S.nb)) := Turns.of_below hb _
  have HBl2 := Lib.hid (HBl.out w2 S md HT2.out rfl HM2.out)
  clear HBl1 hb HM1
  go_wp2_with fail
  refine HBl2.out.mono ?_
  rintro e w3 ⟨g3, c3, rfl, ho, hb⟩
  have HM3 := Lib.hid (HM2.out.below hb)
  have HT3 : Hid (Turns w1 w3 (medT M Q F L P S.nb)) := HT2.out.then_below hb
  have HO3 := Lib.hid ho
  clear HBl2 ho hb HM2 HT2
  have HStr : Hid (∀ wr, Turns w1 wr (medT M Q F L P S.nb) → StIs wr B St Bk Vb M l c' (-1) 0 fun _ => none) := fun wr ht => HSt1.out.behind (HH.out.below HB1.out) HSt0.out.2 ht (fun g hg => hg)
  have HCell : Hid (∀ wr, Turns w3 wr (medT M Q F L P S.nb) → ∀ j, j < m → wr.cell? ⟨g3, j, none⟩ = some (.int .i64 (l.getD j 0 : Nat))) := fun wr ht j hj => by
    obtain ⟨_, cur, hr, _⟩ := own_row HO3.out
    have h1 := own_get HO3.out j _ (natsV_get l j (by rw [HL.out.2]; exact hj))
    exact ht.cell h1 (HM3.out.no_row hr (by decide) (by decide) (by decide) (by decide))
  have hmk : m ≤ 1024 := by have := (HStr.out w1 (Turns.refl _ _)).few; rw [HL.out.2] at this; exact this
  obtain ⟨_, _, h3c, _, _⟩ : ∃ x, (∃ cur, Row w3 g3 3 cur ∧ True) ∧ m ≤ c3 ∧ c3 ≤ maxLen ∧ x = 0 := by
    obtain ⟨_, cur, hr, _, h1, h2, _⟩ := own_row HO3.out
    exact ⟨0, ⟨cur, hr, trivial⟩, h1, h2, rfl⟩
  go_wp2
  go_loopw [34] (fun i wr => ∃ (j : Nat), i = .int .i64 j ∧ j ≤ m ∧ MedIs wr B M Q F L P (erAll S (l.take j)) n (fun _ => false) md ∧ Turns w3 wr (medT M Q F L P S.nb)) (fun i _ => m - (intOf i).toNat)
  case atStart => exact ⟨0, rfl, by omega, HM3.out, Turns.refl _ _⟩
  case round =>
    obtain ⟨j, rfl, hj, hm, ht⟩ := hrel
    have HMr := Lib.hid hm
    have HTr := Lib.hid ht
    clear hm ht
    by_cases hjn : j < m
    · have ck := HCell.out wr HTr.out j hjn
      have hkl : l.getD j 0 ∈ l := getD_in l j (by rw [HL.out.2]; exact hjn)
      have hs := erAll_is S (l.take j)
      have HEr := Lib.hid (MErase_done HMr.out (l.getD j 0) (by rw [hs.nb]; exact HL.out.1 _ hkl) false rfl (by rw [hs.off]; exact HF.out.2.2) (by rw [hs.failed]; exact HF.out.1 _) (by rw [hs.armed HF.out.2.1]; omega))
      rw [← erAll_take S l j (by rw [HL.out.2]; exact hjn), hs.nb] at HEr
      clear hkl hs
      generalize l.getD j 0 = k at *
      go_wp2_with fail
      refine HEr.out.mono ?_
      rintro e w5 ⟨rfl, hm, ht⟩
      have HM5 := Lib.hid hm
      have HT5 : Hid (Turns w3 w5 (medT M Q F L P S.nb)) := HTr.out.trans ht (fun g hg => .inl hg)
      clear HEr hm ht
      go_wp2
      go_roundw
      case rel => exact ⟨j + 1, by go_num, by omega, HM5.out, HT5.out⟩
      case measure => simp [intOf]; omega
    · obtain rfl : j = m := by omega
      have hall : l.take j = l := by rw [← HL.out.2]; exact List.take_length
      rw [hall] at HMr
      have hs := Lib.hid (erAll_is S l)
      have HT1 : Hid (Turns w1 wr (medT M Q F L P S.nb)) := HT3.out.trans HTr.out (fun g hg => .inl hg)
      have HBl3 := Lib.hid (HBl.out wr (erAll S l) md HT1.out hs.out.nb HMr.out)
      clear hall HBl
      go_wp2_with fail
      refine HBl3.out.mono ?_
      rintro e w5 ⟨g5, c5, rfl, -, hb⟩
      have HM5 := Lib.hid (HMr.out.below hb)
      have HT5 : Hid (Turns w1 w5 (medT M Q F L P S.nb)) := HT1.out.then_below hb
      clear HBl3 hb
      have hwB : B ≤ w5.heap.size := by have := HM5.out.hM; have := HM5.out.row.lt; omega
      have hwQ : Q < w5.heap.size := HM5.out.bad.lt
      have hb6 : Below w5.heap.size w5 (w5.alloc (.map #[] 0)) := (Below.refl _ _).alloc (Nat.le_refl _) _
      have HPut := Lib.hid (sput_any (HM5.out.below hb6) (HStr.out _ (HT5.out.then_below hb6)) HSt0.out.2 w5.heap.size (fun _ => none) (ValsIs.fresh w5 B) hwB (by omega) OkV.none (fit_none n hn16) (by rw [hs.out.off]; exact HF.out.2.2) (fun k hk => by cases hk) (by rw [hs.out.nb]; exact HL.out.1) (by rw [HL.out.2]; omega) (by omega))
      have HT6 : Hid (Turns w1 (w5.alloc (.map #[] 0)) (medT M Q F L P S.nb)) := HT5.out.then_below hb6
      have hmm := @run_makeMap Tryz.prog
      clear hwB hwQ hb6 HT5 HT1
      go_wp2_with fail
      refine HPut.out.mono ?_
      rintro e w7 ⟨md', bad', hb', ht', ⟨k, S', hk, rfl, hm7, hst7, hkp, ho7, hn7, _, ha7⟩ | ⟨k, S', ha, _⟩ | ⟨_, _, _, hx⟩⟩
      · have hgoal : ∃ (G : Nat → Option (Nat × Vals)), MedIs w7 B M Q F L P S' n bad' md' ∧ StIs w7 B St Bk w5.heap.size M l c' (k : Nat) 1 (fun _ => none) ∧ w5.heap.size ≠ Q ∧ w.heap.size ≤ St ∧ Sl S' n bad' l k 1 (fun _ => none) G ∧
            S'.off = false ∧ S'.armed = 0 ∧ S'.nb = S.nb ∧ S'.pages = S.pages ∧ S'.chunks = S.chunks ∧ (∀ i, (S'.b i).failed = false) ∧ (∀ i, i ∉ l → S'.b i = S.b i) ∧ Turns w w7 (medT M Q F L P S.nb) := by
          have hse := hs.out
          have hfl : ∀ i, (S'.b i).failed = false := fun i => by rw [hkp.failed, hse.failed]; exact HF.out.1 i
          have hnk : NwIs S' n k (some (1, fun _ => none)) := ⟨hn7, by omega, OkV.none, fit_none n hn16⟩
          refine ⟨fun i => if i = k then some (1, fun _ => none) else none, hm7, hst7, by have := HM5.out.bad.lt; omega, HSt0.out.1, ⟨hk, fun i hi => by rw [hkp.nb, hse.nb]; exact HL.out.1 i hi, fun i hi => ?_, by simp, (fun i hi hik q' V' hg => by rw [if_neg hik] at hg; cases hg), fun i hi => absurd (hb' i hi) (by rw [hse.failed, HF.out.1]; simp), half_of_new hnk⟩, ho7, ha7 (hse.armed HF.out.2.1), hkp.nb.trans hse.nb, hkp.pages.trans hse.pages, hkp.chunks.trans hse.chunks, hfl, fun i hi => ?_, ?_⟩
          · by_cases e : i = k
            · rw [if_pos e, e]; exact hnk
            · rw [if_neg e]
              show S'.newest n i = none
              rw [newest_congr (hkp.b i e) hkp.chunks]; exact hse.new n i hi
          · rw [hkp.b i (fun e => hi (by rw [e]; exact hk)), hse.other i hi]
          · rw [hse.nb] at ht'
            refine ((Turns.of_below HB1.out (medT M Q F L P S.nb)).trans HT6.out (fun g hg => .inl hg)).trans ht' (fun g hg => ?_)
            rcases List.mem_cons.1 hg with e | hg
            · right; rw [e]; exact HSt0.out.1
            · exact .inl hg
        have HG := Lib.hid hgoal
        clear hgoal hb' ht' hm7 hst7 hkp ho7 hn7 ha7 HPut
        go_wp2
        obtain ⟨G, hG⟩ := HG.out
        refine bodyPost_ret (v := .tuple #[.pointer (some ⟨St, 0, none⟩), .nilIface]) (by simp [results, Tryz.results21, go_sem]) rfl ⟨St, Bk, _, c', k, S', md', bad', G, rfl, hG⟩
      · exact absurd (hs.out.armed HF.out.2.1) ha
      · exact absurd (hx (l.getD 0 0) (getD_in l 0 (by rw [HL.out.2]; omega)) (by omega)) (by rw [hs.out.failed, HF.out.1]; simp)
end
end Go.Proofs.YthjomnaejhehoaaGreatDoor

namespace Go.Proofs.YthjomnaejhehoaaGreatDoor
open Go.RowKit Go.MapKept Go.ChangeMaps
set_option linter.unusedVariables false
set_option linter.unusedSimpArgs false

/-- What Open has found in the first j blocks. -/
def OpSt (G : Nat → Option (Nat × Vals)) (l : List Nat) (j : Nat) (a : Int) (q : Nat) (V : Vals) : Prop :=
  (a = -1 ∧ ∀ t, t < j → G (l.getD t 0) = none) ∨ ∃ k : Nat, k ∈ l ∧ a = k ∧ G k = some (q, V) ∧ ∀ t, t < j → ∀ q' V', G (l.getD t 0) = some (q', V') → q' ≤ q
theorem OpSt.skip {G : Nat → Option (Nat × Vals)} {l : List Nat} {j : Nat} {a : Int} {q : Nat} {V : Vals} (h : OpSt G l j a q V) (hx : G (l.getD j 0) = none) : OpSt G l (j + 1) a q V := by
  rcases h with ⟨h1, h2⟩ | ⟨k, h1, h2, h3, h4⟩
  · refine .inl ⟨h1, fun t ht => ?_⟩
    rcases Nat.lt_or_eq_of_le (Nat.le_of_lt_succ ht) with h | rfl
    · exact h2 t h
    · exact hx
  · refine .inr ⟨k, h1, h2, h3, fun t ht q' V' hg => ?_⟩
    rcases Nat.lt_or_eq_of_le (Nat.le_of_lt_succ ht) with h | rfl
    · exact h4 t h q' V' hg
    · rw [hx] at hg; cases hg
theorem OpSt.older {G : Nat → Option (Nat × Vals)} {l : List Nat} {j : Nat} {a : Int} {q q1 : Nat} {V V1 : Vals} (h : OpSt G l j a q V) (hx : G (l.getD j 0) = some (q1, V1)) (ha : ¬ a < 0) (hq : ¬ q < q1) : OpSt G l (j + 1) a q V := by
  rcases h with ⟨h1, h2⟩ | ⟨k, h1, h2, h3, h4⟩
  · omega
  · refine .inr ⟨k, h1, h2, h3, fun t ht q' V' hg => ?_⟩
    rcases Nat.lt_or_eq_of_le (Nat.le_of_lt_succ ht) with h | rfl
    · exact h4 t h q' V' hg
    · rw [hx] at hg; injection hg with hg; injection hg with e1 e2; omega
theorem OpSt.newer {G : Nat → Option (Nat × Vals)} {l : List Nat} {j : Nat} {a : Int} {q q1 : Nat} {V V1 : Vals} (h : OpSt G l j a q V) (hj : j < l.length) (hx : G (l.getD j 0) = some (q1, V1)) (ha : a < 0 ∨ q < q1) : OpSt G l (j + 1) (l.getD j 0 : Nat) q1 V1 := by
  refine .inr ⟨_, getD_in l j hj, rfl, hx, fun t ht q' V' hg => ?_⟩
  rcases Nat.lt_or_eq_of_le (Nat.le_of_lt_succ ht) with h' | rfl
  · rcases h with ⟨h1, h2⟩ | ⟨k, h1, h2, h3, h4⟩
    · rw [h2 t h'] at hg; cases hg
    · have := h4 t h' q' V' hg; omega
  · rw [hx] at hg; injection hg with hg; injection hg with e1 e2; omega
theorem OpSt.found {S : Fl} {n : Nat} {bad : Nat → Bool} {G : Nat → Option (Nat × Vals)} {l : List Nat} {a q : Nat} {V : Vals} (hs : Sl S n bad l a q V G) {a' : Int} {q' : Nat} {V' : Vals} (h : OpSt G l l.length a' q' V') : a' = a ∧ q' = q ∧ V' = V := by
  obtain ⟨t, ht, e⟩ := List.getElem_of_mem hs.mem
  have e1 : l.getD t 0 = a := by rw [List.getD_eq_getElem?_getD, List.getElem?_eq_getElem ht]; exact e
  rcases h with ⟨h1, h2⟩ | ⟨k, h1, h2, h3, h4⟩
  · have := h2 t ht; rw [e1, hs.at'] at this; cases this
  · have h5 := h4 t ht q V (by rw [e1]; exact hs.at')
    have hka : k = a := Classical.byContradiction fun hne => by
      have := hs.less k h1 hne q' V' h3
      omega
    subst hka
    rw [hs.at'] at h3; injection h3 with h3; injection h3 with e2 e3
    exact ⟨h2, e2.symm, e3.symm⟩
section
variable {w : World} {B M Q F L n : Nat} {P : Nat → Nat} {S : Fl} {bad : Nat → Bool} {md : Int}
theorem st_stored {St Bk Vb Nb : Nat} {l : List Nat} {c : Nat} {a : Int} {q : Nat} {V V' : Vals} (hst : StIs w B St Bk Vb M l c a q V) (hv : ValsIs w B Nb V') (hNB : B ≤ Nb) (k : Int) (q' : Nat) :
    StIs (((w.setCell ⟨St, 2, none⟩ (.int .i64 k)).setCell ⟨St, 3, none⟩ (.int .u64 q')).setCell ⟨St, 4, none⟩ (.map (some Nb))) B St Bk Nb M l c k q' V' ∧ Turns w (((w.setCell ⟨St, 2, none⟩ (.int .i64 k)).setCell ⟨St, 3, none⟩ (.int .u64 q')).setCell ⟨St, 4, none⟩ (.map (some Nb))) [St] := by
  have ht : Turns w (((w.setCell ⟨St, 2, none⟩ (.int .i64 k)).setCell ⟨St, 3, none⟩ (.int .u64 q')).setCell ⟨St, 4, none⟩ (.map (some Nb))) [St] := (((Turns.refl _ _).setCell (by simp) _).setCell (by simp) _).setCell (by simp) _
  have hu : NoU8 w [St] := fun g cs hr hg => by
    rw [List.mem_singleton.1 hg] at hr
    exact Row.ne_type hr hst.row (by decide) rfl
  obtain ⟨cur, hbr, _⟩ := hst.bl_row
  refine ⟨⟨hst.hS, hNB, ?_, ht.own hst.bl (fun g hg => ?_), hv.turns ht (fun hm => ?_) hu, hst.few⟩, ht⟩
  · have := ((hst.row.put 2 (.int .i64 k)).put 3 (.int .u64 q')).put 4 (.map (some Nb))
    unfold stCells at this ⊢
    simpa using this
  · have e : Bk = g := by injection hg
    subst e
    simp
    exact Row.ne_type hbr hst.row (by decide)
  · rw [List.mem_singleton.1 hm] at hv
    exact hv.not_row _ _ hst.row
/-- What Open leaves. -/
def OpenPost (w : World) (B M Q F L : Nat) (P : Nat → Nat) (S : Fl) (n : Nat) (bad : Nat → Bool) (l : List Nat) (m : Nat) (G : Nat → Option (Nat × Vals)) (e : Ending) (w' : World) : Prop :=
  ∃ (St Bk Vb c' : Nat) (a : Int) (q : Nat) (V : Vals) (md' : Int), MedIs w' B M Q F L P S n bad md' ∧ StIs w' B St Bk Vb M l c' a q V ∧ Vb ≠ Q ∧ w.heap.size ≤ St ∧ OpSt G l m a q V ∧ Turns w w' [M, F] ∧
      (¬ a < 0 → e = .returned (.tuple #[.pointer (some ⟨St, 0, none⟩), .nilIface])) ∧ (a < 0 → ∃ v, e = .returned (.tuple #[.pointer none, v]) ∧ FailIs w' v 26)
set_option maxRecDepth 100000 in
set_option maxHeartbeats 4000000 in
theorem Open_any (h : MedIs w B M Q F L P S n bad md) (A : Option Addr) (c : Nat) (vs : List Int) (hlen : vs.length ≤ 1024) (hc : CellsI w A vs) (hn : okOn S.nb vs) (ho : S.off = false) (G : Nat → Option (Nat × Vals)) (hG : ∀ k ∈ natsI vs, NwIs S n k (G k)) :
    Calls Tryz.prog 26 #[.pointer (some ⟨M, 0, none⟩), .slice A vs.length c] w (OpenPost w B M Q F L P S n bad (natsI vs) vs.length G) := by
  have HOn := Lib.hid (on_any h A c vs hlen hc)
  have HN := Lib.hid hn
  have HH := Lib.hid h
  have HO := Lib.hid ho
  obtain ⟨m, hm⟩ : ∃ m, m = vs.length := ⟨_, rfl⟩
  obtain ⟨l, hl⟩ : ∃ l, l = natsI vs := ⟨_, rfl⟩
  have HL : Hid ((∀ k ∈ l, k < S.nb) ∧ l.length = m) := by
    rw [hl]
    refine ⟨fun k hk => ?_, by rw [natsI_length]; exact hm.symm⟩
    have := hn.2.2 _ ((mem_natsI (fun x hx => (hn.2.2 x hx).1) k).1 hk)
    omega
  have hmk : m ≤ 1024 := by omega
  rw [← hm] at HOn ⊢
  rw [← hl] at HOn hG ⊢
  have HG := Lib.hid hG
  have k0 := h.cells.1
  clear h hc hlen hn ho hm hl hG
  go_enter Tryz.func26, Tryz.ntmps26
  go_wp2_with fail
  refine HOn.out.mono ?_
  rintro e w1 ⟨h1, -, hb⟩
  obtain ⟨St, Bk, Vb, c', rfl, hst⟩ := h1 HN.out
  have HB1 := Lib.hid hb
  have hBw : B ≤ w.heap.size := by have := HH.out.hM; have := HH.out.row.lt; omega
  have HSt0 : Hid (w.heap.size ≤ St ∧ Vb ≠ Q) := ⟨hst.hS, by have := hst.hV; have := HH.out.bad.lt; omega⟩
  have HSt1 := Lib.hid (hst.low hBw)
  have HM1 := Lib.hid (HH.out.below hb)
  have q0 := keep_below hb _ _ k0
  have HOf := FlOff HM1.out.fl
  rw [HO.out] at HOf
  have HOff := Lib.hid HOf
  have hno := nil_off F
  have hmo := met_off F
  clear HOn h1 hb hst k0 HOf
  go_wp2_with fail
  refine HOff.out.mono ?_
  rintro e w1' ⟨rfl, rfl⟩
  clear HOff hno hmo q0
  obtain ⟨-, s1, -, -, -⟩ := HSt1.out.cells
  rw [HL.out.2] at s1
  go_wp2
  go_loopw [39] (fun i wr => ∃ (j : Nat) (a : Int) (q : Nat) (V : Vals) (Vb : Nat) (md : Int), i = .int .i64 j ∧ j ≤ m ∧ MedIs wr B M Q F L P S n bad md ∧ StIs wr B St Bk Vb M l c' a q V ∧ Vb ≠ Q ∧ Turns w1 wr [St, M, F] ∧ OpSt G l j a q V) (fun i _ => m - (intOf i).toNat)
  case atStart => exact ⟨0, -1, 0, _, Vb, md, rfl, by omega, HM1.out, HSt1.out, HSt0.out.2, Turns.refl _ _, .inl ⟨rfl, fun t ht => by omega⟩⟩
  case round =>
    obtain ⟨j, a, q, V, Vr, md, rfl, hj, hm, hst, hvq, ht, hop⟩ := hrel
    clear s1
    have HMr := Lib.hid hm
    have HTr := Lib.hid ht
    have HSr := Lib.hid hst
    have HPr := Lib.hid (And.intro hvq hop)
    obtain ⟨c0, -, c2, c3, -⟩ := hst.cells
    clear hm ht hvq hop
    by_cases hjn : j < m
    · obtain ⟨cur, hbr, h5, h6, hcell⟩ := hst.bl_row
      have ck := hcell j (by rw [HL.out.2]; exact hjn)
      have hkl : l.getD j 0 ∈ l := getD_in l j (by rw [HL.out.2]; exact hjn)
      have HNw := Lib.hid (newest_any HMr.out (l.getD j 0) (HL.out.1 _ hkl) HO.out (G (l.getD j 0)) (HG.out _ hkl) St c0 (HMr.out.no_row hst.row (by decide) (by decide) (by decide) (by decide)))
      rw [HL.out.2] at h5
      obtain ⟨k, hk⟩ : ∃ k, k = l.getD j 0 := ⟨_, rfl⟩
      obtain ⟨x, hx⟩ : ∃ x, x = G k := ⟨_, rfl⟩
      have HK := Lib.hid (And.intro hk hx)
      rw [← hk, ← hx] at HNw
      rw [← hk] at ck
      clear hkl hcell hbr hst hk hx c0
      go_wp2_with fail
      refine HNw.out.mono ?_
      rintro e w2 ⟨⟨md2, hm2⟩, ht2, hx1, hx2⟩
      have HM2 := Lib.hid hm2
      have HT2 : Hid (Turns w1 w2 [St, M, F]) := HTr.out.trans ht2 (fun g hg => .inl (List.mem_cons_of_mem _ hg))
      have HS2 := Lib.hid (HSr.out.behind HMr.out HPr.out.1 ht2 (fun g hg => mf_med hg))
      have HSz : Hid (B ≤ wr.heap.size ∧ Q < wr.heap.size ∧ wr.heap.size ≤ w2.heap.size) := ⟨by have := HMr.out.hM; have := HMr.out.row.lt; omega, HMr.out.bad.lt, ht2.size⟩
      have q2 := HS2.out.cells.2.2.1
      have q3 := HS2.out.cells.2.2.2.1
      have q4 := HS2.out.cells.2.2.2.2
      have f2 := HS2.out.row.frozen 2
      have f3 := HS2.out.row.frozen 3
      have f4 := HS2.out.row.frozen 4
      clear HNw hm2 ht2 c2 c3 ck
      cases x with
      | none =>
        obtain rfl := hx1 rfl
        have HP2 : Hid (OpSt G l (j + 1) a q V) := HPr.out.2.skip (by rw [← HK.out.1]; exact HK.out.2.symm)
        clear hx1 hx2
        go_wp2
        go_roundw
        case rel => exact ⟨j + 1, a, q, V, Vr, md2, by go_num, by omega, HM2.out, HS2.out, HPr.out.1, HT2.out, HP2.out⟩
        case measure => simp [intOf]; omega
      | some x =>
        obtain ⟨q1, V1⟩ := x
        obtain ⟨Vb1, rfl, hv1, hvb⟩ := hx2 q1 V1 rfl
        have HV1 := Lib.hid (hv1.low HSz.out.1)
        have HVb := Lib.hid hvb
        have HGx : Hid (G (l.getD j 0) = some (q1, V1)) := by unfold Hid; rw [← HK.out.1]; exact HK.out.2.symm
        have HSto := Lib.hid (st_stored HS2.out HV1.out (Nat.le_trans HSz.out.1 hvb) (k : Int) q1)
        have HNew : Hid ((a < 0 ∨ q < q1) → ∃ (j' : Nat) (a : Int) (q : Nat) (V : Vals) (Vb : Nat) (md : Int), Value.int .i64 ((j : Int) + 1) = .int .i64 j' ∧ j' ≤ m ∧ MedIs (((w2.setCell ⟨St, 2, none⟩ (.int .i64 k)).setCell ⟨St, 3, none⟩ (.int .u64 q1)).setCell ⟨St, 4, none⟩ (.map (some Vb1))) B M Q F L P S n bad md ∧ StIs (((w2.setCell ⟨St, 2, none⟩ (.int .i64 k)).setCell ⟨St, 3, none⟩ (.int .u64 q1)).setCell ⟨St, 4, none⟩ (.map (some Vb1))) B St Bk Vb M l c' a q V ∧ Vb ≠ Q ∧ Turns w1 (((w2.setCell ⟨St, 2, none⟩ (.int .i64 k)).setCell ⟨St, 3, none⟩ (.int .u64 q1)).setCell ⟨St, 4, none⟩ (.map (some Vb1))) [St, M, F] ∧ OpSt G l j' a q V) := fun hh => by
          obtain ⟨hs, ht⟩ := HSto.out
          have hu : NoU8 w2 [St] := fun g cs hr hg => by
            rw [List.mem_singleton.1 hg] at hr
            exact Row.ne_type hr HS2.out.row (by decide) rfl
          have hnr := HM2.out.no_row HS2.out.row (by decide) (by decide) (by decide) (by decide)
          refine ⟨j + 1, (k : Nat), q1, V1, Vb1, md2, by go_num, by omega, HM2.out.aside ht (fun g hg => by rw [List.mem_singleton.1 hg]; exact hnr) hu (by have := HSr.out.hS; have := HMr.out.hB; simp; omega), hs, by have := HSz.out.2.1; have := HVb.out; omega, HT2.out.trans ht (fun g hg => .inl (by rw [List.mem_singleton.1 hg]; exact List.mem_cons_self)), ?_⟩
          have := HPr.out.2.newer (by rw [HL.out.2]; exact hjn) HGx.out hh
          rw [HK.out.1]; exact this
        clear hx1 hx2 hv1 hvb
        by_cases ha : a < 0
        · go_wp2
          go_roundw
          case rel => exact HNew.out (.inl ha)
          case measure => simp [intOf]; omega
        · by_cases hq : q < q1
          · go_wp2
            go_roundw
            case rel => exact HNew.out (.inr hq)
            case measure => simp [intOf]; omega
          · have HP2 : Hid (OpSt G l (j + 1) a q V) := HPr.out.2.older HGx.out ha hq
            go_wp2
            go_roundw
            case rel => exact ⟨j + 1, a, q, V, Vr, md2, by go_num, by omega, HM2.out, HS2.out, HPr.out.1, HT2.out, HP2.out⟩
            case measure => simp [intOf]; omega
    · obtain rfl : j = m := by omega
      have HTw : Hid (Turns w wr [M, F]) := (Turns.of_below HB1.out [M, F]).trans HTr.out (fun g hg => by
        rcases List.mem_cons.1 hg with e | hg
        · right; rw [e]; exact HSt0.out.1
        · exact .inl hg)
      by_cases ha : a < 0
      · have hb2 : Below wr.heap.size wr (wr.alloc (.cells #[.int .i64 26] 98)) := (Below.refl _ _).alloc (Nat.le_refl _) _
        have HF : Hid (MedIs (wr.alloc (.cells #[.int .i64 26] 98)) B M Q F L P S n bad md ∧ StIs (wr.alloc (.cells #[.int .i64 26] 98)) B St Bk Vr M l c' a q V ∧ Vr ≠ Q ∧ w.heap.size ≤ St ∧ OpSt G l j a q V ∧ Turns w (wr.alloc (.cells #[.int .i64 26] 98)) [M, F]) := ⟨HMr.out.below hb2, HSr.out.below hb2, HPr.out.1, HSt0.out.1, HPr.out.2, HTw.out.then_below hb2⟩
        clear hst hb2
        go_wp2
        refine bodyPost_ret (v := .tuple #[.pointer none, .iface 96 (.pointer (some ⟨wr.heap.size, 0, none⟩))]) (by simp [results, Tryz.results26, go_sem]) rfl ⟨St, Bk, Vr, c', a, q, V, md, HF.out.1, HF.out.2.1, HF.out.2.2.1, HF.out.2.2.2.1, HF.out.2.2.2.2.1, HF.out.2.2.2.2.2, fun h => absurd ha h, fun _ => ⟨_, rfl, _, rfl, Row.fresh _ _ _⟩⟩
      · clear hst
        go_wp2
        refine bodyPost_ret (v := .tuple #[.pointer (some ⟨St, 0, none⟩), .nilIface]) (by simp [results, Tryz.results26, go_sem]) rfl ⟨St, Bk, Vr, c', a, q, V, md, HMr.out, HSr.out, HPr.out.1, HSt0.out.1, HPr.out.2, HTw.out, fun _ => rfl, fun h => absurd h (by omega)⟩
end
end Go.Proofs.YthjomnaejhehoaaGreatDoor
