/- A region that draws its order, whose makes stand in no order among one another: its reads first, then the makes (each a fresh block, all different, whatever the order), then what is left, in the one order that it can have. -/
import Derived.Test.YtlidbkofjchnnaaDoorSeq
namespace Go.Proofs.YtlidbkofjchnnaaDoor
open Go.RowKit
set_option linter.unusedVariables false
set_option linter.unusedSimpArgs false

/-- A make: the operation's number, its slot, what it yields at a block, what it lays. -/
structure Mk where
  i : Nat
  d : Nat
  f : Nat → Value
  o : Obj
def putsM (a : Act) (mks : List Mk) (g : Nat → Nat) : Act := mks.foldl (fun a m => a.put (some m.d) (m.f (g m.i))) a
/-- What stands behind the makes. -/
structure MFacts (w0 w : World) (mks : List Mk) (g : Nat → Nat) : Prop where
  at' : ∀ m ∈ mks, w0.heap.size ≤ g m.i ∧ w.heap[g m.i]? = some m.o
  ne : ∀ m ∈ mks, ∀ m' ∈ mks, m.i ≠ m'.i → g m.i ≠ g m'.i
  below : Below w0.heap.size w0 w
/-- Each of the makes makes. -/
structure MksOk (P : Program) (l : List Oper) (n : Nat) (a1 : Act) (mks : List Mk) : Prop where
  nd : mks.Pairwise fun m m' => m.d ≠ m'.d
  inb : ∀ m ∈ mks, m.d < a1.tmps.size
  ex : ∀ m ∈ mks, ∃ o, l[m.i]? = some o ∧ m.i < n ∧ o.dst = some m.d ∧ o.guard = none ∧ ∀ (a : Act) w, (∀ t, (∀ m' ∈ mks, t ≠ m'.d) → a.tmps[t]? = a1.tmps[t]?) → (execOp a.eval o).run P w = .ok (.value (m.f w.heap.size)) (w.alloc m.o)
theorem listAll_get : ∀ (s : List Nat) (l : Array Bool) (j : Nat), (listAll l s)[j]? = if j ∈ s then (l[j]?).map (fun _ => true) else l[j]?
  | [], l, j => by simp [listAll]
  | i :: s, l, j => by
    have := listAll_get s (l.setIfInBounds i true) j
    unfold listAll at this ⊢
    rw [List.foldl_cons, this, Array.getElem?_setIfInBounds]
    by_cases h : i = j
    · subst h
      by_cases hb : i < l.size
      · simp [hb]
      · simp [hb, Array.getElem?_eq_none (by omega : l.size ≤ i)]
    · by_cases h2 : j ∈ s
      · simp [h, h2]
      · simp [h, h2, Ne.symm h]
/-- f holds of all lists that leave out some of these. -/
def subsB (f : List Nat → Bool) : List Nat → List Nat → Bool
  | [], acc => f acc
  | i :: is, acc => subsB f is acc && subsB f is (acc ++ [i])
theorem subsB_spec (f : List Nat → Bool) : ∀ (is acc : List Nat), subsB f is acc = true → ∀ p : Nat → Bool, f (acc ++ is.filter p) = true
  | [], acc, h, p => by simpa [subsB] using h
  | i :: is, acc, h, p => by
    simp only [subsB, Bool.and_eq_true] at h
    by_cases hp : p i = true
    · have := subsB_spec f is (acc ++ [i]) h.2 p
      rw [List.filter_cons_of_pos hp]
      simpa using this
    · have := subsB_spec f is acc h.1 p
      rw [List.filter_cons_of_neg hp]
      exact this
def makesB (ops : Array Oper) (listed : Array Bool) (idx : List Nat) : Bool :=
  subsB (fun d => (idx.filter fun i => !d.contains i).isEmpty || (Region.ready .any ops (listAll listed d)) == idx.filter fun i => !d.contains i) idx []
theorem makesB_spec {ops : Array Oper} {listed : Array Bool} {idx : List Nat} (h : makesB ops listed idx = true) (p : Nat → Bool) (hp : ∃ i ∈ idx, p i = false) : Region.ready .any ops (listAll listed (idx.filter p)) = idx.filter fun i => !p i := by
  have := subsB_spec _ idx [] h p
  rw [List.nil_append] at this
  have e : (idx.filter fun i => !(idx.filter p).contains i) = idx.filter fun i => !p i := by
    apply List.filter_congr
    intro i hi
    simp only [List.contains_eq_mem, List.mem_filter, hi, true_and]
    cases p i <;> simp
  simp only [e, Bool.or_eq_true, beq_iff_eq] at this
  rcases this with h1 | h1
  · obtain ⟨i, hi, hpi⟩ := hp
    rw [List.isEmpty_iff] at h1
    have : i ∈ idx.filter fun i => !p i := List.mem_filter.2 ⟨hi, by simp [hpi]⟩
    rw [h1] at this; cases this
  · exact h1
theorem putsM_other (g : Nat → Nat) : ∀ (mks : List Mk) (a : Act) (t : Nat), (∀ m ∈ mks, t ≠ m.d) → (putsM a mks g).tmps[t]? = a.tmps[t]?
  | [], a, t, _ => rfl
  | m :: mks, a, t, h => by
    have := putsM_other g mks (a.put (some m.d) (m.f (g m.i))) t (fun m' hm' => h m' (by simp [hm']))
    unfold putsM at this ⊢
    rw [List.foldl_cons, this]
    simp [Act.put, Array.getElem?_setIfInBounds, Ne.symm (h m (by simp))]
theorem putsM_same (g : Nat → Nat) : ∀ (mks : List Mk) (a : Act), (mks.Pairwise fun m m' => m.d ≠ m'.d) → (∀ m ∈ mks, m.d < a.tmps.size) → ∀ m ∈ mks, (putsM a mks g).tmps[m.d]? = some (m.f (g m.i))
  | [], a, _, _, m, h => by cases h
  | m0 :: mks, a, hp, hb, m, h => by
    obtain ⟨h1, h2⟩ := List.pairwise_cons.1 hp
    rcases List.mem_cons.1 h with rfl | h
    · have := putsM_other g mks (a.put (some m.d) (m.f (g m.i))) m.d (fun m' hm' => h1 m' hm')
      unfold putsM at this ⊢
      rw [List.foldl_cons, this]
      simp [Act.put, Array.getElem?_setIfInBounds, hb m (by simp)]
    · have := putsM_same g mks (a.put (some m0.d) (m0.f (g m0.i))) h2 (fun m' hm' => by simpa [Act.put] using hb m' (by simp [hm'])) m h
      unfold putsM at this ⊢
      rw [List.foldl_cons]; exact this
theorem putsM_size (g : Nat → Nat) : ∀ (mks : List Mk) (a : Act), (putsM a mks g).tmps.size = a.tmps.size ∧ (putsM a mks g).defers = a.defers
  | [], a => ⟨rfl, rfl⟩
  | m :: mks, a => by
    have := putsM_size g mks (a.put (some m.d) (m.f (g m.i)))
    unfold putsM at this ⊢
    rw [List.foldl_cons]
    exact ⟨by rw [this.1]; simp [Act.put], by rw [this.2]; simp [Act.put]⟩
/-- Amid the makes: those with p are made. -/
structure MInv (w0 : World) (a1 : Act) (mks : List Mk) (p : Nat → Bool) (g : Nat → Nat) (a : Act) (w : World) : Prop where
  other : ∀ t, (∀ m ∈ mks, t ≠ m.d) → a.tmps[t]? = a1.tmps[t]?
  size : a.tmps.size = a1.tmps.size
  defers : a.defers = a1.defers
  at' : ∀ m ∈ mks, p m.i = true → a.tmps[m.d]? = some (m.f (g m.i)) ∧ w0.heap.size ≤ g m.i ∧ w.heap[g m.i]? = some m.o
  ne : ∀ m ∈ mks, ∀ m' ∈ mks, p m.i = true → p m'.i = true → m.i ≠ m'.i → g m.i ≠ g m'.i
  below : Below w0.heap.size w0 w
theorem pair_ne {α : Type} {R : α → α → Prop} (hs : ∀ x y, R x y → R y x) : ∀ {l : List α}, l.Pairwise R → ∀ x ∈ l, ∀ y ∈ l, x ≠ y → R x y
  | [], _, x, hx, _, _, _ => by cases hx
  | z :: l, h, x, hx, y, hy, hne => by
    obtain ⟨h1, h2⟩ := List.pairwise_cons.1 h
    rcases List.mem_cons.1 hx with ex | hx'
    · rcases List.mem_cons.1 hy with ey | hy'
      · exact absurd (ex.trans ey.symm) hne
      · rw [ex]; exact h1 y hy'
    · rcases List.mem_cons.1 hy with ey | hy'
      · rw [ey]; exact hs _ _ (h1 x hx')
      · exact pair_ne hs h2 x hx' y hy' hne
section
variable {P : Program} {l : List Oper} {S : World → Prop} {Q : Exit → Act → World → Prop}
theorem anyH_makes (n : Nat) (mks : List Mk) (w0 : World) (a1 : Act) (listed0 : Array Bool) (N : Act → World → Prop) (fuel : Nat) (hok : MksOk P l n a1 mks) (hdi : mks.Pairwise fun m m' => m.i ≠ m'.i) (hck : makesB (l.take n).toArray listed0 (mks.map Mk.i) = true) (hal : ∀ u o, S u → S (u.alloc o))
    (hend : ∀ g w, S w → MFacts w0 w mks g → wpAnyH P .any (l.take n).toArray (outQ Q N) S fuel (listAll listed0 (mks.map Mk.i)) (putsM a1 mks g) w) :
    ∀ (k : Nat) (p : Nat → Bool) (g : Nat → Nat) (a : Act) (w : World), ((mks.map Mk.i).filter fun i => !p i).length = k → MInv w0 a1 mks p g a w → S w → wpAnyH P .any (l.take n).toArray (outQ Q N) S (fuel + k) (listAll listed0 ((mks.map Mk.i).filter p)) a w
  | 0, p, g, a, w, hk, hi, hS => by
    have hall : ∀ m ∈ mks, p m.i = true := fun m hm => by
      have h0 := List.length_eq_zero_iff.1 hk
      cases hp : p m.i with
      | true => rfl
      | false =>
        have : m.i ∈ (mks.map Mk.i).filter fun i => !p i := List.mem_filter.2 ⟨List.mem_map.2 ⟨m, hm, rfl⟩, by simp [hp]⟩
        rw [h0] at this; cases this
    have e1 : (mks.map Mk.i).filter p = mks.map Mk.i := List.filter_eq_self.2 fun i hi => by
      obtain ⟨m, hm, rfl⟩ := List.mem_map.1 hi
      exact hall m hm
    have hsz := putsM_size g mks a1
    have e2 : a = putsM a1 mks g := by
      have e3 : a.tmps = (putsM a1 mks g).tmps := by
        apply Array.ext_getElem?
        intro t
        by_cases ht : ∃ m ∈ mks, t = m.d
        · obtain ⟨m, hm, rfl⟩ := ht
          rw [putsM_same g mks a1 hok.nd hok.inb m hm, (hi.at' m hm (hall m hm)).1]
        · have ht' : ∀ m ∈ mks, t ≠ m.d := fun m hm e => ht ⟨m, hm, e⟩
          rw [putsM_other g mks a1 t ht', hi.other t ht']
      have e4 : a.defers = (putsM a1 mks g).defers := by rw [hsz.2]; exact hi.defers
      obtain ⟨at1, ad⟩ := a
      simp only at e3 e4
      subst e3; subst e4; rfl
    rw [e1, e2]
    exact hend g w hS ⟨fun m hm => (hi.at' m hm (hall m hm)).2, fun m hm m' hm' => hi.ne m hm m' hm' (hall m hm) (hall m' hm'), hi.below⟩
  | k + 1, p, g, a, w, hk, hi, hS => by
    have hex : ∃ i ∈ mks.map Mk.i, p i = false := by
      obtain ⟨i, hi⟩ := List.exists_mem_of_length_pos (l := (mks.map Mk.i).filter fun i => !p i) (by omega)
      obtain ⟨h1, h2⟩ := List.mem_filter.1 hi
      exact ⟨i, h1, by simpa using h2⟩
    have hr := makesB_spec hck p hex
    refine ⟨fun h0 => ?_, fun i hii => ?_⟩
    · rw [hr] at h0
      rw [h0] at hk; simp at hk
    · rw [hr] at hii
      obtain ⟨him, hip⟩ := List.mem_filter.1 hii
      obtain ⟨m, hm, rfl⟩ := List.mem_map.1 him
      have hpm : p m.i = false := by simpa using hip
      obtain ⟨o, ho, hin, hdst, hgd, hex⟩ := hok.ex m hm
      have ho' : (l.take n).toArray[m.i]? = some o := by simp [List.getElem?_take, hin, ho]
      have hrun := hex a w hi.other
      unfold wpOp
      simp only [ho']
      rw [if_pos (by unfold Region.wanted; rw [hgd])]
      left
      unfold Oper.wp
      rw [hrun, Oper.upon_value, hdst]
      refine ⟨hal _ _ hS, ?_⟩
      have hinj : ∀ m' ∈ mks, m'.i = m.i → m' = m := fun m' hm' e => by
        rcases Classical.em (m' = m) with h | h
        · exact h
        · exact absurd e (pair_ne (fun x y h => Ne.symm h) hdi m' hm' m hm h)
      have hdne : ∀ m' ∈ mks, m' ≠ m → m'.d ≠ m.d := fun m' hm' hne => pair_ne (fun x y h => Ne.symm h) hok.nd m' hm' m hm hne
      have hL : (listAll listed0 ((mks.map Mk.i).filter p)).setIfInBounds m.i true = listAll listed0 ((mks.map Mk.i).filter fun j => p j || j == m.i) := by
        apply Array.ext_getElem?
        intro j
        rw [Array.getElem?_setIfInBounds, listAll_get, listAll_get]
        have hsz : (listAll listed0 ((mks.map Mk.i).filter p)).size = listed0.size := by
          have : ∀ (s : List Nat) (l : Array Bool), (listAll l s).size = l.size := fun s => by
            induction s with
            | nil => intro l; rfl
            | cons i s ih => intro l; unfold listAll at ih ⊢; rw [List.foldl_cons, ih]; simp
          exact this _ _
        rw [hsz]
        by_cases e : m.i = j
        · subst e
          rw [if_pos rfl, if_pos (List.mem_filter.2 ⟨him, by simp⟩)]
          by_cases hb : m.i < listed0.size
          · simp [hb]
          · simp [hb, Array.getElem?_eq_none (by omega : listed0.size ≤ m.i)]
        · rw [if_neg e]
          have : (j ∈ (mks.map Mk.i).filter p) ↔ (j ∈ (mks.map Mk.i).filter fun j => p j || j == m.i) := by
            rw [List.mem_filter, List.mem_filter]
            simp [Ne.symm e]
          by_cases hj : j ∈ (mks.map Mk.i).filter p
          · rw [if_pos hj, if_pos (this.1 hj)]
          · rw [if_neg hj, if_neg (fun h => hj (this.2 h))]
      rw [hL]
      have hsw := hi.below.size
      refine anyH_makes n mks w0 a1 listed0 N fuel hok hdi hck hal hend k (fun j => p j || j == m.i) (fun j => if j = m.i then w.heap.size else g j) _ _ ?_ ?_ (hal _ _ hS)
      · have h2 : ∀ (L : List Nat), L.Pairwise (· ≠ ·) → m.i ∈ L → (L.filter fun i => !p i).length = (L.filter fun i => !(p i || i == m.i)).length + 1 := by
          intro L
          induction L with
          | nil => intro _ h; cases h
          | cons x L ih =>
            intro hL hx
            obtain ⟨h1, h2⟩ := List.pairwise_cons.1 hL
            by_cases e : x = m.i
            · subst e
              rw [List.filter_cons_of_pos (by simp [hpm]), List.filter_cons_of_neg (by simp), List.length_cons]
              congr 2
              apply List.filter_congr
              intro y hy
              have : y ≠ m.i := Ne.symm (h1 y hy)
              simp [this]
            · have hx' : m.i ∈ L := by
                rcases List.mem_cons.1 hx with h | h
                · exact absurd h.symm e
                · exact h
              have := ih h2 hx'
              by_cases hpx : p x = true
              · rw [List.filter_cons_of_neg (by simp [hpx]), List.filter_cons_of_neg (by simp [hpx])]; exact this
              · rw [List.filter_cons_of_pos (by simp [hpx]), List.filter_cons_of_pos (by simp [hpx, e]), List.length_cons, List.length_cons, this]
        have h3 := h2 (mks.map Mk.i) (List.pairwise_map.2 hdi) him
        omega
      · refine ⟨fun t ht => ?_, ?_, ?_, fun m' hm' hp' => ?_, fun m' hm' m2 hm2 hp' hp2 hne => ?_, hi.below.alloc hi.below.size _⟩
        · rw [← hi.other t ht]
          simp [Act.put, Array.getElem?_setIfInBounds, Ne.symm (ht m hm)]
        · simpa [Act.put] using hi.size
        · simpa [Act.put] using hi.defers
        · by_cases e : m'.i = m.i
          · obtain rfl := hinj m' hm' e
            rw [if_pos rfl]
            refine ⟨?_, hsw, heap_alloc_new _ _⟩
            have hb := hok.inb m' hm'
            rw [← hi.size] at hb
            simp [Act.put, Array.getElem?_setIfInBounds, hb]
          · rw [if_neg e]
            have hpp : p m'.i = true := by simpa [e] using hp'
            obtain ⟨h1, h2, h3⟩ := hi.at' m' hm' hpp
            refine ⟨?_, h2, ?_⟩
            · rw [← h1]
              have := hdne m' hm' (fun e2 => e (by rw [e2]))
              simp [Act.put, Array.getElem?_setIfInBounds, Ne.symm this]
            · rw [Below.heap_alloc w _ _ (Array.getElem?_eq_some_iff.1 h3).1]; exact h3
        · by_cases e : m'.i = m.i
          · rw [if_pos e, if_neg (fun e2 => hne (e.trans e2.symm))]
            have hpp : p m2.i = true := by simpa [show m2.i ≠ m.i from fun e2 => hne (e.trans e2.symm)] using hp2
            have := (Array.getElem?_eq_some_iff.1 (hi.at' m2 hm2 hpp).2.2).1
            omega
          · rw [if_neg e]
            have hpp : p m'.i = true := by simpa [e] using hp'
            by_cases e2 : m2.i = m.i
            · rw [if_pos e2]
              have := (Array.getElem?_eq_some_iff.1 (hi.at' m' hm' hpp).2.2).1
              omega
            · rw [if_neg e2]
              exact hi.ne m' hm' m2 hm2 hpp (by simpa [e2] using hp2) hne
def makesAllB (l : List Oper) (rs idx ts : List Nat) : Bool :=
  lastB l && Region.noSelect (l.take (l.length - 1)).toArray && takesB (l.take (l.length - 1)).toArray (Array.replicate (l.length - 1) false) rs && makesB (l.take (l.length - 1)).toArray (listAll (Array.replicate (l.length - 1) false) rs) idx &&
  chainB (l.take (l.length - 1)).toArray (listAll (listAll (Array.replicate (l.length - 1) false) rs) idx) ts.dropLast &&
  (decide (ts.getLast? = some (l.length - 1)) && decide (rs.length + (ts.dropLast.length + idx.length) = l.length - 1) && decide (0 < l.length)) &&
  rs.all (fun i => decide (i < l.length - 1) && atB l i fun o => yieldsOnly o && gOk (l.length - 1) o) && ts.dropLast.all (fun i => decide (i < l.length - 1) && atB l i fun o => gOk (l.length - 1) o) && decide (idx.Pairwise (· ≠ ·))
/-- **A REGION THAT DRAWS ITS ORDER**: its reads (rs); its makes (idx), in whatever order; the others (ts). -/
theorem region_makes {id : Nat} {a : Act} {w : World} (B : List Nat) (rs idx ts : List Nat) (hm : P.follows .mixedOrders = true) (hB : makesAllB l rs idx ts = true) (hQ : ∀ c (a : Act) k v w, Q (.panic c) { a with tmps := a.tmps.setIfInBounds k v } w → Q (.panic c) a w)
    (h : wpQuiet P l.toArray (fun u => ∃ t : Kept w B, u = t.u) (fun a' => ∃ mks, mks.map Mk.i = idx ∧ MksOk P l (l.length - 1) a' mks ∧ ∀ g u, MFacts w.drew u mks g → wpSeqS P l.toArray (fun u => Turns w u B) Q (ts.filterMap (l[·]?)) (putsM a' mks g) u) (rs.filterMap (l[·]?)) a) :
    (Code.region id l.toArray true).wp P Q a w := by
  have e : (fun u => ∃ t : Kept w B, u = t.u) = fun u => Turns w u B := by
    funext u; apply propext
    exact ⟨fun ⟨t, e⟩ => by subst e; exact t.h, fun h => ⟨⟨u, h⟩, rfl⟩⟩
  rw [e] at h
  simp only [makesAllB, Bool.and_eq_true, decide_eq_true_eq, List.all_eq_true] at hB
  obtain ⟨⟨⟨⟨⟨⟨⟨⟨h1, h2⟩, h3⟩, hmk⟩, h4⟩, ⟨⟨h5, h6⟩, h7⟩⟩, h8⟩, h9⟩, hnd⟩ := hB
  obtain ⟨n, hn⟩ : ∃ n, l.length = n + 1 := ⟨l.length - 1, by omega⟩
  rw [hn, Nat.add_sub_cancel] at h2 h3 h4 h5 h6 h8 h9 hmk
  rw [hn, Nat.add_sub_cancel] at h
  obtain ⟨last, hlast⟩ : ∃ last, l[n]? = some last := ⟨_, List.getElem?_eq_getElem (by omega)⟩
  have hts : ts = ts.dropLast ++ [n] := by
    obtain ⟨ys, hy⟩ := List.getLast?_eq_some_iff.1 h5
    rw [hy]; simp
  rw [hts, List.filterMap_append, List.filterMap_cons, hlast, List.filterMap_nil] at h
  refine wp_region_any hm ?_
  have hsz : l.toArray.size = n + 1 := by simpa using hn
  rw [hsz, show Array.replicate (n + 1) false = (Array.replicate n false).push false from Array.replicate_succ]
  refine any_last n hn hlast h1 n _ a _ (by simp) (fun j oj _ hj hlj => by simp [Array.getD, hj] at hlj) ?_
  have h10 := anyH_takes (P := P) (S := fun u => Turns w u B) (Q := Q) (N := fun a w => wpList P l.toArray Q [last] a w) n h2 rs (ts.dropLast.length + idx.length) (Array.replicate n false) a w.drew h3 (fun i hi => by
    obtain ⟨hin, hat⟩ := h8 i hi
    obtain ⟨o, ho, hy⟩ := atB_spec hat
    simp only [Bool.and_eq_true] at hy
    exact ⟨o, ho, hin, hy.1, hy.2⟩) (Turns.refl w B).drew (fun c a d v w h => by cases d with | none => exact h | some k => exact hQ c a k v w h) (quiet_imp (fun a' h' => by
      obtain ⟨mks, rfl, hok, hgo⟩ := h'
      have h11 := anyH_makes (P := P) (S := fun u => Turns w u B) (Q := Q) n mks w.drew a' (listAll (Array.replicate n false) rs) (fun a w => wpList P l.toArray Q [last] a w) ts.dropLast.length hok (List.pairwise_map.1 hnd) hmk (fun u o hu => hu.alloc o)
        (fun g u hS hf => anyH_chain (P := P) (S := fun u => Turns w u B) (Q := Q) n ts.dropLast _ _ u h4 (fun i hi => by
          obtain ⟨hin, hat⟩ := h9 i hi
          obtain ⟨o, ho, hy⟩ := atB_spec hat
          exact ⟨o, ho, hin, hy⟩) (hgo g u hf))
        (mks.map Mk.i).length (fun _ => false) (fun _ => 0) a' w.drew (congrArg List.length (List.filter_eq_self.2 (fun _ _ => rfl))) ⟨fun _ _ => rfl, rfl, rfl, fun _ _ h => (by cases h), fun _ _ _ _ h => (by cases h), Below.refl _ _⟩ (Turns.refl w B).drew
      have e0 : (mks.map Mk.i).filter (fun _ => false) = [] := by simp
      rw [e0] at h11
      exact h11) _ _ h)
  rw [Nat.add_comm, h6] at h10
  exact wpAny_of_held _ _ _ _ h10
theorem exec_mk {a : Act} {w w' : World} {o : Oper} {t : TypeId} {x : Nat} {v r : Value} (hop : o.op = .makeSlice t (.tmp x) (.tmp x)) (hv : a.tmps[x]? = some v) (hrun : (Instr.makeSlice t v v).run P w = .ok r w') : (execOp a.eval o).run P w = .ok (.value r) w' := by
  have e : a.eval (.tmp x) = v := by simp [Act.eval, Array.getD_eq_getD_getElem?, hv]
  simp [execOp, hop, e, hrun, Result.andThen]
theorem exec_mkmap {a : Act} {w : World} {o : Oper} {t : TypeId} (hop : o.op = .makeMap t none) : (execOp a.eval o).run P w = .ok (.value (.map (some w.heap.size))) (w.alloc (.map #[] 0)) := by
  simp [execOp, hop, run_makeMap, Result.andThen]
end
end Go.Proofs.YtlidbkofjchnnaaDoor
