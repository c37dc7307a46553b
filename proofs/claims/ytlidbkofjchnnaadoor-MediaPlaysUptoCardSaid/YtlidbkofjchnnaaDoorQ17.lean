/- What follows is laid together from several texts of mine, in their order. -/
import Derived.Test.YtlidbkofjchnnaaDoorQ1
import Derived.Test.YtlidbkofjchnnaaDoorQ16
import Derived.Test.YtlidbkofjchnnaaDoorQ11
import Derived.Test.YtlidbkofjchnnaaDoorQ8
import Derived.Maps.RangeWalk
import Derived.Shelf.SlIterI.Nil
import Derived.Shelf.SortM.Plain
import Derived.Shelf.SortM.SortNone
import Derived.Test.YtlidbkofjchnnaaDoorQ9
import Derived.Test.YtlidbkofjchnnaaDoorCards
import Derived.Test.YtlidbkofjchnnaaDoorTie
import Derived.WalkKit
import Derived.ProofKit
import Derived.OpenShut
import Derived.Deep.DeepHandedRow
import Derived.Lib.LaidTab

namespace Go.Proofs.YtlidbkofjchnnaaDoor
open Go.RowKit
set_option linter.unusedVariables false
set_option linter.unusedSimpArgs false

/-- A make: the operation's number, its slot, what it yields at a block, what it lays. -/
structure Mk where
  i : Nat
  d : Nat
  f : Nat → Value
  o : Obj
def putsM (a : Act) (mks : List Mk) (g : Nat → Nat) : Act := mks.foldl (fun a m => a.put (some m.d) (m.f (g m.i))) a
/-- What stands behind the makes. -/
structure MFacts (w0 w : World) (mks : List Mk) (g : Nat → Nat) : Prop where
  at' : ∀ m ∈ mks, w0.heap.size ≤ g m.i ∧ w.heap[g m.i]? = some m.o
  ne : ∀ m ∈ mks, ∀ m' ∈ mks, m.i ≠ m'.i → g m.i ≠ g m'.i
  below : Below w0.heap.size w0 w
/-- Each of the makes makes. -/
structure MksOk (P : Program) (l : List Oper) (n : Nat) (a1 : Act) (mks : List Mk) : Prop where
  nd : mks.Pairwise fun m m' => m.d ≠ m'.d
  inb : ∀ m ∈ mks, m.d < a1.tmps.size
  ex : ∀ m ∈ mks, ∃ o, l[m.i]? = some o ∧ m.i < n ∧ o.dst = some m.d ∧ o.guard = none ∧ ∀ (a : Act) w, (∀ t, (∀ m' ∈ mks, t ≠ m'.d) → a.tmps[t]? = a1.tmps[t]?) → (execOp a.eval o).run P w = .ok (.value (m.f w.heap.size)) (w.alloc m.o)
theorem listAll_get : ∀ (s : List Nat) (l : Array Bool) (j : Nat), (listAll l s)[j]? = if j ∈ s then (l[j]?).map (fun _ => true) else l[j]?
  | [], l, j => by simp [listAll]
  | i :: s, l, j => by
    have := listAll_get s (l.setIfInBounds i true) j
    unfold listAll at this ⊢
    rw [List.foldl_cons, this, Array.getElem?_setIfInBounds]
    by_cases h : i = j
    · subst h
      by_cases hb : i < l.size
      · simp [hb]
      · simp [hb, Array.getElem?_eq_none (by omega : l.size ≤ i)]
    · by_cases h2 : j ∈ s
      · simp [h, h2]
      · simp [h, h2, Ne.symm h]
/-- f holds of all lists that leave out some of these. -/
def subsB (f : List Nat → Bool) : List Nat → List Nat → Bool
  | [], acc => f acc
  | i :: is, acc => subsB f is acc && subsB f is (acc ++ [i])
theorem subsB_spec (f : List Nat → Bool) : ∀ (is acc : List Nat), subsB f is acc = true → ∀ p : Nat → Bool, f (acc ++ is.filter p) = true
  | [], acc, h, p => by simpa [subsB] using h
  | i :: is, acc, h, p => by
    simp only [subsB, Bool.and_eq_true] at h
    by_cases hp : p i = true
    · have := subsB_spec f is (acc ++ [i]) h.2 p
      rw [List.filter_cons_of_pos hp]
      simpa using this
    · have := subsB_spec f is acc h.1 p
      rw [List.filter_cons_of_neg hp]
      exact this
def makesB (ops : Array Oper) (listed : Array Bool) (idx : List Nat) : Bool :=
  subsB (fun d => (idx.filter fun i => !d.contains i).isEmpty || (Region.ready .any ops (listAll listed d)) == idx.filter fun i => !d.contains i) idx []
theorem makesB_spec {ops : Array Oper} {listed : Array Bool} {idx : List Nat} (h : makesB ops listed idx = true) (p : Nat → Bool) (hp : ∃ i ∈ idx, p i = false) : Region.ready .any ops (listAll listed (idx.filter p)) = idx.filter fun i => !p i := by
  have := subsB_spec _ idx [] h p
  rw [List.nil_append] at this
  have e : (idx.filter fun i => !(idx.filter p).contains i) = idx.filter fun i => !p i := by
    apply List.filter_congr
    intro i hi
    simp only [List.contains_eq_mem, List.mem_filter, hi, true_and]
    cases p i <;> simp
  simp only [e, Bool.or_eq_true, beq_iff_eq] at this
  rcases this with h1 | h1
  · obtain ⟨i, hi, hpi⟩ := hp
    rw [List.isEmpty_iff] at h1
    have : i ∈ idx.filter fun i => !p i := List.mem_filter.2 ⟨hi, by simp [hpi]⟩
    rw [h1] at this; cases this
  · exact h1
theorem putsM_other (g : Nat → Nat) : ∀ (mks : List Mk) (a : Act) (t : Nat), (∀ m ∈ mks, t ≠ m.d) → (putsM a mks g).tmps[t]? = a.tmps[t]?
  | [], a, t, _ => rfl
  | m :: mks, a, t, h => by
    have := putsM_other g mks (a.put (some m.d) (m.f (g m.i))) t (fun m' hm' => h m' (by simp [hm']))
    unfold putsM at this ⊢
    rw [List.foldl_cons, this]
    simp [Act.put, Array.getElem?_setIfInBounds, Ne.symm (h m (by simp))]
theorem putsM_same (g : Nat → Nat) : ∀ (mks : List Mk) (a : Act), (mks.Pairwise fun m m' => m.d ≠ m'.d) → (∀ m ∈ mks, m.d < a.tmps.size) → ∀ m ∈ mks, (putsM a mks g).tmps[m.d]? = some (m.f (g m.i))
  | [], a, _, _, m, h => by cases h
  | m0 :: mks, a, hp, hb, m, h => by
    obtain ⟨h1, h2⟩ := List.pairwise_cons.1 hp
    rcases List.mem_cons.1 h with rfl | h
    · have := putsM_other g mks (a.put (some m.d) (m.f (g m.i))) m.d (fun m' hm' => h1 m' hm')
      unfold putsM at this ⊢
      rw [List.foldl_cons, this]
      simp [Act.put, Array.getElem?_setIfInBounds, hb m (by simp)]
    · have := putsM_same g mks (a.put (some m0.d) (m0.f (g m0.i))) h2 (fun m' hm' => by simpa [Act.put] using hb m' (by simp [hm'])) m h
      unfold putsM at this ⊢
      rw [List.foldl_cons]; exact this
theorem putsM_size (g : Nat → Nat) : ∀ (mks : List Mk) (a : Act), (putsM a mks g).tmps.size = a.tmps.size ∧ (putsM a mks g).defers = a.defers
  | [], a => ⟨rfl, rfl⟩
  | m :: mks, a => by
    have := putsM_size g mks (a.put (some m.d) (m.f (g m.i)))
    unfold putsM at this ⊢
    rw [List.foldl_cons]
    exact ⟨by rw [this.1]; simp [Act.put], by rw [this.2]; simp [Act.put]⟩
/-- Amid the makes: those with p are made. -/
structure MInv (w0 : World) (a1 : Act) (mks : List Mk) (p : Nat → Bool) (g : Nat → Nat) (a : Act) (w : World) : Prop where
  other : ∀ t, (∀ m ∈ mks, t ≠ m.d) → a.tmps[t]? = a1.tmps[t]?
  size : a.tmps.size = a1.tmps.size
  defers : a.defers = a1.defers
  at' : ∀ m ∈ mks, p m.i = true → a.tmps[m.d]? = some (m.f (g m.i)) ∧ w0.heap.size ≤ g m.i ∧ w.heap[g m.i]? = some m.o
  ne : ∀ m ∈ mks, ∀ m' ∈ mks, p m.i = true → p m'.i = true → m.i ≠ m'.i → g m.i ≠ g m'.i
  below : Below w0.heap.size w0 w
theorem pair_ne {α : Type} {R : α → α → Prop} (hs : ∀ x y, R x y → R y x) : ∀ {l : List α}, l.Pairwise R → ∀ x ∈ l, ∀ y ∈ l, x ≠ y → R x y
  | [], _, x, hx, _, _, _ => by cases hx
  | z :: l, h, x, hx, y, hy, hne => by
    obtain ⟨h1, h2⟩ := List.pairwise_cons.1 h
    rcases List.mem_cons.1 hx with ex | hx'
    · rcases List.mem_cons.1 hy with ey | hy'
      · exact absurd (ex.trans ey.symm) hne
      · rw [ex]; exact h1 y hy'
    · rcases List.mem_cons.1 hy with ey | hy'
      · rw [ey]; exact hs _ _ (h1 x hx')
      · exact pair_ne hs h2 x hx' y hy' hne
section
variable {P : Program} {l : List Oper} {S : World → Prop} {Q : Exit → Act → World → Prop}
theorem anyH_makes (n : Nat) (mks : List Mk) (w0 : World) (a1 : Act) (listed0 : Array Bool) (N : Act → World → Prop) (fuel : Nat) (hok : MksOk P l n a1 mks) (hdi : mks.Pairwise fun m m' => m.i ≠ m'.i) (hck : makesB (l.take n).toArray listed0 (mks.map Mk.i) = true) (hal : ∀ u o, S u → S (u.alloc o))
    (hend : ∀ g w, S w → MFacts w0 w mks g → wpAnyH P .any (l.take n).toArray (outQ Q N) S fuel (listAll listed0 (mks.map Mk.i)) (putsM a1 mks g) w) :
    ∀ (k : Nat) (p : Nat → Bool) (g : Nat → Nat) (a : Act) (w : World), ((mks.map Mk.i).filter fun i => !p i).length = k → MInv w0 a1 mks p g a w → S w → wpAnyH P .any (l.take n).toArray (outQ Q N) S (fuel + k) (listAll listed0 ((mks.map Mk.i).filter p)) a w
  | 0, p, g, a, w, hk, hi, hS => by
    have hall : ∀ m ∈ mks, p m.i = true := fun m hm => by
      have h0 := List.length_eq_zero_iff.1 hk
      cases hp : p m.i with
      | true => rfl
      | false =>
        have : m.i ∈ (mks.map Mk.i).filter fun i => !p i := List.mem_filter.2 ⟨List.mem_map.2 ⟨m, hm, rfl⟩, by simp [hp]⟩
        rw [h0] at this; cases this
    have e1 : (mks.map Mk.i).filter p = mks.map Mk.i := List.filter_eq_self.2 fun i hi => by
      obtain ⟨m, hm, rfl⟩ := List.mem_map.1 hi
      exact hall m hm
    have hsz := putsM_size g mks a1
    have e2 : a = putsM a1 mks g := by
      have e3 : a.tmps = (putsM a1 mks g).tmps := by
        apply Array.ext_getElem?
        intro t
        by_cases ht : ∃ m ∈ mks, t = m.d
        · obtain ⟨m, hm, rfl⟩ := ht
          rw [putsM_same g mks a1 hok.nd hok.inb m hm, (hi.at' m hm (hall m hm)).1]
        · have ht' : ∀ m ∈ mks, t ≠ m.d := fun m hm e => ht ⟨m, hm, e⟩
          rw [putsM_other g mks a1 t ht', hi.other t ht']
      have e4 : a.defers = (putsM a1 mks g).defers := by rw [hsz.2]; exact hi.defers
      obtain ⟨at1, ad⟩ := a
      simp only at e3 e4
      subst e3; subst e4; rfl
    rw [e1, e2]
    exact hend g w hS ⟨fun m hm => (hi.at' m hm (hall m hm)).2, fun m hm m' hm' => hi.ne m hm m' hm' (hall m hm) (hall m' hm'), hi.below⟩
  | k + 1, p, g, a, w, hk, hi, hS => by
    have hex : ∃ i ∈ mks.map Mk.i, p i = false := by
      obtain ⟨i, hi⟩ := List.exists_mem_of_length_pos (l := (mks.map Mk.i).filter fun i => !p i) (by omega)
      obtain ⟨h1, h2⟩ := List.mem_filter.1 hi
      exact ⟨i, h1, by simpa using h2⟩
    have hr := makesB_spec hck p hex
    refine ⟨fun h0 => ?_, fun i hii => ?_⟩
    · rw [hr] at h0
      rw [h0] at hk; simp at hk
    · rw [hr] at hii
      obtain ⟨him, hip⟩ := List.mem_filter.1 hii
      obtain ⟨m, hm, rfl⟩ := List.mem_map.1 him
      have hpm : p m.i = false := by simpa using hip
      obtain ⟨o, ho, hin, hdst, hgd, hex⟩ := hok.ex m hm
      have ho' : (l.take n).toArray[m.i]? = some o := by simp [List.getElem?_take, hin, ho]
      have hrun := hex a w hi.other
      unfold wpOp
      simp only [ho']
      rw [if_pos (by unfold Region.wanted; rw [hgd])]
      left
      unfold Oper.wp
      rw [hrun, Oper.upon_value, hdst]
      refine ⟨hal _ _ hS, ?_⟩
      have hinj : ∀ m' ∈ mks, m'.i = m.i → m' = m := fun m' hm' e => by
        rcases Classical.em (m' = m) with h | h
        · exact h
        · exact absurd e (pair_ne (fun x y h => Ne.symm h) hdi m' hm' m hm h)
      have hdne : ∀ m' ∈ mks, m' ≠ m → m'.d ≠ m.d := fun m' hm' hne => pair_ne (fun x y h => Ne.symm h) hok.nd m' hm' m hm hne
      have hL : (listAll listed0 ((mks.map Mk.i).filter p)).setIfInBounds m.i true = listAll listed0 ((mks.map Mk.i).filter fun j => p j || j == m.i) := by
        apply Array.ext_getElem?
        intro j
        rw [Array.getElem?_setIfInBounds, listAll_get, listAll_get]
        have hsz : (listAll listed0 ((mks.map Mk.i).filter p)).size = listed0.size := by
          have : ∀ (s : List Nat) (l : Array Bool), (listAll l s).size = l.size := fun s => by
            induction s with
            | nil => intro l; rfl
            | cons i s ih => intro l; unfold listAll at ih ⊢; rw [List.foldl_cons, ih]; simp
          exact this _ _
        rw [hsz]
        by_cases e : m.i = j
        · subst e
          rw [if_pos rfl, if_pos (List.mem_filter.2 ⟨him, by simp⟩)]
          by_cases hb : m.i < listed0.size
          · simp [hb]
          · simp [hb, Array.getElem?_eq_none (by omega : listed0.size ≤ m.i)]
        · rw [if_neg e]
          have : (j ∈ (mks.map Mk.i).filter p) ↔ (j ∈ (mks.map Mk.i).filter fun j => p j || j == m.i) := by
            rw [List.mem_filter, List.mem_filter]
            simp [Ne.symm e]
          by_cases hj : j ∈ (mks.map Mk.i).filter p
          · rw [if_pos hj, if_pos (this.1 hj)]
          · rw [if_neg hj, if_neg (fun h => hj (this.2 h))]
      rw [hL]
      have hsw := hi.below.size
      refine anyH_makes n mks w0 a1 listed0 N fuel hok hdi hck hal hend k (fun j => p j || j == m.i) (fun j => if j = m.i then w.heap.size else g j) _ _ ?_ ?_ (hal _ _ hS)
      · have h2 : ∀ (L : List Nat), L.Pairwise (· ≠ ·) → m.i ∈ L → (L.filter fun i => !p i).length = (L.filter fun i => !(p i || i == m.i)).length + 1 := by
          intro L
          induction L with
          | nil => intro _ h; cases h
          | cons x L ih =>
            intro hL hx
            obtain ⟨h1, h2⟩ := List.pairwise_cons.1 hL
            by_cases e : x = m.i
            · subst e
              rw [List.filter_cons_of_pos (by simp [hpm]), List.filter_cons_of_neg (by simp), List.length_cons]
              congr 2
              apply List.filter_congr
              intro y hy
              have : y ≠ m.i := Ne.symm (h1 y hy)
              simp [this]
            · have hx' : m.i ∈ L := by
                rcases List.mem_cons.1 hx with h | h
                · exact absurd h.symm e
                · exact h
              have := ih h2 hx'
              by_cases hpx : p x = true
              · rw [List.filter_cons_of_neg (by simp [hpx]), List.filter_cons_of_neg (by simp [hpx])]; exact this
              · rw [List.filter_cons_of_pos (by simp [hpx]), List.filter_cons_of_pos (by simp [hpx, e]), List.length_cons, List.length_cons, this]
        have h3 := h2 (mks.map Mk.i) (List.pairwise_map.2 hdi) him
        omega
      · refine ⟨fun t ht => ?_, ?_, ?_, fun m' hm' hp' => ?_, fun m' hm' m2 hm2 hp' hp2 hne => ?_, hi.below.alloc hi.below.size _⟩
        · rw [← hi.other t ht]
          simp [Act.put, Array.getElem?_setIfInBounds, Ne.symm (ht m hm)]
        · simpa [Act.put] using hi.size
        · simpa [Act.put] using hi.defers
        · by_cases e : m'.i = m.i
          · obtain rfl := hinj m' hm' e
            rw [if_pos rfl]
            refine ⟨?_, hsw, heap_alloc_new _ _⟩
            have hb := hok.inb m' hm'
            rw [← hi.size] at hb
            simp [Act.put, Array.getElem?_setIfInBounds, hb]
          · rw [if_neg e]
            have hpp : p m'.i = true := by simpa [e] using hp'
            obtain ⟨h1, h2, h3⟩ := hi.at' m' hm' hpp
            refine ⟨?_, h2, ?_⟩
            · rw [← h1]
              have := hdne m' hm' (fun e2 => e (by rw [e2]))
              simp [Act.put, Array.getElem?_setIfInBounds, Ne.symm this]
            · rw [Below.heap_alloc w _ _ (Array.getElem?_eq_some_iff.1 h3).1]; exact h3
        · by_cases e : m'.i = m.i
          · rw [if_pos e, if_neg (fun e2 => hne (e.trans e2.symm))]
            have hpp : p m2.i = true := by simpa [show m2.i ≠ m.i from fun e2 => hne (e.trans e2.symm)] using hp2
            have := (Array.getElem?_eq_some_iff.1 (hi.at' m2 hm2 hpp).2.2).1
            omega
          · rw [if_neg e]
            have hpp : p m'.i = true := by simpa [e] using hp'
            by_cases e2 : m2.i = m.i
            · rw [if_pos e2]
              have := (Array.getElem?_eq_some_iff.1 (hi.at' m' hm' hpp).2.2).1
              omega
            · rw [if_neg e2]
              exact hi.ne m' hm' m2 hm2 hpp (by simpa [e2] using hp2) hne
def makesAllB (l : List Oper) (rs idx ts : List Nat) : Bool :=
  lastB l && Region.noSelect (l.take (l.length - 1)).toArray && takesB (l.take (l.length - 1)).toArray (Array.replicate (l.length - 1) false) rs && makesB (l.take (l.length - 1)).toArray (listAll (Array.replicate (l.length - 1) false) rs) idx &&
  chainB (l.take (l.length - 1)).toArray (listAll (listAll (Array.replicate (l.length - 1) false) rs) idx) ts.dropLast &&
  (decide (ts.getLast? = some (l.length - 1)) && decide (rs.length + (ts.dropLast.length + idx.length) = l.length - 1) && decide (0 < l.length)) &&
  rs.all (fun i => decide (i < l.length - 1) && atB l i fun o => yieldsOnly o && gOk (l.length - 1) o) && ts.dropLast.all (fun i => decide (i < l.length - 1) && atB l i fun o => gOk (l.length - 1) o) && decide (idx.Pairwise (· ≠ ·))
/-- **A REGION THAT DRAWS ITS ORDER**: its reads (rs); its makes (idx), in whatever order; the others (ts). -/
theorem region_makes {id : Nat} {a : Act} {w : World} (B : List Nat) (rs idx ts : List Nat) (hm : P.follows .mixedOrders = true) (hB : makesAllB l rs idx ts = true) (hQ : ∀ c (a : Act) k v w, Q (.panic c) { a with tmps := a.tmps.setIfInBounds k v } w → Q (.panic c) a w)
    (h : wpQuiet P l.toArray (fun u => ∃ t : Kept w B, u = t.u) (fun a' => ∃ mks, mks.map Mk.i = idx ∧ MksOk P l (l.length - 1) a' mks ∧ ∀ g u, MFacts w.drew u mks g → wpSeqS P l.toArray (fun u => Turns w u B) Q (ts.filterMap (l[·]?)) (putsM a' mks g) u) (rs.filterMap (l[·]?)) a) :
    (Code.region id l.toArray true).wp P Q a w := by
  have e : (fun u => ∃ t : Kept w B, u = t.u) = fun u => Turns w u B := by
    funext u; apply propext
    exact ⟨fun ⟨t, e⟩ => by subst e; exact t.h, fun h => ⟨⟨u, h⟩, rfl⟩⟩
  rw [e] at h
  simp only [makesAllB, Bool.and_eq_true, decide_eq_true_eq, List.all_eq_true] at hB
  obtain ⟨⟨⟨⟨⟨⟨⟨⟨h1, h2⟩, h3⟩, hmk⟩, h4⟩, ⟨⟨h5, h6⟩, h7⟩⟩, h8⟩, h9⟩, hnd⟩ := hB
  obtain ⟨n, hn⟩ : ∃ n, l.length = n + 1 := ⟨l.length - 1, by omega⟩
  rw [hn, Nat.add_sub_cancel] at h2 h3 h4 h5 h6 h8 h9 hmk
  rw [hn, Nat.add_sub_cancel] at h
  obtain ⟨last, hlast⟩ : ∃ last, l[n]? = some last := ⟨_, List.getElem?_eq_getElem (by omega)⟩
  have hts : ts = ts.dropLast ++ [n] := by
    obtain ⟨ys, hy⟩ := List.getLast?_eq_some_iff.1 h5
    rw [hy]; simp
  rw [hts, List.filterMap_append, List.filterMap_cons, hlast, List.filterMap_nil] at h
  refine wp_region_any hm ?_
  have hsz : l.toArray.size = n + 1 := by simpa using hn
  rw [hsz, show Array.replicate (n + 1) false = (Array.replicate n false).push false from Array.replicate_succ]
  refine any_last n hn hlast h1 n _ a _ (by simp) (fun j oj _ hj hlj => by simp [Array.getD, hj] at hlj) ?_
  have h10 := anyH_takes (P := P) (S := fun u => Turns w u B) (Q := Q) (N := fun a w => wpList P l.toArray Q [last] a w) n h2 rs (ts.dropLast.length + idx.length) (Array.replicate n false) a w.drew h3 (fun i hi => by
    obtain ⟨hin, hat⟩ := h8 i hi
    obtain ⟨o, ho, hy⟩ := atB_spec hat
    simp only [Bool.and_eq_true] at hy
    exact ⟨o, ho, hin, hy.1, hy.2⟩) (Turns.refl w B).drew (fun c a d v w h => by cases d with | none => exact h | some k => exact hQ c a k v w h) (quiet_imp (fun a' h' => by
      obtain ⟨mks, rfl, hok, hgo⟩ := h'
      have h11 := anyH_makes (P := P) (S := fun u => Turns w u B) (Q := Q) n mks w.drew a' (listAll (Array.replicate n false) rs) (fun a w => wpList P l.toArray Q [last] a w) ts.dropLast.length hok (List.pairwise_map.1 hnd) hmk (fun u o hu => hu.alloc o)
        (fun g u hS hf => anyH_chain (P := P) (S := fun u => Turns w u B) (Q := Q) n ts.dropLast _ _ u h4 (fun i hi => by
          obtain ⟨hin, hat⟩ := h9 i hi
          obtain ⟨o, ho, hy⟩ := atB_spec hat
          exact ⟨o, ho, hin, hy⟩) (hgo g u hf))
        (mks.map Mk.i).length (fun _ => false) (fun _ => 0) a' w.drew (congrArg List.length (List.filter_eq_self.2 (fun _ _ => rfl))) ⟨fun _ _ => rfl, rfl, rfl, fun _ _ h => (by cases h), fun _ _ _ _ h => (by cases h), Below.refl _ _⟩ (Turns.refl w B).drew
      have e0 : (mks.map Mk.i).filter (fun _ => false) = [] := by simp
      rw [e0] at h11
      exact h11) _ _ h)
  rw [Nat.add_comm, h6] at h10
  exact wpAny_of_held _ _ _ _ h10
theorem exec_mk {a : Act} {w w' : World} {o : Oper} {t : TypeId} {x : Nat} {v r : Value} (hop : o.op = .makeSlice t (.tmp x) (.tmp x)) (hv : a.tmps[x]? = some v) (hrun : (Instr.makeSlice t v v).run P w = .ok r w') : (execOp a.eval o).run P w = .ok (.value r) w' := by
  have e : a.eval (.tmp x) = v := by simp [Act.eval, Array.getD_eq_getD_getElem?, hv]
  simp [execOp, hop, e, hrun, Result.andThen]
theorem exec_mkmap {a : Act} {w : World} {o : Oper} {t : TypeId} (hop : o.op = .makeMap t none) : (execOp a.eval o).run P w = .ok (.value (.map (some w.heap.size))) (w.alloc (.map #[] 0)) := by
  simp [execOp, hop, run_makeMap, Result.andThen]
end
end Go.Proofs.YtlidbkofjchnnaaDoor

namespace Go.Proofs.YtlidbkofjchnnaaDoor
open Go.RowKit
set_option linter.unusedVariables false
set_option linter.unusedSimpArgs false

theorem bool_info : (Tryd.prog.info? 4).map (fun i => (i.zero, i.size, i.bytes)) = some (some (.bool false), 1, 1) := by kernel_rfl
theorem bss_info : (Tryd.prog.info? 87).map (fun i => (i.zero, i.size, i.bytes)) = some (some (.slice none 0 0), 1, 24) := by kernel_rfl
/-- The law's own World: its cells. -/
def wcells (F M n pages nb : Nat) (g : Nat → Nat) : Array Value :=
  #[.pointer (some ⟨F, 0, none⟩), .pointer (some ⟨M, 0, none⟩), .int .i64 n, .int .i64 pages, .slice (some ⟨g 5, 0, none⟩) nb nb, .slice (some ⟨g 7, 0, none⟩) nb nb, .slice (some ⟨g 9, 0, none⟩) nb nb, .slice (some ⟨g 11, 0, none⟩) nb nb, .slice (some ⟨g 13, 0, none⟩) nb nb, .slice (some ⟨g 15, 0, none⟩) nb nb, .map (some (g 16))]
def wmks (nb : Nat) : List Mk :=
  [⟨5, 42, fun g => .slice (some ⟨g, 0, none⟩) nb nb, .cells (madeCells #[.slice none 0 0] nb) 87⟩, ⟨7, 44, fun g => .slice (some ⟨g, 0, none⟩) nb nb, .cells (madeCells #[.bool false] nb) 4⟩, ⟨9, 46, fun g => .slice (some ⟨g, 0, none⟩) nb nb, .cells (madeCells #[.bool false] nb) 4⟩, ⟨11, 48, fun g => .slice (some ⟨g, 0, none⟩) nb nb, .cells (madeCells #[.bool false] nb) 4⟩,
   ⟨13, 50, fun g => .slice (some ⟨g, 0, none⟩) nb nb, .cells (madeCells #[.bool false] nb) 4⟩, ⟨15, 52, fun g => .slice (some ⟨g, 0, none⟩) nb nb, .cells (madeCells #[.bool false] nb) 4⟩, ⟨16, 53, fun g => .map (some g), .map #[] 0⟩]
set_option maxRecDepth 100000 in
set_option maxHeartbeats 4000000 in
theorem begun_any (nb pages ch n : Nat) (h1 : 1 ≤ nb ∧ nb ≤ 1024) (h2 : 2 ≤ pages ∧ pages ≤ 256 ∧ pages % 2 = 0) (h3 : 1 ≤ ch ∧ ch ≤ 8) (h4 : 1 ≤ n ∧ n ≤ 64 * ch) (w : World) (hT : Tab w) :
    Calls Tryd.prog 8 #[.int .i64 nb, .int .i64 pages, .int .i64 ch, .int .i64 n] w fun e w' => ∃ W M Q F L P g w1, e = .returned (.pointer (some ⟨W, 0, none⟩)) ∧ MedIs w' w.heap.size M Q F L P (Fl.new nb pages ch) n (inL []) 0 ∧ Row w' W 31 (wcells F M n pages nb g) ∧ MFacts w1 w' (wmks nb) g ∧ Below w.heap.size w w1 ∧ Below w.heap.size w w' ∧ w1.heap.size ≤ W ∧ (∀ m ∈ wmks nb, g m.i < W) := by
  have HN := Lib.hid (New_any nb pages ch h1 h2 h3 w)
  obtain ⟨i1, ji, jz0, jz1, jz2⟩ := info_parts bool_info
  obtain ⟨i2, ki, kz0, kz1, kz2⟩ := info_parts bss_info
  have hb1 : Hid (i1.bytes * nb ≤ 281474976710656) := by unfold Hid; rw [jz2]; omega
  have hb2 : Hid (i2.bytes * nb ≤ 281474976710656) := by unfold Hid; rw [kz2]; omega
  have hmb : ∀ v : World, (Instr.makeSlice 28 (.int .i64 nb) (.int .i64 nb)).run Tryd.prog v = .ok (.slice (some ⟨v.heap.size, 0, none⟩) nb nb) (v.alloc (.cells (madeCells #[.bool false] nb) 4)) := fun v => run_make_row (P := Tryd.prog) 28 4 i1 _ Tryd.underlying28 ji jz0 jz1 rfl .i64 .i64 nb hb1.out (by omega) v
  have hms : ∀ v : World, (Instr.makeSlice 27 (.int .i64 nb) (.int .i64 nb)).run Tryd.prog v = .ok (.slice (some ⟨v.heap.size, 0, none⟩) nb nb) (v.alloc (.cells (madeCells #[.slice none 0 0] nb) 87)) := fun v => run_make_row (P := Tryd.prog) 27 87 i2 _ Tryd.underlying27 ki kz0 kz1 rfl .i64 .i64 nb hb2.out (by omega) v
  have HMb := Lib.hid hmb
  have HMs := Lib.hid hms
  have HT := Lib.hid hT
  have H4 := Lib.hid h4
  clear hT hmb hms hb1 hb2 ji jz0 jz1 jz2 ki kz0 kz1 kz2 h2 h3 h4
  go_enter Tryd.func8, Tryd.ntmps8
  go_wp2_with fail
  refine HN.out.mono ?_
  rintro e w1 ⟨F, L, P, rfl, hf, hb⟩
  have HB1 := Lib.hid hb
  have HT1 := Lib.hid (HT.out.keep (keep_below hb))
  have HM1 := Lib.hid (New_yes hf HT.out.lt HT1.out n H4.out none [] (by decide) 0 (fun i h => absurd h (by simp)) (by decide) rfl)
  clear hf hb HN
  go_wp2_with fail
  refine HM1.out.mono ?_
  rintro e w2 ⟨M, Q, rfl, hm, hb, _, _⟩
  have HM2 := Lib.hid hm
  have HB2 : Hid (Below w.heap.size w w2) := HB1.out.trans (hb.mono HB1.out.size)
  clear hm hb HM1 HB1 HT1
  go_wp2
  refine region_makes [] [0, 1, 2, 3, 4, 6, 8, 10, 12, 14] [5, 7, 9, 11, 13, 15, 16] [17, 18, 19] (by kernel_rfl) (by kernel_rfl) (fun _ _ _ _ _ h => h) ?_
  simp only [List.filterMap_cons, List.getElem?_cons_zero, List.getElem?_cons_succ, List.filterMap_nil]
  (repeat ((show wpQuiet _ _ _ _ (_ :: _) _); go_big_quiet_step (fail)))
  refine wpQuiet_nil ?_
  refine ⟨wmks nb, rfl, ⟨by unfold wmks; simp, by unfold wmks; simp, fun m hm => ?_⟩, fun g u hf => ?_⟩
  · unfold wmks at hm
    simp only [List.mem_cons, List.not_mem_nil, or_false] at hm
    rcases hm with rfl | rfl | rfl | rfl | rfl | rfl | rfl
    · exact ⟨_, rfl, (by show (5 : Nat) < 19; omega), rfl, rfl, fun a v h => exec_mk rfl ((h 41 (by unfold wmks; simp)).trans rfl) (HMs.out v)⟩
    · exact ⟨_, rfl, (by show (7 : Nat) < 19; omega), rfl, rfl, fun a v h => exec_mk rfl ((h 43 (by unfold wmks; simp)).trans rfl) (HMb.out v)⟩
    · exact ⟨_, rfl, (by show (9 : Nat) < 19; omega), rfl, rfl, fun a v h => exec_mk rfl ((h 45 (by unfold wmks; simp)).trans rfl) (HMb.out v)⟩
    · exact ⟨_, rfl, (by show (11 : Nat) < 19; omega), rfl, rfl, fun a v h => exec_mk rfl ((h 47 (by unfold wmks; simp)).trans rfl) (HMb.out v)⟩
    · exact ⟨_, rfl, (by show (13 : Nat) < 19; omega), rfl, rfl, fun a v h => exec_mk rfl ((h 49 (by unfold wmks; simp)).trans rfl) (HMb.out v)⟩
    · exact ⟨_, rfl, (by show (15 : Nat) < 19; omega), rfl, rfl, fun a v h => exec_mk rfl ((h 51 (by unfold wmks; simp)).trans rfl) (HMb.out v)⟩
    · exact ⟨_, rfl, by decide, rfl, rfl, fun a v h => exec_mkmap rfl⟩
  · have HF := Lib.hid hf
    have HTu : Hid (Turns w2 u []) := ⟨hf.below.os, hf.below.tape, hf.below.output, hf.below.size, fun k hk _ => hf.below.block k hk⟩
    have HBu : Hid (Below w.heap.size w u) := HB2.out.trans (show Below w.heap.size w2 u from ⟨hf.below.os, hf.below.tape, hf.below.output, hf.below.size, fun k hk => hf.below.block k (Nat.lt_of_lt_of_le hk HB2.out.size)⟩)
    have HMu : Hid (MedIs u w.heap.size M Q F L P (Fl.new nb pages ch) n (inL []) 0) := HM2.out.keep HTu.out
    have HGl : Hid (∀ m ∈ wmks nb, g m.i < u.heap.size) := fun m hm => (Array.getElem?_eq_some_iff.1 (hf.at' m hm).2).1
    clear hf
    have e0 : ∀ a : Act, putsM a (wmks nb) g = ((((((a.put (some 42) (.slice (some ⟨g 5, 0, none⟩) nb nb)).put (some 44) (.slice (some ⟨g 7, 0, none⟩) nb nb)).put (some 46) (.slice (some ⟨g 9, 0, none⟩) nb nb)).put (some 48) (.slice (some ⟨g 11, 0, none⟩) nb nb)).put (some 50) (.slice (some ⟨g 13, 0, none⟩) nb nb)).put (some 52) (.slice (some ⟨g 15, 0, none⟩) nb nb)).put (some 53) (.map (some (g 16))) := fun a => rfl
    rw [e0]
    clear e0
    simp only [Act.put, List.setIfInBounds_toArray, List.set_cons_zero, List.set_cons_succ]
    refine wpSeqS_step ?_
    go_wp2_with fail
    refine outQ_normal HTu.out ?_
    refine wpSeqS_step ?_
    go_wp2_with fail
    refine outQ_normal (HTu.out.alloc _) ?_
    refine wpSeqS_last ?_
    go_wp2
    go_ret
    refine ⟨u.heap.size, M, Q, F, L, P, g, w2.drew, rfl, HMu.out.alloc _, Row.fresh _ _ _, ?_, HB2.out.drew, HBu.out.alloc HBu.out.size _, HF.out.below.size, HGl.out⟩
    exact ⟨fun m hm => ⟨(HF.out.at' m hm).1, (Below.heap_alloc u _ _ (HGl.out m hm)).trans (HF.out.at' m hm).2⟩, HF.out.ne, HF.out.below.alloc HF.out.below.size _⟩
end Go.Proofs.YtlidbkofjchnnaaDoor

namespace Go.Proofs.YtlidbkofjchnnaaDoor
open Go.RowKit
set_option linter.unusedVariables false
set_option linter.unusedSimpArgs false

section
variable {w w' : World} {B M Q F L n : Nat} {P : Nat → Nat} {S S' : Fl} {bad : Nat → Bool} {md : Int}
theorem MedIs.no_row (h : MedIs w B M Q F L P S n bad md) {g : Nat} {t : TypeId} {cs : Array Value} (hr : Row w g t cs) (h1 : t ≠ 78) (h2 : t ≠ 42) (h3 : t ≠ 89) (h4 : t ≠ 46) : g ∉ medT M Q F L P S.nb := fun hm => by
  rcases mem_medT.1 hm with rfl | rfl | rfl | rfl | ⟨i, hi, rfl⟩
  · exact Row.ne_type hr h.row h1 rfl
  · exact h.bad.not_row _ _ hr
  · obtain ⟨_, hr'⟩ := h.fl.rowF; exact Row.ne_type hr hr' h2 rfl
  · obtain ⟨_, hr'⟩ := h.fl.rowL; exact Row.ne_type hr hr' h3 rfl
  · obtain ⟨_, hr'⟩ := h.fl.rowP hi; exact Row.ne_type hr hr' h4 rfl
end
section
variable {w : World} {B B' M Q F L n : Nat} {P : Nat → Nat} {S : Fl} {bad : Nat → Bool} {md : Int}
theorem FlIs.low (h : FlIs w B F L P S) (hb : B' ≤ B) : FlIs w B' F L P S := ⟨Nat.le_trans hb h.hF, Nat.le_trans hb h.hL, fun i hi => Nat.le_trans hb (h.hP i hi), h.row, h.bl, h.pg, h.inj, h.ok⟩
theorem MedIs.low (h : MedIs w B M Q F L P S n bad md) (h1 : 1 ≤ B') (hb : B' ≤ B) : MedIs w B' M Q F L P S n bad md := ⟨h1, Nat.le_trans hb h.hM, Nat.le_trans hb h.hQ, h.fl.low hb, h.row, h.bad, h.bytes, h.tab⟩
end
/-- The law's world: a media, a World, all of it younger than w0. -/
structure LSt (w0 w : World) (W M Q F L : Nat) (P g : Nat → Nat) (S : Fl) (n : Nat) (bad : Nat → Bool) (md : Int) (pages nb : Nat) : Prop where
  med : MedIs w w0.heap.size M Q F L P S n bad md
  row : Row w W 31 (wcells F M n pages nb g)
  bel : Below w0.heap.size w0 w
  hW : w0.heap.size ≤ W
section
variable {w0 w w' : World} {W M Q F L n pages nb : Nat} {P g : Nat → Nat} {S S' : Fl} {bad bad' : Nat → Bool} {md md' : Int}
theorem LSt.turn (h : LSt w0 w W M Q F L P g S n bad md pages nb) {T : List Nat} (hm : MedIs w' w0.heap.size M Q F L P S' n bad' md') (ht : Turns w w' T) (hT : ∀ g ∈ T, g ∈ medT M Q F L P S.nb) : LSt w0 w' W M Q F L P g S' n bad' md' pages nb :=
  ⟨hm, ht.row h.row (fun hx => h.med.no_row h.row (by decide) (by decide) (by decide) (by decide) (hT _ hx)), h.med.behind h.bel ht hT, h.hW⟩
theorem LSt.keep (h : LSt w0 w W M Q F L P g S n bad md pages nb) (ht : Turns w w' []) : LSt w0 w' W M Q F L P g S n bad md pages nb := h.turn (h.med.keep ht) ht (by simp)
theorem LSt.drewN (h : LSt w0 w W M Q F L P g S n bad md pages nb) (m : Nat) : LSt w0 (w.drewN m) W M Q F L P g S n bad md pages nb := h.keep ((Turns.refl w []).drewN m)
theorem LSt.cells (h : LSt w0 w W M Q F L P g S n bad md pages nb) : w.cell? ⟨W, 0, none⟩ = some (.pointer (some ⟨F, 0, none⟩)) ∧ w.cell? ⟨W, 1, none⟩ = some (.pointer (some ⟨M, 0, none⟩)) := ⟨h.row.cell 0, h.row.cell 1⟩
theorem LSt.off (h : LSt w0 w W M Q F L P g S n bad md pages nb) (m : Nat) {o : Bool} (ho : S.off = o) : Calls Tryd.prog 11 #[.pointer (some ⟨F, 0, none⟩)] (w.drewN m) fun e w' => e = .returned (.bool o) ∧ w.drewN m = w' := by subst ho; exact Off_N h.med m
theorem LSt.off0 (h : LSt w0 w W M Q F L P g S n bad md pages nb) {o : Bool} (ho : S.off = o) : Calls Tryd.prog 11 #[.pointer (some ⟨F, 0, none⟩)] w fun e w' => e = .returned (.bool o) ∧ w = w' := by subst ho; exact FlOff h.med.fl
theorem LSt.on (h : LSt w0 w W M Q F L P g S n bad md pages nb) : Calls Tryd.prog 13 #[.pointer (some ⟨F, 0, none⟩)] w fun e w' => e = .returned (.tuple #[]) ∧ LSt w0 w' W M Q F L P g { S with off := false } n bad md pages nb :=
  (On_fl h.med.fl).mono fun e w' ⟨he, hf, ht⟩ => ⟨he, h.turn (h.med.flash hf ht (by simp [flS]) rfl rfl) ht (by simp [medT, flS])⟩
theorem LSt.arm (h : LSt w0 w W M Q F L P g S n bad md pages nb) (a : Int) (ha : 1 ≤ a ∧ a < 9223372036854775808) : Calls Tryd.prog 9 #[.pointer (some ⟨F, 0, none⟩), .int .i64 a] w fun e w' => e = .returned (.tuple #[]) ∧ LSt w0 w' W M Q F L P g { S with armed := a.toNat } n bad md pages nb :=
  (Arm_fl h.med.fl a ha.2).mono fun e w' ⟨he, hf, ht⟩ => ⟨he, by rw [show max a 1 = a by omega] at hf; exact h.turn (h.med.flash hf ht (by simp [flS]) rfl rfl) ht (by simp [medT, flS])⟩
theorem LSt.scan_out (h : LSt w0 w W M Q F L P g S n bad md pages nb) (k : Int) (hk : S.nb ≤ k) : Calls Tryd.prog 14 #[.pointer (some ⟨M, 0, none⟩), .int .i64 k] w fun e w' => e = .returned (.tuple #[.int .i64 0, .bool false, .int .i64 1]) ∧ LSt w0 w' W M Q F L P g S n bad md pages nb :=
  (Scan_out h.med k (.inr hk)).mono fun e w' ⟨he, m, hw⟩ => ⟨he, by subst hw; exact h.drewN m⟩
/-- What Scan tells of a block. -/
def scanN (S : Fl) (k : Nat) : Nat := if (S.b k).half then 0 else (S.b k).next
def scanW (S : Fl) (k : Nat) : Bool := if (S.b k).half then false else if (S.b k).next = 0 then true else !(stateOf (S.raw k ((S.b k).next - 1)) S.chunks == 1)
theorem LSt.scan (h : LSt w0 w W M Q F L P g S n bad md pages nb) (k : Nat) (hk : k < S.nb) (ho : S.off = false) {a : Nat} {b : Bool} (ha : scanN S k = a) (hb : scanW S k = b) : Calls Tryd.prog 14 #[.pointer (some ⟨M, 0, none⟩), .int .i64 k] w fun e w' => e = .returned (.tuple #[.int .i64 a, .bool b, .int .i64 0]) ∧ LSt w0 w' W M Q F L P g S n bad md pages nb := by
  subst ha; subst hb
  unfold scanN scanW
  cases hh : (S.b k).half with
  | true =>
    refine (Scan_none h.med k hk ho (.inl hh)).mono fun e w' ⟨he, m, hw⟩ => ⟨?_, by subst hw; exact h.drewN m⟩
    rw [hh] at he; exact he
  | false =>
    by_cases hn : (S.b k).next = 0
    · refine (Scan_none h.med k hk ho (.inr hn)).mono fun e w' ⟨he, m, hw⟩ => ⟨?_, by subst hw; exact h.drewN m⟩
      rw [hh] at he
      rw [hn]; exact he
    · refine (Scan_some h.med k hk ho hh (by omega)).mono fun e w' ⟨he, hm, ht⟩ => ⟨?_, h.turn hm ht (by simp [medT, flS])⟩
      rw [if_neg (by simp), if_neg (by simp), if_neg hn]
      exact he
end
end Go.Proofs.YtlidbkofjchnnaaDoor

namespace Go.Proofs.YtlidbkofjchnnaaDoor
open Go.RowKit Go.MapKept Go.ChangeMaps
open Go.Maps (Keyed)
set_option linter.unusedVariables false
set_option linter.unusedSimpArgs false

/-- Block r of w goes over the map at b, which f tells; cnt entries are still to come. -/
def IterIs (P : Program) (k : TypeId) (w : World) (b r n : Nat) (f : Value → Option Value) (cnt : Nat) : Prop :=
  ∃ es clock since seen c0, w.heap[b]? = some (.map es clock) ∧ Stamped es clock ∧ es.size = n ∧ (∀ x ∈ es.toList, ∃ l, keyOf P k x.key = some l) ∧ (∀ key v, f key = some v ↔ ∃ x ∈ es.toList, x.key = key ∧ x.val = v) ∧
    w.heap[r]? = some (.mapIter (some b) since seen c0) ∧ (∀ x ∈ es.toList, x.born < since) ∧ (leftOf es seen).size = cnt ∧ since ≤ c0 ∧ since ≤ clock
section
variable {P : Program} {k : TypeId} {w : World} {b r n cnt : Nat} {f : Value → Option Value}
theorem IterIs.isMap (h : IterIs P k w b r n f cnt) : MapIs P k w b n f := by
  obtain ⟨es, clock, since, seen, c0, hb, hs, hn, hk, hf, _⟩ := h
  exact ⟨es, clock, hb, hs, hn, hk, hf⟩
theorem IterIs.lt (h : IterIs P k w b r n f cnt) : r < w.heap.size := by
  obtain ⟨es, clock, since, seen, c0, hb, hs, hn, hk, hf, hr, _⟩ := h
  exact (Array.getElem?_eq_some_iff.1 hr).1
theorem IterIs.keep {w' : World} (h : IterIs P k w b r n f cnt) (hb : w'.heap[b]? = w.heap[b]?) (hr : w'.heap[r]? = w.heap[r]?) : IterIs P k w' b r n f cnt := by
  obtain ⟨es, clock, since, seen, c0, h1, hs, hn, hk, hf, h2, rest⟩ := h
  exact ⟨es, clock, since, seen, c0, hb.trans h1, hs, hn, hk, hf, hr.trans h2, rest⟩
theorem IterIs.below {w' : World} (h : IterIs P k w b r n f cnt) (hb : Below w.heap.size w w') : IterIs P k w' b r n f cnt :=
  h.keep (hb.block b h.isMap.lt) (hb.block r h.lt)
theorem MapIs.range {t e : TypeId} (h : MapIs P k w b n f) (ht : P.underlying t = some (.map k e)) :
    ∃ w', (Instr.range t (.map (some b))).run P w = .ok (.pointer (some ⟨w.heap.size, 0, none⟩)) w' ∧ IterIs P k w' b w.heap.size n f n ∧ Below w.heap.size w w' := by
  obtain ⟨es, clock, hb, hs, hn, hk, hf⟩ := h
  refine ⟨w.alloc (.mapIter (some b) clock #[] clock), ?_, ⟨es, clock, clock, #[], clock, ?_, hs, hn, hk, hf, heap_alloc_new w _, ?_, ?_, Nat.le_refl _, Nat.le_refl _⟩, (Below.refl _ _).alloc (Nat.le_refl _) _⟩
  · simp [Instr.range, run_underlying ht, MapKept.run_getObj_map hb, Result.andThen]
  · exact (Below.heap_alloc w _ b (Array.getElem?_eq_some_iff.1 hb).1).trans hb
  · exact fun x hx => ((stamped_iff es clock).1 hs).1 x hx
  · rw [← hn]; simp [leftOf]
theorem IterIs.next (h : IterIs P k w b r n f cnt) (ty : TypeId) :
    (cnt = 0 ∧ (Instr.next (.pointer (some ⟨r, 0, none⟩)) false ty).run P w = .ok (.tuple #[.bool false]) w) ∨
    ∃ key v w' cnt', f key = some v ∧ (Instr.next (.pointer (some ⟨r, 0, none⟩)) false ty).run P w = .ok (.tuple #[.bool true, key, v]) w' ∧ IterIs P k w' b r n f cnt' ∧ cnt' < cnt ∧ w.grownBy w' (some r) ∧
      (Instr.entry (.pointer (some ⟨r, 0, none⟩))).run P w' = .ok (.tuple #[key, v]) w' := by
  obtain ⟨es, clock, since, seen, c0, hb, hs, hn, hk, hf, hr, hold, hcnt, hsc, hsk⟩ := h
  have hne : r ≠ b := fun e => by rw [e, hb] at hr; cases hr
  rcases run_next_at (P := P) w ty r b since c0 seen es clock hr hb hold hsc with ⟨h0, hrun⟩ | ⟨e, he, w1, hal, hrun⟩
  · exact .inl ⟨by rw [← hcnt]; exact h0, hrun⟩
  · obtain ⟨hem, hes⟩ := mem_left he
    have hr1 : w1.heap[r]? = some (.mapIter (some b) since seen c0) := by rcases hal with rfl | rfl <;> exact hr
    have hb1 : w1.heap[b]? = some (.map es clock) := by rcases hal with rfl | rfl <;> exact hb
    have hset := heap_set (o' := .mapIter (some b) since (seen.push e.born) clock) hr1
    have hb' : (setBlock w1 r (.mapIter (some b) since (seen.push e.born) clock)).heap[b]? = some (.map es clock) := (hset.2 b (fun e1 => hne e1.symm)).trans hb1
    refine .inr ⟨e.key, e.val, _, _, (hf e.key e.val).2 ⟨e, hem, rfl, rfl⟩, hrun, ⟨es, clock, since, seen.push e.born, clock, hb', hs, hn, hk, hf, hset.1, hold, rfl, hsk, hsk⟩, by rw [← hcnt]; exact left_shrinks es seen e he, ?_,
      run_entry_at _ r b since seen es clock e hset.1 hb' hem ((stamped_iff es clock).1 hs).2.1⟩
    rcases hal with rfl | rfl <;> exact ⟨rfl, rfl, rfl, by simp [setBlock], fun i _ hi => hset.2 i (fun e1 => hi (by rw [e1]))⟩
theorem IterIs.left_eq (h : IterIs P k w b r n f cnt) : w.rangeLeft b r = cnt := by
  obtain ⟨es, clock, since, seen, c0, h1, hs, hn, hk, hf, h2, hold, hcnt, _⟩ := h
  unfold World.rangeLeft
  rw [h1, h2]; exact hcnt
variable {ops : Array Oper} {rest : List Oper} {o : Oper} {a : Act} {Q : Exit → Act → World → Prop}
/-- 'range m'. -/
theorem wpList_range_map (hg : o.guard = none) (m : Operand) (t : TypeId) (hop : o.op = Op.range t m) (k e : TypeId) (ht : P.underlying t = some (.map k e)) (b n : Nat) (f : Value → Option Value)
    (hm : a.eval m = .map (some b)) (h : MapIs P k w b n f)
    (hK : ∀ w', IterIs P k w' b w.heap.size n f n → Below w.heap.size w w' → wpList P ops Q rest (a.put o.dst (.pointer (some ⟨w.heap.size, 0, none⟩))) w') :
    wpList P ops Q (o :: rest) a w := by
  refine wpList_plain hg fun K' hK' => ?_
  obtain ⟨w', hrun, r1, r2⟩ := h.range ht
  unfold Oper.wp
  simp [execOp, hop, hm, hrun, Result.andThen]
  exact hK' _ _ (hK w' r1 r2)
/-- The step. -/
theorem wpList_next_map (hg : o.guard = none) (it : Operand) (hop : o.op = Op.next it false) (k : TypeId) (b r n : Nat) (f : Value → Option Value) (cnt : Nat) (hit : a.eval it = .pointer (some ⟨r, 0, none⟩)) (h : IterIs P k w b r n f cnt)
    (hDone : cnt = 0 → wpList P ops Q rest (a.put o.dst (.tuple #[.bool false])) w)
    (hMore : ∀ (key v : Value) (w' : World) (cnt' : Nat), f key = some v → IterIs P k w' b r n f cnt' → cnt' < cnt → w.grownBy w' (some r) →
      (Instr.entry (.pointer (some ⟨r, 0, none⟩))).run P w' = .ok (.tuple #[key, v]) w' → wpList P ops Q rest (a.put o.dst (.tuple #[.bool true, key, v])) w') :
    wpList P ops Q (o :: rest) a w := by
  refine wpList_plain hg fun K' hK' => ?_
  unfold Oper.wp
  rcases h.next o.type with ⟨h0, hrun⟩ | ⟨key, v, w', cnt', hfk, hrun, hit', hlt, hgr, hen⟩
  · simp [execOp, hop, hit, hrun, Result.andThen]
    exact hK' _ _ (hDone h0)
  · simp [execOp, hop, hit, hrun, Result.andThen]
    exact hK' _ _ (hMore key v w' cnt' hfk hit' hlt hgr hen)
end
/-- Two maps that have the same keys have as many entries. -/
theorem nodup_le {α : Type} : ∀ {l m : List α}, l.Pairwise (· ≠ ·) → (∀ x ∈ l, x ∈ m) → l.length ≤ m.length
  | [], _, _, _ => by simp
  | x :: l, m, hp, hm => by
    obtain ⟨h1, h2⟩ := List.pairwise_cons.1 hp
    obtain ⟨m1, m2, rfl⟩ := List.append_of_mem (hm x (by simp))
    have := nodup_le (l := l) (m := m1 ++ m2) h2 (fun y hy => by
      have := hm y (by simp [hy])
      simp only [List.mem_append, List.mem_cons] at this ⊢
      rcases this with h | rfl | h
      · exact .inl h
      · exact absurd rfl (h1 _ hy)
      · exact .inr h)
    simp only [List.length_append, List.length_cons] at this ⊢
    omega
theorem MapIs.keys_le {P : Program} {k : TypeId} {w w' : World} {b b' n n' : Nat} {f f' : Value → Option Value} (h : MapIs P k w b n f) (h' : MapIs P k w' b' n' f') (hk : ∀ key v, f key = some v → ∃ v', f' key = some v') : n ≤ n' := by
  obtain ⟨es, clock, hb, hs, rfl, _, hf⟩ := h
  obtain ⟨es', clock', hb', hs', rfl, _, hf'⟩ := h'
  have := nodup_le (l := es.toList.map (·.key)) (m := es'.toList.map (·.key)) (List.pairwise_map.2 ((stamped_iff es clock).1 hs).2.2) (fun key hkey => by
    obtain ⟨x, hx, rfl⟩ := List.mem_map.1 hkey
    obtain ⟨v', hv'⟩ := hk x.key x.val ((hf _ _).2 ⟨x, hx, rfl, rfl⟩)
    obtain ⟨y, hy, e, _⟩ := (hf' _ _).1 hv'
    exact List.mem_map.2 ⟨y, hy, e⟩)
  simpa using this
end Go.Proofs.YtlidbkofjchnnaaDoor

namespace Go.Proofs.YtlidbkofjchnnaaDoor
open Go.Shelf
def Tryd.keysA_ren : Go.Shelf.Ren := ⟨fun | 7 => 37 | 10 => 55 | n => n, fun | 23 => 76 | 26 => 3 | 3 => 4 | 28 => 93 | 0 => 0 | 27 => 92 | 33 => 60 | 4 => 4 | n => n, fun | n => n⟩
theorem Tryd.keysA : Go.Proofs.SlLaysZI.n7 Tryd.prog Tryd.keysA_ren := {
  mixed := by kernel_rfl
  f7 := ⟨Tryd.f37.name, by decide, Tryd.func37.trans (congrArg some (by kernel_rfl))⟩
  f10 := ⟨Tryd.f55.name, by decide, Tryd.func55.trans (congrArg some (by kernel_rfl))⟩
  t0 := Tryd.underlying0
  a0 := Tryd.isAgg0
  z0 := Tryd.sizeOf0
  v0 := Tryd.zeroValue0
  t4 := Tryd.underlying4
  a4 := Tryd.isAgg4
  z4 := Tryd.sizeOf4
  v4 := Tryd.zeroValue4
  t23 := Tryd.underlying76
  a23 := Tryd.isAgg76
  z23 := Tryd.sizeOf76
  v23 := Tryd.zeroValue76
  t26 := Tryd.underlying3
  a26 := Tryd.isAgg3
  z26 := Tryd.sizeOf3
  v26 := Tryd.zeroValue3
  t27 := Tryd.underlying92
  a27 := Tryd.isAgg92
  z27 := Tryd.sizeOf92
  v27 := Tryd.zeroValue92
  t28 := Tryd.underlying93
  a28 := Tryd.isAgg93
  z28 := Tryd.sizeOf93
  v28 := Tryd.zeroValue93
  t33 := Tryd.underlying60
  a33 := Tryd.isAgg60
  z33 := Tryd.sizeOf60
  v33 := Tryd.zeroValue60 }
def Tryd.sortedA_ren : Go.Shelf.Ren := ⟨fun | 6 => 36 | 8 => 53 | 9 => 54 | 11 => 69 | 13 => 71 | 12 => 70 | 23 => 86 | 24 => 87 | 14 => 77 | 15 => 78 | 16 => 79 | 17 => 80 | 18 => 81 | 19 => 82 | 20 => 83 | 21 => 84 | 22 => 85 | 25 => 91 | 26 => 92 | 27 => 93 | 28 => 94 | 29 => 95 | 30 => 96 | 31 => 97 | n => n, fun | 26 => 3 | 28 => 93 | 24 => 51 | 0 => 0 | 3 => 3 | 37 => 126 | 48 => 144 | 50 => 120 | 4 => 4 | 40 => 137 | 39 => 136 | 45 => 141 | 5 => 5 | 9 => 9 | 51 => 151 | 55 => 155 | 57 => 157 | 58 => 158 | 33 => 60 | n => n, fun | n => n⟩
theorem Tryd.sortedA : Go.Proofs.SlLaysZI.n6 Tryd.prog Tryd.sortedA_ren := {
  mixed := by kernel_rfl
  f6 := ⟨Tryd.f36.name, by decide, Tryd.func36.trans (congrArg some (by kernel_rfl))⟩
  f8 := ⟨Tryd.f53.name, by decide, Tryd.func53.trans (congrArg some (by kernel_rfl))⟩
  f11 := ⟨Tryd.f69.name, by decide, Tryd.func69.trans (congrArg some (by kernel_rfl))⟩
  t0 := Tryd.underlying0
  a0 := Tryd.isAgg0
  z0 := Tryd.sizeOf0
  v0 := Tryd.zeroValue0
  t24 := Tryd.underlying51
  a24 := Tryd.isAgg51
  z24 := Tryd.sizeOf51
  v24 := Tryd.zeroValue51
  t26 := Tryd.underlying3
  a26 := Tryd.isAgg3
  z26 := Tryd.sizeOf3
  v26 := Tryd.zeroValue3
  t28 := Tryd.underlying93
  a28 := Tryd.isAgg93
  z28 := Tryd.sizeOf93
  v28 := Tryd.zeroValue93
  i26 := by kernel_rfl }
def Tryd.sortA_ren : Go.Shelf.Ren := ⟨fun | 5 => 54 | 8 => 71 | 7 => 70 | 19 => 86 | 20 => 87 | 10 => 77 | 11 => 78 | 12 => 79 | 13 => 80 | 14 => 81 | 15 => 82 | 16 => 83 | 17 => 84 | 18 => 85 | 30 => 91 | 31 => 92 | 32 => 93 | 33 => 94 | 34 => 95 | 35 => 96 | 40 => 97 | n => n, fun | 23 => 51 | 25 => 3 | 3 => 3 | 32 => 126 | 22 => 51 | 0 => 0 | 44 => 144 | 46 => 120 | 4 => 4 | 36 => 137 | 35 => 136 | 41 => 141 | 5 => 5 | 9 => 9 | 53 => 151 | 57 => 155 | 63 => 157 | 64 => 158 | n => n, fun | n => n⟩
theorem Tryd.sortA : Go.Proofs.SlLaysM.n5 Tryd.prog Tryd.sortA_ren := {
  mixed := by kernel_rfl
  f5 := ⟨Tryd.f54.name, by decide, Tryd.func54.trans (congrArg some (by kernel_rfl))⟩
  f7 := ⟨Tryd.f70.name, by decide, Tryd.func70.trans (congrArg some (by kernel_rfl))⟩
  f8 := Tryd.func71.trans (congrArg some (by kernel_rfl))
  f10 := ⟨Tryd.f77.name, by decide, Tryd.func77.trans (congrArg some (by kernel_rfl))⟩
  f11 := ⟨Tryd.f78.name, by decide, Tryd.func78.trans (congrArg some (by kernel_rfl))⟩
  f12 := ⟨Tryd.f79.name, by decide, Tryd.func79.trans (congrArg some (by kernel_rfl))⟩
  f13 := ⟨Tryd.f80.name, by decide, Tryd.func80.trans (congrArg some (by kernel_rfl))⟩
  f14 := ⟨Tryd.f81.name, by decide, Tryd.func81.trans (congrArg some (by kernel_rfl))⟩
  f15 := ⟨Tryd.f82.name, by decide, Tryd.func82.trans (congrArg some (by kernel_rfl))⟩
  f16 := ⟨Tryd.f83.name, by decide, Tryd.func83.trans (congrArg some (by kernel_rfl))⟩
  f17 := ⟨Tryd.f84.name, by decide, Tryd.func84.trans (congrArg some (by kernel_rfl))⟩
  f18 := ⟨Tryd.f85.name, by decide, Tryd.func85.trans (congrArg some (by kernel_rfl))⟩
  f19 := Tryd.func86.trans (congrArg some (by kernel_rfl))
  f20 := Tryd.func87.trans (congrArg some (by kernel_rfl))
  f30 := ⟨Tryd.f91.name, by decide, Tryd.func91.trans (congrArg some (by kernel_rfl))⟩
  f31 := Tryd.func92.trans (congrArg some (by kernel_rfl))
  f32 := Tryd.func93.trans (congrArg some (by kernel_rfl))
  f33 := ⟨Tryd.f94.name, by decide, Tryd.func94.trans (congrArg some (by kernel_rfl))⟩
  f34 := ⟨Tryd.f95.name, by decide, Tryd.func95.trans (congrArg some (by kernel_rfl))⟩
  f35 := ⟨Tryd.f96.name, by decide, Tryd.func96.trans (congrArg some (by kernel_rfl))⟩
  f40 := ⟨Tryd.f97.name, by decide, Tryd.func97.trans (congrArg some (by kernel_rfl))⟩
  t0 := Tryd.underlying0
  a0 := Tryd.isAgg0
  z0 := Tryd.sizeOf0
  v0 := Tryd.zeroValue0
  t3 := Tryd.underlying3
  a3 := Tryd.isAgg3
  z3 := Tryd.sizeOf3
  v3 := Tryd.zeroValue3
  t4 := Tryd.underlying4
  a4 := Tryd.isAgg4
  z4 := Tryd.sizeOf4
  v4 := Tryd.zeroValue4
  t5 := Tryd.underlying5
  a5 := Tryd.isAgg5
  z5 := Tryd.sizeOf5
  v5 := Tryd.zeroValue5
  t9 := Tryd.underlying9
  a9 := Tryd.isAgg9
  z9 := Tryd.sizeOf9
  v9 := Tryd.zeroValue9
  t22 := Tryd.underlying51
  a22 := Tryd.isAgg51
  z22 := Tryd.sizeOf51
  v22 := Tryd.zeroValue51
  t23 := Tryd.underlying51
  a23 := Tryd.isAgg51
  z23 := Tryd.sizeOf51
  v23 := Tryd.zeroValue51
  t25 := Tryd.underlying3
  a25 := Tryd.isAgg3
  z25 := Tryd.sizeOf3
  v25 := Tryd.zeroValue3
  t32 := Tryd.underlying126
  a32 := Tryd.isAgg126
  z32 := Tryd.sizeOf126
  v32 := Tryd.zeroValue126
  t35 := Tryd.underlying136
  a35 := Tryd.isAgg136
  z35 := Tryd.sizeOf136
  v35 := Tryd.zeroValue136
  t36 := Tryd.underlying137
  a36 := Tryd.isAgg137
  z36 := Tryd.sizeOf137
  v36 := Tryd.zeroValue137
  t41 := Tryd.underlying141
  a41 := Tryd.isAgg141
  z41 := Tryd.sizeOf141
  v41 := Tryd.zeroValue141
  t44 := Tryd.underlying144
  a44 := Tryd.isAgg144
  z44 := Tryd.sizeOf144
  v44 := Tryd.zeroValue144
  t46 := Tryd.underlying120
  a46 := Tryd.isAgg120
  z46 := Tryd.sizeOf120
  v46 := Tryd.zeroValue120
  t53 := Tryd.underlying151
  a53 := Tryd.isAgg151
  z53 := Tryd.sizeOf151
  v53 := Tryd.zeroValue151
  t57 := Tryd.underlying155
  a57 := Tryd.isAgg155
  z57 := Tryd.sizeOf155
  v57 := Tryd.zeroValue155
  t63 := Tryd.underlying157
  a63 := Tryd.isAgg157
  z63 := Tryd.sizeOf157
  v63 := Tryd.zeroValue157
  t64 := Tryd.underlying158
  a64 := Tryd.isAgg158
  z64 := Tryd.sizeOf158
  v64 := Tryd.zeroValue158 }
end Go.Proofs.YtlidbkofjchnnaaDoor
namespace Go.Proofs.YtlidbkofjchnnaaDoor
open Go.RowKit Go.MapKept Go.ChangeMaps Go.Sort Go.Shelf
open Go.Maps (Keyed)
set_option linter.unusedVariables false
set_option linter.unusedSimpArgs false

theorem sortsA (m : Nat) : AnyZI.SortsIn Tryd.prog Tryd.sortedA_ren Fence.wide m :=
  ⟨fun blk off cap ss W hH hblk hsz => callsIn_wide.2 (AnyM.slices_Sort_int Tryd.sortA blk off cap ss W hH hblk hsz),
   fun p cap W => callsIn_wide.2 (AnyM.slices_Sort_int_none Tryd.sortA p cap W)⟩
set_option maxHeartbeats 1000000 in
theorem sorted_keys {H : Type} (b nn : Nat) (D0 : DataW H) (R : Value → Option (DataW H × List MemPlace)) (M : Nat) (w : World) (hM : w.cell? ⟨M, 3, none⟩ = some (.map (some b))) (hown : w.ownsMap Tryd.prog 3 R b nn D0) (hmax : Maps.size D0 ≤ maxLen) (hbytes : Maps.size D0 * 8 ≤ 140737488355328) :
    Calls Tryd.prog 18 #[.pointer (some ⟨M, 0, none⟩)] w fun e w' => ∃ (v : Value) (ss : List Int), e = .returned v ∧ ss.Perm (intKeys D0) ∧
      w'.ownsRow w.heap.size 3 1 v ss.length ((ss.mergeSort (fun x y => decide (x ≤ y))).map encZ) ∧ (v = .slice none 0 0 ↔ ss = []) ∧ Below w.heap.size w w' := by
  refine (callsIn_wide (n := 6)).1 ?_
  have hbl := hown.lt
  have hseq : SeqGives Fence.wide 2 Tryd.prog 55 #[.pointer (some ⟨w.heap.size, 0, none⟩)] encZ (fun ss => ss.Perm (intKeys D0)) (Maps.size D0) (w.alloc (.cells #[.map (some b)] 76)) :=
    AnyZI.keys_gives (ρ := Tryd.keysA_ren) { Tryd.keysA with } Fence.wide _ trivial rfl (by omega) w.heap.size b nn D0 _ (by simp) (by simp) (by
      obtain ⟨es, clock, hb, Ft, hs, hD⟩ := hown
      exact ⟨es, clock, (Below.heap_alloc _ _ b hbl).trans hb, Ft, hs, hD⟩)
  have cK : ∀ mb W, CallsIn Fence.wide 5 Tryd.prog 37 #[.map mb] W fun e w' => e = .returned (.func (.func 55) #[] #[.pointer (some ⟨W.heap.size, 0, none⟩)]) ∧ w' = W.alloc (.cells #[.map mb] 76) := fun mb W => AnyZI.keys_in Tryd.keysA Fence.wide 5 trivial rfl mb W
  have cS := AnyZI.sorted_in Tryd.sortedA Fence.wide 5 trivial trivial trivial trivial rfl (by omega) (sortsA _) (enters_of Tryd.func54 (by kernel_rfl) rfl) 55 #[.pointer (some ⟨w.heap.size, 0, none⟩)] trivial (enters_of Tryd.func55 (by kernel_rfl) rfl) _ _ hmax hbytes _ hseq
  change CallsIn _ _ Tryd.prog 36 _ _ _ at cS
  have hfK : Fence.wide.fn 37 := trivial
  have hfS : Fence.wide.fn 36 := trivial
  refine callsIn_of_wp Tryd.func18 rfl trivial ?_ rfl
  simp only [Tryd.ntmps18, List.size_toArray, List.length_cons, List.length_nil, Nat.reduceAdd, Nat.reduceSub, Array.replicate_succ, Array.replicate_zero, List.push_toArray, List.append_toArray, List.nil_append, List.cons_append]
  gi_wp2_with (first
    | (gi_at_call 37; refine (cK _ _).mono ?_; rintro e w' ⟨rfl, rfl⟩)
    | (gi_at_call 36; refine cS.mono ?_; rintro e w' ⟨v, ss, rfl, hS, hrow, hnil, hb⟩))
  go_ret
  exact ⟨v, ss, rfl, hS, ownsRow_base_a hrow (by simp), hnil, ((Below.refl _ w).alloc (Nat.le_refl _) _).trans (hb.mono (by simp))⟩
end Go.Proofs.YtlidbkofjchnnaaDoor
namespace Go.Proofs.YtlidbkofjchnnaaDoor
open Go.RowKit Go.MapKept
open Go.Maps (Keyed)
set_option linter.unusedVariables false
set_option linter.unusedSimpArgs false

/-- The blocks that are known to be bad, in order. -/
def badL (nb : Nat) (bad : Nat → Bool) : List Int := ((List.range nb).filter bad).map fun (k : Nat) => (k : Int)
set_option maxRecDepth 100000 in
theorem BadIs.owned {w : World} {Q nb : Nat} {bad : Nat → Bool} (h : BadIs w Q nb bad) (hn : nb ≤ 1024) :
    ∃ (nn : Nat) (D0 : DataW Unit), w.ownsMap Tryd.prog 3 (fun _ => some (.nil, [])) Q nn D0 ∧ Maps.size D0 ≤ nb ∧ (intKeys D0).Perm (badL nb bad) := by
  obtain ⟨n, f, ⟨es, clock, hb, hs, hsz, hk, hf⟩, h2⟩ := h
  have hkey : ∀ x ∈ es.toList, ∃ k : Nat, k < nb ∧ bad k = true ∧ x.key = .int .i64 k := fun x hx => by
    obtain ⟨k, h3, h4, h5, _⟩ := (h2 x.key x.val).1 ((hf _ _).2 ⟨x, hx, rfl, rfl⟩)
    exact ⟨k, h3, h4, h5⟩
  have hnd : (es.toList.map (·.key)).Pairwise (· ≠ ·) := List.pairwise_map.2 ((stamped_iff es clock).1 hs).2.2
  have hle : es.size ≤ nb := by
    have := nodup_le (l := es.toList.map (·.key)) (m := (List.range nb).map fun (k : Nat) => Value.int .i64 (k : Int)) hnd (fun y hy => by
      obtain ⟨x, hx, rfl⟩ := List.mem_map.1 hy
      obtain ⟨k, h3, _, h5⟩ := hkey x hx
      exact List.mem_map.2 ⟨k, List.mem_range.2 h3, h5.symm⟩)
    simpa using this
  have hF : WideElems.Fit (H := Unit) Tryd.prog 3 (fun _ => some (.nil, [])) es clock := ⟨by unfold maxLen; omega, hs, fun x hx => by
    obtain ⟨l, hl⟩ := hk x hx
    exact ⟨(l, .nil), by unfold WideElems.rd; rw [hl]; rfl⟩⟩
  refine ⟨es.size, _, ⟨es, clock, hb, hF, Nat.le_refl _, rfl⟩, ?_, ?_⟩
  · exact Nat.le_trans (World.ownsMap.size_le ⟨es, clock, hb, hF, Nat.le_refl _, rfl⟩) hle
  · have hrg : ∀ x ∈ es.toList, ∀ k : Nat, k < nb → x.key = .int .i64 k → Go.intOf (WideElems.rg (H := Unit) Tryd.prog 3 (fun _ => some (.nil, [])) x).1 = k := fun x hx k hk hkk => by
      have e : WideElems.rd (H := Unit) Tryd.prog 3 (fun _ => some (.nil, [])) x = some (.int .i64 k, .nil) := by
        unfold WideElems.rd; rw [hkk, int_key (by omega)]; rfl
      rw [WideElems.rg_of e]; rfl
    have hp1 := (Go.WideShapes.sorted_perm (es.toList.map (WideElems.rg (H := Unit) Tryd.prog 3 (fun _ => some (.nil, []))))).map fun p => Go.intOf p.1
    refine hp1.trans ?_
    rw [List.map_map]
    refine (List.perm_ext_iff_of_nodup ?_ ?_).2 fun y => ?_
    · refine List.pairwise_map.2 (((stamped_iff es clock).1 hs).2.2.imp_of_mem fun {x z} hx hz hne e => hne ?_)
      obtain ⟨k1, h1, _, e1⟩ := hkey x hx
      obtain ⟨k3, h3, _, e3⟩ := hkey z hz
      have a1 := hrg x hx k1 h1 e1
      have a3 := hrg z hz k3 h3 e3
      simp only [Function.comp_apply] at e
      rw [a1, a3] at e
      rw [e1, e3, e]
    · refine List.pairwise_map.2 ((List.nodup_range.filter bad).imp fun {x z} hne e => hne ?_)
      omega
    · rw [List.mem_map]
      unfold badL
      rw [List.mem_map]
      constructor
      · rintro ⟨x, hx, rfl⟩
        obtain ⟨k1, h1, hb1, e1⟩ := hkey x hx
        refine ⟨k1, List.mem_filter.2 ⟨List.mem_range.2 h1, hb1⟩, ?_⟩
        rw [Function.comp_apply]
        exact (hrg x hx k1 h1 e1).symm
      · rintro ⟨k1, hk1, rfl⟩
        obtain ⟨h1, hb1⟩ := List.mem_filter.1 hk1
        rw [List.mem_range] at h1
        obtain ⟨x, hx, e1, _⟩ := (hf _ _).1 ((h2 (.int .i64 k1) (.bool true)).2 ⟨k1, h1, hb1, rfl, rfl⟩)
        refine ⟨x, hx, ?_⟩
        rw [Function.comp_apply]
        exact hrg x hx k1 h1 e1
theorem badL_sorted (nb : Nat) (bad : Nat → Bool) : (badL nb bad).mergeSort (fun x y => decide (x ≤ y)) = badL nb bad := by
  have tr : ∀ a b c : Int, decide (a ≤ b) = true → decide (b ≤ c) = true → decide (a ≤ c) = true := fun a b c h1 h2 => by simp only [decide_eq_true_eq] at *; exact Int.le_trans h1 h2
  have tt : ∀ a b : Int, (decide (a ≤ b) || decide (b ≤ a)) = true := fun a b => by simp only [Bool.or_eq_true, decide_eq_true_eq]; exact Int.le_total a b
  have hL : (badL nb bad).Pairwise fun a b => decide (a ≤ b) = true := List.pairwise_map.2 ((List.pairwise_lt_range.filter bad).imp fun {x z} h => decide_eq_true (by omega))
  refine List.Perm.eq_of_pairwise (le := fun a b => decide (a ≤ b) = true) (fun a b _ _ h1 h2 => ?_) (List.pairwise_mergeSort tr tt _) hL (List.mergeSort_perm _ _)
  simp only [decide_eq_true_eq] at h1 h2
  exact Int.le_antisymm h1 h2
section
variable {w : World} {B M Q F L n : Nat} {P : Nat → Nat} {S : Fl} {bad : Nat → Bool} {md : Int}
theorem Bad_any (h : MedIs w B M Q F L P S n bad md) : Calls Tryd.prog 18 #[.pointer (some ⟨M, 0, none⟩)] w fun e w' => ∃ v, e = .returned v ∧
    w'.ownsRow w.heap.size 3 1 v (badL S.nb bad).length ((badL S.nb bad).map encZ) ∧ Below w.heap.size w w' := by
  obtain ⟨nn, D0, hown, hsz, hp⟩ := h.bad.owned h.fl.ok.nb.2
  have hnb := h.fl.ok.nb.2
  refine (sorted_keys Q nn D0 _ M w (h.row.cell 3) hown (by unfold maxLen; omega) (by omega)).mono fun e w' ⟨v, ss, he, hss, ho, _, hb⟩ => ⟨v, he, ?_, hb⟩
  have hp2 := hss.trans hp
  have e1 : ss.mergeSort (fun x y => decide (x ≤ y)) = badL S.nb bad := (mergeSort_of_perm_i hp2).trans (badL_sorted _ _)
  rw [e1, hp2.length_eq] at ho
  exact ho
end
end Go.Proofs.YtlidbkofjchnnaaDoor

namespace Go.Proofs.YtlidbkofjchnnaaDoor
open Go.ChangeShapes Go.WideShapes Go.ChangeAt Go.RowKit
set_option linter.unusedVariables false
set_option linter.unusedSimpArgs false

theorem gTab : Tryd.prog.globalNamed "math/bits.deBruijn64tab" = some 0 := by kernel_rfl
theorem gTabType : (Tryd.prog.globals[0]?).map (·.type) = some 150 := by kernel_rfl
theorem cellsTab : Tryd.prog.cellsOf 150 = 64 := by kernel_rfl
theorem cellsU8 : Tryd.prog.cellsOf 5 = 1 := by kernel_rfl
theorem tab_laid {W : World} (h : laidMetH Tryd.prog [("math/bits.deBruijn64tab", Rows.laid_math_bits_deBruijn64tab)] W) : Tab W := by
  have hT : Lib.TabIs Tryd.prog W "math/bits.deBruijn64tab" .u8 (Lib.deBruijn64tab.map fun (x : Nat) => (x : Int)) := Lib.tabIs_of_head (rest := []) gTab gTabType Tryd.underlying150 Tryd.underlying5 cellsU8 cellsTab h
  intro j hj
  have := hT.cell gTab j (by simpa using hj)
  rw [this]
  congr 2
  rw [List.getD_eq_getElem?_getD, List.getElem?_map, List.getElem?_eq_getElem hj, List.getD_eq_getElem?_getD, List.getElem?_eq_getElem hj]
  rfl
/-- A world for a witness: the settled one, the table (block 0) holding what its initialiser lays. -/
noncomputable def laidWorld (os : Os) : World :=
  { World.holding Tryd.prog os ⟨#[], #[], []⟩ with heap := (World.holding Tryd.prog os ⟨#[], #[], []⟩).heap.modify 0 fun
      | .cells _ t frozen => .cells (Lib.deBruijn64tab.map fun (x : Nat) => Value.int .u8 (x : Int)).toArray t frozen
      | o => o }
end Go.Proofs.YtlidbkofjchnnaaDoor

namespace Go.Proofs.YtlidbkofjchnnaaDoor
open Go.RowKit
set_option linter.unusedVariables false
set_option linter.unusedSimpArgs false

/-- Which of so many blocks were named. -/
def isA (nb : Nat) (f : Nat → Bool) : Array Value := ((List.range nb).map fun k => Value.bool (f k)).toArray
theorem isA_size (nb : Nat) (f : Nat → Bool) : (isA nb f).size = nb := by simp [isA]
theorem isA_get (nb : Nat) (f : Nat → Bool) (k : Nat) (h : k < nb) : (isA nb f)[k]? = some (.bool (f k)) := by simp [isA, h]
theorem isA_start (nb : Nat) : madeCells #[Value.bool false] nb = isA nb (inL []) := by
  apply Array.ext_getElem?
  intro i
  by_cases h : i < nb
  · rw [made_at _ _ _ h, isA_get nb _ i h]; rfl
  · rw [Array.getElem?_eq_none (by rw [size_madeCells]; omega), Array.getElem?_eq_none (by rw [isA_size]; omega)]
theorem isA_set (nb : Nat) (f : Nat → Bool) (k : Nat) (h : k < nb) : (isA nb f).setIfInBounds k (.bool true) = isA nb (setBad f k) := by
  apply Array.ext_getElem?
  intro i
  rw [Array.getElem?_setIfInBounds]
  by_cases hi : i < nb
  · rw [isA_get nb _ i hi, isA_get nb _ i hi]
    by_cases e : k = i
    · subst e; rw [if_pos rfl, if_pos (by rw [isA_size]; exact h)]; simp [setBad]
    · rw [if_neg e]
      have : (i == k) = false := by simpa using Ne.symm e
      simp [setBad, this]
  · have h1 : (isA nb f)[i]? = none := Array.getElem?_eq_none (by rw [isA_size]; omega)
    have h2 : (isA nb (setBad f k))[i]? = none := Array.getElem?_eq_none (by rw [isA_size]; omega)
    rw [h1, h2, if_neg (by omega)]
theorem inL_out (l : List Int) (k : Nat) (h : k < l.length) (nb : Nat) (ho : outI nb (l.getD k 0) = true) : isA nb (inL (l.take (k + 1))) = isA nb (inL (l.take k)) := by
  unfold isA
  congr 1
  apply List.map_congr_left
  intro i hi
  rw [List.mem_range] at hi
  congr 1
  unfold inL
  rw [any_takeI _ l k h]
  have : ((l.getD k 0) == (i : Int)) = false := by
    unfold outI at ho
    rw [decide_eq_true_iff] at ho
    simp only [beq_eq_false_iff_ne]
    omega
  rw [this, Bool.or_false]
theorem any_takeO (nb : Nat) (l : List Int) (k : Nat) (h : k < l.length) : (l.take (k + 1)).any (outI nb) = ((l.take k).any (outI nb) || outI nb (l.getD k 0)) := any_takeI _ l k h
/-- How many are bad ahead of k. -/
def cntB (bad : Nat → Bool) (k : Nat) : Nat := ((List.range k).filter bad).length
theorem cntB_step (bad : Nat → Bool) (k : Nat) : cntB bad (k + 1) = cntB bad k + (if bad k then 1 else 0) := by
  unfold cntB
  rw [List.range_succ, List.filter_append, List.length_append]
  cases h : bad k <;> simp [h]
theorem cntB_le (bad : Nat → Bool) (k : Nat) : cntB bad k ≤ k := by
  unfold cntB
  have := List.length_filter_le bad (List.range k)
  simpa using this
theorem badL_length (nb : Nat) (bad : Nat → Bool) : (badL nb bad).length = cntB bad nb := by unfold badL cntB; simp
theorem badL_at (nb : Nat) (bad : Nat → Bool) (k : Nat) (hk : k < nb) (hb : bad k = true) : (badL nb bad)[cntB bad k]? = some (k : Int) ∧ cntB bad k < cntB bad nb := by
  obtain ⟨r, rfl⟩ : ∃ r, nb = k + (1 + r) := ⟨nb - k - 1, by omega⟩
  have e : (List.range (k + (1 + r))).filter bad = (List.range k).filter bad ++ (k :: (((List.range r).map fun i => k + (1 + i)).filter bad)) := by
    rw [List.range_add, List.filter_append, List.range_add, List.map_append, List.filter_append]
    congr 1
    rw [show (List.map (fun x => k + x) (List.range 1)) = [k] from by simp]
    rw [List.filter_cons_of_pos hb]
    simp [List.map_map, Function.comp_def]
  constructor
  · unfold badL
    rw [e, List.map_append, List.getElem?_append_right (by unfold cntB; simp)]
    simp [cntB]
  · show cntB bad k < ((List.range (k + (1 + r))).filter bad).length
    rw [e, List.length_append, List.length_cons]
    unfold cntB
    omega
section
variable {w w' : World} {B M Q F L n : Nat} {P : Nat → Nat} {S : Fl} {bad : Nat → Bool} {md : Int}
theorem MedIs.aside {T : List Nat} (h : MedIs w B M Q F L P S n bad md) (ht : Turns w w' T) (hT : ∀ g ∈ T, g ∉ medT M Q F L P S.nb) (hb : ∀ g cs, Row w g 5 cs → g ∉ T) (h0 : 0 ∉ T) : MedIs w' B M Q F L P S n bad md :=
  ⟨h.hB, h.hM, h.hQ, h.fl.turns ht (fun g hg hx => hT g hg (fl_med hx)) hb, ht.row h.row (fun hm => hT _ hm (mem_medT.2 (.inl rfl))), h.bad.turns ht (fun hm => hT _ hm (mem_medT.2 (.inr (.inl rfl)))), h.bytes, h.tab.turns ht h0⟩
theorem Flash_any (h : MedIs w B M Q F L P S n bad md) : Calls Tryd.prog 17 #[.pointer (some ⟨M, 0, none⟩)] w fun e w' => e = .returned (.pointer (some ⟨F, 0, none⟩)) ∧ w = w' := by
  have c1 : w.cell? ⟨M, 1, none⟩ = some (.pointer (some ⟨F, 0, none⟩)) := h.row.cell 1
  clear h
  go_enter Tryd.func17, Tryd.ntmps17
  go_wp2
  go_ret
  exact ⟨rfl, rfl⟩
end
set_option maxRecDepth 100000 in
open Go.ChangeShapes Go.WideShapes Go.ChangeAt in
theorem ints_view {H : Type} {enc : TypeId × Value → H} (W : World) {base : Nat} {v : Value} {d : DataW H} {p : List MemPlace}
    (o : Value.okWide Tryd.prog W .any base 51 v) (h : DataW.Trod enc Tryd.prog W 0 (fun _ => true) true 51 v d p) :
    ∃ (a : Option Addr) (l : List Int) (cap : Nat), v = .slice a l.length cap ∧ l.length ≤ cap ∧ cap ≤ maxLen ∧ CellsI W a l := by
  obtain ⟨a, len, cap, rfl⟩ := okWide_slice Tryd.underlying51 o
  obtain ⟨fuel, hf⟩ := h
  rcases open_ints Tryd.underlying51 Tryd.underlying3 (by kernel_rfl) hf with ⟨hcs, _⟩ | ⟨x, len', c, zs, hcs, _, hl, hm, hz, _, hcell, hwz⟩
  · simp [Value.cells] at hcs
    obtain ⟨rfl, rfl, rfl⟩ := hcs
    exact ⟨none, [], 0, rfl, Nat.le_refl _, by simp [maxLen], fun i h => absurd h (by simp)⟩
  · simp [Value.cells] at hcs
    obtain ⟨rfl, rfl, rfl⟩ := hcs
    have hzl : zs.length = cap := by simpa using hz
    have hlen : (zs.take len).length = len := by simp; omega
    refine ⟨some x, zs.take len, cap, by rw [hlen], by omega, hm, fun i hi => ?_⟩
    rw [hlen] at hi
    obtain ⟨b, off, spot⟩ := x
    have hc := hcell i (by omega)
    have hspot : spot = none := by
      have h0 := hcell 0 (by omega)
      simpa [Addr.add] using World.cell?_spot h0
    subst hspot
    refine ⟨b, off, rfl, ?_⟩
    rw [addr_add] at hc
    rw [hc]
    congr 2
    rw [List.getD_eq_getElem?_getD, List.getD_eq_getElem?_getD, List.getElem?_take, if_pos hi]
end Go.Proofs.YtlidbkofjchnnaaDoor
