/- nand: Program at a flash. -/
import Derived.Test.YtlidbkofjchnnaaDoorNandD
namespace Go.Proofs.YtlidbkofjchnnaaDoor
open Go.RowKit
set_option linter.unusedVariables false
set_option linter.unusedSimpArgs false

theorem cells_put {nb pages : Nat} {P : Nat → Nat} {b : Nat → Bk} {cur : Array Value} (hs : cur.size = nb * 5) (hc : ∀ i, i < nb → ∀ j v, (bkCells pages (P i) (b i))[j]? = some v → cur[i * 5 + j]? = some v)
    {k j : Nat} (hk : k < nb) (hj : j < 5) (v : Value) (x : Bk) (hx : bkCells pages (P k) x = (bkCells pages (P k) (b k)).set j v) :
    ∀ i, i < nb → ∀ m u, (bkCells pages (P i) (if i = k then x else b i))[m]? = some u → (cur.setIfInBounds (k * 5 + j) v)[i * 5 + m]? = some u := by
  intro i hi m u hu
  have hm5 : m < 5 := by
    have := (List.getElem?_eq_some_iff.1 hu).1
    simpa [bkCells] using this
  by_cases e : i = k
  · subst e
    rw [if_pos rfl, hx, List.getElem?_set] at hu
    rw [Array.getElem?_setIfInBounds]
    by_cases ej : j = m
    · subst ej
      rw [if_pos rfl, if_pos (by simpa [bkCells] using hj)] at hu
      rw [if_pos rfl, if_pos (by omega)]
      exact hu
    · rw [if_neg ej] at hu
      rw [if_neg (by omega)]
      exact hc i hi m u hu
  · rw [if_neg e] at hu
    rw [Array.getElem?_setIfInBounds, if_neg (by omega)]
    exact hc i hi m u hu
section
variable {w w' : World} {B F L : Nat} {P : Nat → Nat} {S : Fl}
theorem FlIs.no3 (h : FlIs w B F L P S) {k : Nat} (hk : k < S.nb) : NoB w [F, L, P k] := fun g hg => by
  rcases List.mem_cons.1 hg with rfl | hg
  · exact h.noF g (by simp)
  · rcases List.mem_cons.1 hg with rfl | hg
    · exact h.noL g (by simp)
    · exact h.noP hk g hg
/-- A flash of which one block was turned. -/
theorem FlIs.prog (h : FlIs w B F L P S) {k : Nat} (hk : k < S.nb) (ht : Turns w w' [F, L, P k]) (o : Bool) (a : Nat) (ha : a < 9223372036854775808)
    (hr : ∃ s p r e : Int, Row w' F 42 (fcells o a s [.slice (some ⟨L, 0, none⟩) S.nb S.nb, .int .i64 S.pages, .int .i64 S.chunks, .int .i64 p, .int .i64 r, .int .i64 e])) (x : Bk)
    (hL : ∃ cur, Row w' L 89 cur ∧ cur.size = S.nb * 5 ∧ ∀ i, i < S.nb → ∀ j v, (bkCells S.pages (P i) (if i = k then x else S.b i))[j]? = some v → cur[i * 5 + j]? = some v)
    (hP : ∃ cur, Row w' (P k) 46 cur ∧ cur.size = S.pages ∧ ∀ j, j < S.pages → ∃ v, cur[j]? = some v ∧ PgIs w' v (x.pg j)) (hwf : WfB S.pages S.chunks x) :
    FlIs w' B F L P { S.setB k x with off := o, armed := a } := by
  have hne := h.ne
  refine ⟨h.hF, h.hL, h.hP, hr, hL, ?_, h.inj, ⟨h.ok.nb, h.ok.pages, h.ok.chunks, ha, ?_⟩⟩
  · intro i hi
    have hi' : i < S.nb := hi
    by_cases e : i = k
    · subst e
      obtain ⟨cur, hr, hs, h2⟩ := hP
      exact ⟨cur, hr, hs, fun j hj => by
        obtain ⟨v, hv, hp⟩ := h2 j hj
        exact ⟨v, hv, by simpa [Fl.setB] using hp⟩⟩
    · obtain ⟨cur, hr, hs, h2⟩ := h.pg i hi'
      refine ⟨cur, ht.row hr ?_, hs, fun j hj => ?_⟩
      · simp only [List.mem_cons, List.not_mem_nil, or_false, not_or]
        exact ⟨Ne.symm (hne.2.1 i hi'), Ne.symm (hne.2.2 i hi'), fun he => e (h.inj i k hi' hk he)⟩
      · obtain ⟨v, hv, hp⟩ := h2 j hj
        refine ⟨v, hv, ?_⟩
        have := hp.turns ht (h.no3 hk)
        simpa [Fl.setB, e] using this
  · intro i hi
    by_cases e : i = k
    · subst e
      have : (S.setB i x).b i = x := Fl.setB_self _ _ _
      show WfB S.pages S.chunks ((S.setB i x).b i)
      rw [this]; exact hwf
    · show WfB S.pages S.chunks ((S.setB k x).b i)
      rw [Fl.setB_ne _ _ e]; exact h.ok.wf i hi
end
/-- A page of which j chunks are written. -/
def part (r : List Nat) (ch j : Nat) : List Nat := r.take (73 * j) ++ List.replicate (73 * (ch - j)) 255
theorem part_length (r : List Nat) (ch j : Nat) (h : r.length = 73 * ch) (hj : j ≤ ch) : (part r ch j).length = 73 * ch := by unfold part; rw [List.length_append, List.length_take, List.length_replicate, h]; omega
theorem part_raw {r : List Nat} {ch : Nat} (h : Raw ch r) {j : Nat} (hj : j ≤ ch) : Raw ch (part r ch j) := by
  refine ⟨part_length r ch j h.1 hj, fun u hu => ?_⟩
  unfold part at hu
  rw [List.mem_append] at hu
  rcases hu with h1 | h1
  · exact h.2 u (List.mem_of_mem_take h1)
  · rw [List.mem_replicate] at h1; omega
theorem part_zero (r : List Nat) (ch : Nat) : part r ch 0 = List.replicate (73 * ch) 255 := by unfold part; simp
theorem part_all (r : List Nat) (ch : Nat) (h : r.length = 73 * ch) : part r ch ch = r := by unfold part; rw [List.take_of_length_le (by omega)]; simp
theorem splice_mid {α : Type} (A M Z : List α) : splice (A ++ Z) A.length M = A ++ (M ++ Z.drop M.length) := by
  unfold splice
  rw [List.take_left, List.drop_append, List.drop_of_length_le (by omega), List.nil_append, Nat.add_sub_cancel_left]
theorem part_splice (r : List Nat) (ch j : Nat) (h : r.length = 73 * ch) (hj : j < ch) : splice (intsV .u8 (part r ch j)) (73 * j) (intsV .u8 ((r.drop (73 * j)).take 73)) = intsV .u8 (part r ch (j + 1)) := by
  have h1 : (r.take (73 * j)).length = 73 * j := by rw [List.length_take, h]; omega
  have h2 : ((r.drop (73 * j)).take 73).length = 73 := by rw [List.length_take, List.length_drop, h]; omega
  have hz : (List.replicate (73 * (ch - j)) 255).drop 73 = List.replicate (73 * (ch - (j + 1))) 255 := by rw [List.drop_replicate]; congr 1; omega
  have hp : part r ch (j + 1) = r.take (73 * j) ++ ((r.drop (73 * j)).take 73 ++ (List.replicate (73 * (ch - j)) 255).drop 73) := by
    unfold part
    rw [hz, ← List.append_assoc]
    congr 1
    rw [show 73 * (j + 1) = 73 * j + 73 by omega, List.take_add]
  have hs := splice_mid (intsV .u8 (r.take (73 * j))) (intsV .u8 ((r.drop (73 * j)).take 73)) (intsV .u8 (List.replicate (73 * (ch - j)) 255))
  rw [intsV_length, intsV_length, h1, h2, ← intsV_append] at hs
  rw [hp, intsV_append, intsV_append]
  refine hs.trans ?_
  congr 2
  exact (List.map_drop ..).symm
end Go.Proofs.YtlidbkofjchnnaaDoor
namespace Go.Proofs.YtlidbkofjchnnaaDoor
open Go.RowKit
set_option linter.unusedVariables false
set_option linter.unusedSimpArgs false

theorem own_exact {w : World} {B g n : Nat} {e : TypeId} {xs : List Value} (h : w.ownsRow B e 1 (.slice (some ⟨g, 0, none⟩) n n) n xs) : Row w g e xs.toArray ∧ B ≤ g := by
  obtain ⟨hB, cur, hr, hs, _, _, ht⟩ := own_row h
  refine ⟨?_, hB⟩
  have : cur = xs.toArray := by
    apply Array.ext'
    rw [← ht, List.take_of_length_le (by simp [hs])]
  rw [← this]; exact hr
section
variable {w : World} {B F L : Nat} {P : Nat → Nat} {S : Fl}
set_option maxRecDepth 100000 in
set_option maxHeartbeats 1000000 in
theorem raw_new (h : FlIs w B F L P S) (k p : Nat) (hk : k < S.nb) (hp : p < S.pages) (hx : (S.b k).pg p = none) : Calls Tryd.prog 47 #[.pointer (some ⟨F, 0, none⟩), .pointer (some ⟨L, k * 5, none⟩), .int .i64 p] w fun e w' => ∃ g, e = .returned (.slice (some ⟨g, 0, none⟩) (73 * S.chunks) (73 * S.chunks)) ∧ Row w' g 5 (intsV .u8 (List.replicate (73 * S.chunks) 255)).toArray ∧ w.heap.size ≤ g ∧ Below w.heap.size w w' := by
  obtain ⟨_, _, _, c5⟩ := h.fcell
  obtain ⟨d0, _⟩ := h.cells hk
  obtain ⟨cur, hr, hs, hc⟩ := h.pg k hk
  obtain ⟨v, hv, hpv⟩ := hc p hp
  have cp : w.cell? ⟨P k, p, none⟩ = some v := (hr.cell p).trans hv
  have hch := h.ok.chunks
  have hpp := h.ok.pages
  have hpi : (p : Int) < S.pages := by omega
  rw [hx] at hpv
  obtain rfl : v = .slice none 0 0 := hpv
  obtain ⟨n, hn⟩ : ∃ n, n = 73 * S.chunks := ⟨_, rfl⟩
  have HRp : Hid (∀ w1, Src w1 1 (some ⟨w.heap.size, 0, none⟩) 1 [.int .u8 255] → Calls Tryd.prog 64 #[.slice (some ⟨w.heap.size, 0, none⟩) 1 1, .int .i64 n] w1 fun e w' => ∃ g, e = .returned (.slice (some ⟨g, 0, none⟩) n n) ∧ w'.ownsRow w1.heap.size 5 1 (.slice (some ⟨g, 0, none⟩) n n) n (intsV .u8 (List.replicate n 255)) ∧ Below w1.heap.size w1 w') := fun w1 h1 => Repeat_any _ 1 n (by omega) w1 h1
  have HS1 : Hid (Src (w.alloc (.cells #[.int .u8 255] 5)) 1 (some ⟨w.heap.size, 0, none⟩) 1 [.int .u8 255]) := src_one
  have HB1 : Hid (Below w.heap.size w (w.alloc (.cells #[.int .u8 255] 5))) := (Below.refl _ _).alloc (Nat.le_refl _) _
  have HR1 := Lib.hid (HRp.out _ HS1.out)
  have c5' := keep_below HB1.out _ _ c5
  have hw : IntKind.i64.wrap ((S.chunks : Int) * 73) = (n : Int) := by rw [IntKind.wrap_i64]; omega
  rw [← hn]
  generalize S.chunks = ch at *
  generalize S.pages = pp at *
  clear h hr hc hx HRp hn
  go_enter Tryd.func47, Tryd.ntmps47
  go_wp2_with fail
  refine HR1.out.mono ?_
  rintro e w' ⟨g, rfl, ho, hb⟩
  have HO := Lib.hid (own_exact (own_mono ho HB1.out.size))
  have HB : Hid (Below w.heap.size w w') := HB1.out.trans (hb.mono HB1.out.size)
  clear HR1 HS1 HB1 ho hb
  go_wp2
  go_ret
  exact ⟨_, rfl, HO.out.1, HO.out.2, HB.out⟩
/-- A block of which j chunks of a page are written. -/
def progB (S : Fl) (k : Nat) (r : List Nat) (j : Nat) : Bk := if j = 0 then S.b k else { S.b k with pg := fun i => if i = (S.b k).next then some (part r S.chunks j) else (S.b k).pg i, next := (S.b k).next + 1 }
def curL (cur : Array Value) (k m j : Nat) : Array Value := if j = 0 then cur else cur.setIfInBounds (k * 5 + 1) (.int .i64 (m + 1 : Nat))
def curP (cur : Array Value) (m g n j : Nat) : Array Value := if j = 0 then cur else cur.setIfInBounds m (.slice (some ⟨g, 0, none⟩) n n)
theorem prog_rebuild (h : FlIs w B F L P S) {k : Nat} (hk : k < S.nb) (hn : (S.b k).next < S.has k) (hh : (S.b k).half = false) {r : List Nat} (hr : Raw S.chunks r) {j : Nat} (hj : j ≤ S.chunks) {cL cP : Array Value} {g : Nat}
    (hLs : cL.size = S.nb * 5) (hLc : ∀ i, i < S.nb → ∀ j v, (bkCells S.pages (P i) (S.b i))[j]? = some v → cL[i * 5 + j]? = some v)
    (hPs : cP.size = S.pages) (hPc : ∀ j, j < S.pages → ∃ v, cP[j]? = some v ∧ PgIs w v ((S.b k).pg j))
    {w' : World} (ht : Turns w w' [F, L, P k]) (o : Bool) (a : Nat) (ha : a < 9223372036854775808)
    (hF : ∃ s p r e : Int, Row w' F 42 (fcells o a s [.slice (some ⟨L, 0, none⟩) S.nb S.nb, .int .i64 S.pages, .int .i64 S.chunks, .int .i64 p, .int .i64 r, .int .i64 e]))
    (hL : Row w' L 89 (curL cL k (S.b k).next j)) (hP : Row w' (P k) 46 (curP cP (S.b k).next g (73 * S.chunks) j)) (hg : Row w' g 5 (intsV .u8 (part r S.chunks j)).toArray) :
    FlIs w' B F L P { S.setB k (progB S k r j) with off := o, armed := a } := by
  have hwf := h.ok.wf k hk
  have hhas := has_le h.ok k
  have hch := h.ok.chunks
  have hpp := h.ok.pages
  by_cases h0 : j = 0
  · subst h0
    rw [curL, if_pos rfl] at hL
    rw [curP, if_pos rfl] at hP
    rw [progB, if_pos rfl]
    refine h.prog hk ht o a ha hF _ ⟨_, hL, hLs, fun i hi j v hv => hLc i hi j v ?_⟩ ⟨_, hP, hPs, fun j hj => ?_⟩ hwf
    · by_cases e : i = k
      · rw [if_pos e] at hv; rw [e] at hv ⊢; exact hv
      · rw [if_neg e] at hv; exact hv
    · obtain ⟨v, hv, hp⟩ := hPc j hj
      exact ⟨v, hv, hp.turns ht (h.no3 hk)⟩
  · rw [curL, if_neg h0] at hL
    rw [curP, if_neg h0] at hP
    rw [progB, if_neg h0]
    refine h.prog hk ht o a ha hF _ ⟨_, hL, by rw [Array.size_setIfInBounds]; exact hLs, cells_put hLs hLc hk (by omega) _ _ rfl⟩ ⟨_, hP, by rw [Array.size_setIfInBounds]; exact hPs, fun i hi => ?_⟩ ⟨?_, ?_, ?_⟩
    · rw [Array.getElem?_setIfInBounds]
      by_cases e : (S.b k).next = i
      · rw [if_pos e, if_pos (by omega)]
        refine ⟨_, rfl, ?_⟩
        simp only [e, if_true]
        have hl := part_length r S.chunks j hr.1 hj
        show w'.ownsRow 0 5 1 _ (part r S.chunks j).length _
        rw [hl]
        exact own_of_row hg hl (Nat.zero_le _) (by unfold maxLen; omega)
      · rw [if_neg e]
        obtain ⟨v, hv, hp⟩ := hPc i hi
        exact ⟨v, hv, by simp only [if_neg (Ne.symm e)]; exact hp.turns ht (h.no3 hk)⟩
    · show (S.b k).next + 1 ≤ hasOf S.pages _
      exact hn
    · intro i hi
      have hi' : (S.b k).next + 1 ≤ i := hi
      show (if i = (S.b k).next then _ else (S.b k).pg i) = none
      rw [if_neg (by omega)]
      exact hwf.none i (by omega)
    · intro i l hl
      have hl' : (if i = (S.b k).next then some (part r S.chunks j) else (S.b k).pg i) = some l := hl
      by_cases e : i = (S.b k).next
      · rw [if_pos e] at hl'
        injection hl' with hl'
        subst hl'
        exact part_raw hr hj
      · rw [if_neg e] at hl'
        exact hwf.raw i l hl'
end
end Go.Proofs.YtlidbkofjchnnaaDoor
