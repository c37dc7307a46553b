/- What follows is laid together from several texts of mine, in their order. -/
import Derived.Test.YtclhhdodebdmjaaGreatQ15
import Derived.Laws.CopyRow

namespace Go.Proofs.YtclhhdodebdmjaaGreat.Vca
open Go.RowKit
set_option linter.unusedVariables false
set_option maxRecDepth 100000
set_option linter.unusedSimpArgs false

section
variable {α : Type} (f : α → List Value) (n : Nat) (hf : ∀ x, (f x).length = n)
include hf
theorem flat_length (l : List α) : (l.flatMap f).length = l.length * n := by
  induction l with
  | nil => simp
  | cons x l ih => rw [List.flatMap_cons, List.length_append, ih, hf, List.length_cons, Nat.add_mul, Nat.one_mul, Nat.add_comm]
theorem flat_get : ∀ (l : List α) (i j : Nat) (x : α), l[i]? = some x → j < n → (l.flatMap f)[i * n + j]? = (f x)[j]?
  | [], i, j, x, h, _ => by simp at h
  | y :: l, 0, j, x, h, hj => by
    simp at h; subst h
    rw [List.flatMap_cons, Nat.zero_mul, Nat.zero_add, List.getElem?_append_left (by rw [hf]; exact hj)]
  | y :: l, i + 1, j, x, h, hj => by
    rw [List.flatMap_cons, List.getElem?_append_right (by rw [hf, Nat.add_mul]; omega), hf, show (i + 1) * n + j - n = i * n + j by rw [Nat.add_mul]; omega]
    exact flat_get l i j x (by simpa using h) hj
theorem flat_take : ∀ (l : List α) (k : Nat), (l.flatMap f).take (k * n) = (l.take k).flatMap f
  | [], k => by simp
  | y :: l, 0 => by simp
  | y :: l, k + 1 => by
    rw [List.flatMap_cons, List.take_succ_cons, List.flatMap_cons, show (k + 1) * n = (f y).length + k * n by rw [hf, Nat.add_mul]; omega, List.take_length_add_append, flat_take l k]
theorem flat_set : ∀ (l : List α) (i : Nat) (y : α), i < l.length → (l.set i y).flatMap f = (l.flatMap f).take (i * n) ++ (f y ++ (l.flatMap f).drop (i * n + n))
  | [], i, y, h => by simp at h
  | x :: l, 0, y, h => by
    rw [List.set_cons_zero, List.flatMap_cons, List.flatMap_cons, Nat.zero_mul, Nat.zero_add, List.take_zero, List.nil_append, List.drop_append_of_le_length (Nat.le_of_eq (hf x).symm), List.drop_of_length_le (Nat.le_of_eq (hf x)), List.nil_append]
  | x :: l, i + 1, y, h => by
    rw [List.set_cons_succ, List.flatMap_cons, List.flatMap_cons, flat_set l i y (by simpa using h), show (i + 1) * n = (f x).length + i * n by rw [hf, Nat.add_mul]; omega, List.take_length_add_append,
      show (f x).length + i * n + n = (f x).length + (i * n + n) by omega, List.drop_length_add_append, List.append_assoc]
end
theorem cells_len (x : It) : x.cells.length = 4 := rfl
theorem itsV_length (l : List It) : (itsV l).length = l.length * 4 := flat_length _ 4 cells_len l
theorem itsV_take (l : List It) (k : Nat) : (itsV l).take (k * 4) = itsV (l.take k) := flat_take _ 4 cells_len l k
theorem set4 (X : List Value) (k : Nat) (a b c d : Value) (h : k + 4 ≤ X.length) : (((X.set k a).set (k + 1) b).set (k + 2) c).set (k + 3) d = X.take k ++ ([a, b, c, d] ++ X.drop (k + 4)) := by
  obtain ⟨P, T, hX, hP, hT⟩ : ∃ P T, X = P ++ T ∧ P.length = k ∧ 4 ≤ T.length := ⟨X.take k, X.drop k, (List.take_append_drop k X).symm, by simp; omega, by simp; omega⟩
  subst hP
  match T, hT with
  | x0 :: x1 :: x2 :: x3 :: T, _ =>
    subst hX
    simp [List.set_append_right, List.drop_append]
section
variable {w : World} {B L n c : Nat} {items : List It}
abbrev OwnI (w : World) (B : Nat) (v : Value) (n : Nat) (items : List It) : Prop := w.ownsRow B 244 4 v n (itsV items)
theorem OwnI.len {v : Value} (h : OwnI w B v n items) : items.length = n := by have := h.1; rw [itsV_length] at this; omega
theorem OwnI.at4 {A : Option Addr} (h : OwnI w B (.slice A n c) n items) (i : Nat) (x : It) (hx : items[i]? = some x) : ∃ L, A = some ⟨L, 0, none⟩ ∧
    w.cell? ⟨L, i * 4, none⟩ = some (.int .i64 x.a) ∧ w.cell? ⟨L, i * 4 + 1, none⟩ = some (.int .i64 x.s) ∧ w.cell? ⟨L, i * 4 + 2, none⟩ = some (.slice x.A x.l.length x.c) ∧ w.cell? ⟨L, i * 4 + 3, none⟩ = some (.int .i64 x.g) := by
  have hn : 0 < n := by rw [← h.len]; have := (List.getElem?_eq_some_iff.1 hx).1; omega
  obtain ⟨g, cc, e, _⟩ := own_at h hn
  injection e with e _ _
  subst e
  have hc : ∀ j u, j < 4 → x.cells[j]? = some u → w.cell? ⟨g, i * 4 + j, none⟩ = some u := fun j u hj hu => by
    have := h.cells (g := g) rfl (i * 4 + j) u (by rw [show itsV items = items.flatMap It.cells from rfl, flat_get _ 4 cells_len items i j x hx hj]; exact hu)
    rw [addr_add, Nat.zero_add] at this
    exact this
  exact ⟨g, rfl, hc 0 _ (by omega) rfl, hc 1 _ (by omega) rfl, hc 2 _ (by omega) rfl, hc 3 _ (by omega) rfl⟩
theorem OwnI.put4 (h : OwnI w B (.slice (some ⟨L, 0, none⟩) n c) n items) (i : Nat) (hi : i < items.length) (y : It) :
    OwnI ((((w.setCell ⟨L, i * 4, none⟩ (.int .i64 y.a)).setCell ⟨L, i * 4 + 1, none⟩ (.int .i64 y.s)).setCell ⟨L, i * 4 + 2, none⟩ (.slice y.A y.l.length y.c)).setCell ⟨L, i * 4 + 3, none⟩ (.int .i64 y.g)) B (.slice (some ⟨L, 0, none⟩) n c) n (items.set i y) := by
  obtain ⟨hB, cur, hr, hs, hnc, hcm, ht⟩ := own_row h
  have hlen := h.len
  have hcl : cur.toList.length = c * 4 := by simpa using hs
  have hbig : i * 4 + 4 ≤ n * 4 := by rw [← hlen]; omega
  refine ⟨by rw [itsV_length, List.length_set, hlen], .inr ⟨L, c, (((cur.setIfInBounds (i * 4) (.int .i64 y.a)).setIfInBounds (i * 4 + 1) (.int .i64 y.s)).setIfInBounds (i * 4 + 2) (.slice y.A y.l.length y.c)).setIfInBounds (i * 4 + 3) (.int .i64 y.g), rfl, hB,
    (((hr.put (i * 4) _).put (i * 4 + 1) _).put (i * 4 + 2) _).put (i * 4 + 3) _, hnc, hcm, by simpa using hs, ?_⟩⟩
  simp only [Array.toList_setIfInBounds]
  rw [set4 _ _ _ _ _ _ (by rw [hcl]; omega), show itsV (items.set i y) = (items.set i y).flatMap It.cells from rfl, flat_set _ 4 cells_len items i y hi, show items.flatMap It.cells = itsV items from rfl, ← ht]
  rw [List.take_take, List.drop_take, Nat.min_eq_left (by omega)]
  have h1 : (cur.toList.take (i * 4)).length = i * 4 := by rw [List.length_take, hcl]; omega
  rw [List.take_append, List.take_of_length_le (by rw [h1]; omega), h1, List.take_append]
  congr 1
  rw [List.take_of_length_le (by simp; omega)]
  congr 2

theorem zero_item (w : World) : (zeroValue 244).run Tryz.prog w = .ok (.agg #[.int .i64 0, .int .i64 0, .slice none 0 0, .int .i64 0]) w := by kernel_rfl
theorem OwnI.clearTail (h : OwnI w B (.slice (some ⟨L, 0, none⟩) n c) n items) (i : Nat) (hi : i < n) (cc : Nat) (ty : TypeId) :
    ∃ w', (Builtin.clear_ #[241] ty #[.slice (some ⟨L, i * 4, none⟩) (n - i) cc]).run Tryz.prog w = .ok (.tuple #[]) w' ∧ OwnI w' B (.slice (some ⟨L, 0, none⟩) i c) i (items.take i) ∧ w.grownBy w' (some L) := by
  obtain ⟨hB, cur, hr, hs, hnc, hcm, ht⟩ := own_row h
  have hlen := h.len
  have hcl : cur.toList.length = c * 4 := by simpa using hs
  obtain ⟨vs, hvs⟩ : ∃ vs, vs = (Builtin.zeroCells (Value.agg #[.int .i64 0, .int .i64 0, .slice none 0 0, .int .i64 0]).cells (n - i)).toList := ⟨_, rfl⟩
  have hvl : vs.length = (n - i) * 4 := by rw [hvs]; simp [Builtin.zeroCells, Value.cells]
  have hv1 : ∀ v ∈ vs, v.oneCell' = true := by
    intro v hv
    rw [hvs] at hv
    simp only [Builtin.zeroCells, Array.toList_map, List.mem_map] at hv
    obtain ⟨k, _, rfl⟩ := hv
    have : k % 4 = 0 ∨ k % 4 = 1 ∨ k % 4 = 2 ∨ k % 4 = 3 := by omega
    simp only [Value.cells]
    rcases this with e | e | e | e <;> simp [e] <;> rfl
  have hrun := run_storeCells_at (P := Tryz.prog) L (i * 4) 244 vs 0 cur w hr (by have := hs; omega) hv1
  rw [Nat.add_zero] at hrun
  refine ⟨w.setRow L (cur.toList.take (i * 4) ++ vs ++ cur.toList.drop (i * 4 + vs.length)).toArray, ?_, ⟨?_, .inr ⟨L, c, _, rfl, hB, setRow_heap w L cur _ _ _ hr, by omega, hcm, ?_, ?_⟩⟩, grown_setRow _⟩
  · obtain ⟨m, hm⟩ : ∃ m, n - i = m + 1 := ⟨n - i - 1, by omega⟩
    rw [hm] at hvs ⊢
    rw [hvs] at hrun
    rw [← hvs] at hrun
    simp only [Builtin.clear_]
    simp [run_underlying Tryz.underlying241, zero_item, ← hvs]
    simpa [Result.andThen] using congrArg (fun r => Result.andThen r fun _ w' => Result.ok (Value.tuple #[]) w') hrun
  · rw [itsV_length, List.length_take]; omega
  · have : (i * 4 + (n - i) * 4) ≤ c * 4 := by omega
    simp [hcl, hvl]
    omega
  · have h1 : (cur.toList.take (i * 4)).length = i * 4 := by rw [List.length_take, hcl]; omega
    simp only [List.append_assoc]
    rw [List.take_append_of_le_length (by rw [h1]; exact Nat.le_refl _), List.take_of_length_le (by rw [h1]; exact Nat.le_refl _), ← itsV_take, ← ht, List.take_take, Nat.min_eq_left (by omega)]
end
end Go.Proofs.YtclhhdodebdmjaaGreat.Vca

namespace Go.Proofs.YtclhhdodebdmjaaGreat.Vca
open Go.RowKit
set_option linter.unusedVariables false
set_option maxRecDepth 100000
set_option linter.unusedSimpArgs false

/-- A closure that tells which writes are gone, whatever these blocks hold by now. -/
structure Gone (w : World) (S : List Nat) (F : FuncId) (caps : List Value) (p : It → Bool) : Prop where
  ent : ∀ args w, (callFunc F args).run Tryz.prog w = .ok (.enter F args) w
  call : ∀ W, Turns w W S → ∀ x : It, Calls Tryz.prog F ((.agg #[.int .i64 x.a, .int .i64 x.s, .slice x.A x.l.length x.c, .int .i64 x.g] :: caps).toArray) W fun e W' => e = .returned (.bool (p x)) ∧ Below W.heap.size W W'
theorem Gone.turns {w w' : World} {S : List Nat} {F : FuncId} {caps : List Value} {p : It → Bool} (h : Gone w S F caps p) (ht : Turns w w' S) : Gone w' S F caps p :=
  ⟨h.ent, fun W hW x => h.call W (ht.trans hW (fun k hk => .inl hk)) x⟩
theorem enters_drop1 : ∀ args w, (callFunc 169 args).run Tryz.prog w = .ok (.enter 169 args) w := fun _ _ => by kernel_rfl
/-- The first one that is gone, or -1. -/
def ixI (p : It → Bool) (items : List It) : Int := if items.findIdx p < items.length then (items.findIdx p : Int) else -1
theorem ixI_hit (p : It → Bool) (items : List It) (k : Nat) (x : It) (hx : items[k]? = some x) (hp : p x = true) (hb : ∀ j y, j < k → items[j]? = some y → p y = false) : ixI p items = k := by
  have hkl := (List.getElem?_eq_some_iff.1 hx).1
  have e : items[k] = x := (List.getElem?_eq_some_iff.1 hx).2
  have : items.findIdx p = k := by
    rw [List.findIdx_eq hkl]
    exact ⟨by rw [e]; exact hp, fun j hj => hb j _ hj (List.getElem?_eq_getElem (by omega))⟩
  unfold ixI; rw [this, if_pos hkl]
theorem ixI_miss (p : It → Bool) (items : List It) (hb : ∀ j y, j < items.length → items[j]? = some y → p y = false) : ixI p items = -1 := by
  unfold ixI
  rw [if_neg]
  rw [List.findIdx_lt_length]
  rintro ⟨x, hx, hp⟩
  obtain ⟨j, hj⟩ := List.mem_iff_getElem?.1 hx
  have := hb j x (List.getElem?_eq_some_iff.1 hj).1 hj
  rw [hp] at this; cases this
set_option maxHeartbeats 400000 in
theorem IndexFuncI_any (F : FuncId) (caps : List Value) (p : It → Bool) (S : List Nat) (A : Option Addr) (n c B : Nat) (items : List It) (hn : n ≤ 1000) (w : World) (h : OwnI w B (.slice A n c) n items) (hg : Gone w S F caps p) :
    Calls Tryz.prog 250 #[.slice A n c, .func (.func F) #[] caps.toArray] w fun e w' => e = .returned (.int .i64 (ixI p items)) ∧ Below w.heap.size w w' := by
  have H := Lib.hid h
  have HG := Lib.hid hg
  have HL := Lib.hid h.len
  clear h hg
  go_enter Tryz.func250, Tryz.ntmps250
  go_wp2
  go_loopw [8] (fun i wr => ∃ k : Nat, k ≤ n ∧ i = .int .i64 k ∧ (∀ j x, j < k → items[j]? = some x → p x = false) ∧ Below w.heap.size w wr) (fun i _ => n - (intOf i).toNat)
  case atStart => exact ⟨0, by omega, rfl, fun j x hj => by omega, Below.refl _ _⟩
  case round =>
    obtain ⟨k, hk, rfl, hbad, hb⟩ := hrel
    have HB := Lib.hid hb
    have HBad := Lib.hid hbad
    have HO := Lib.hid (own_below H.out hb)
    clear hbad
    by_cases hkn : k < n
    · obtain ⟨x, hx⟩ : ∃ x, items[k]? = some x := ⟨_, List.getElem?_eq_getElem (by rw [HL.out]; exact hkn)⟩
      obtain ⟨L, rfl, c0, c1, c2, c3⟩ := OwnI.at4 HO.out k x hx
      have HC := Lib.hid (HG.out.call wr (Turns.of_below hb S) x)
      have hent := HG.out.ent
      have HF : Hid (p x = true → ixI p items = k) := fun hp => ixI_hit p items k x hx hp HBad.out
      clear hb HG
      cases hpx : p x with
      | true =>
        rw [hpx] at HC
        have HF2 := Lib.hid (HF.out hpx)
        clear HF hpx
        go_wp2_with fail
        refine HC.out.mono ?_
        rintro e w2 ⟨rfl, hb2⟩
        have HB2 : Hid (Below w.heap.size w w2) := HB.out.trans (hb2.mono HB.out.size)
        clear hent hb2 hx c0 c1 c2 c3
        go_wp2
        go_ret
        exact ⟨by rw [HF2.out]; rfl, HB2.out⟩
      | false =>
        rw [hpx] at HC
        have HN : Hid (∀ j y, j < k + 1 → items[j]? = some y → p y = false) := fun j y hj hy => by
          by_cases e : j = k
          · subst e; rw [hx] at hy; injection hy with hy; rw [← hy]; exact hpx
          · exact HBad.out j y (by omega) hy
        clear HF hpx
        go_wp2_with fail
        refine HC.out.mono ?_
        rintro e w2 ⟨rfl, hb2⟩
        have HB2 : Hid (Below w.heap.size w w2) := HB.out.trans (hb2.mono HB.out.size)
        clear hent hb2 hx c0 c1 c2 c3
        go_wp2
        go_roundw
        case rel => exact ⟨k + 1, by omega, by go_num, HN.out, HB2.out⟩
        case measure => simp [intOf]; omega
    · obtain rfl : k = n := by omega
      have HF : Hid (ixI p items = -1) := ixI_miss p items (by rw [HL.out]; exact HBad.out)
      clear hb HG H HO
      go_wp2
      go_ret
      exact ⟨by rw [HF.out]; rfl, HB.out⟩
end Go.Proofs.YtclhhdodebdmjaaGreat.Vca

namespace Go.Proofs.YtclhhdodebdmjaaGreat.Vca
open Go.RowKit
set_option linter.unusedVariables false
set_option maxRecDepth 100000
set_option linter.unusedSimpArgs false

/-- How the row lies when j items are looked at and i of them stay. -/
structure Part (p : It → Bool) (items cs : List It) (i j : Nat) : Prop where
  len : cs.length = items.length
  lt : i < j
  le : j ≤ items.length
  head : cs.take i = (items.take j).filter fun x => !p x
  tail : ∀ t, j ≤ t → cs[t]? = items[t]?
theorem take_next (items : List It) (j : Nat) (x : It) (hx : items[j]? = some x) : items.take (j + 1) = items.take j ++ [x] := by
  have hj := (List.getElem?_eq_some_iff.1 hx).1
  rw [List.take_succ_eq_append_getElem hj, (List.getElem?_eq_some_iff.1 hx).2]
section
variable {p : It → Bool} {items cs : List It} {i j : Nat}
theorem Part.gone (h : Part p items cs i j) (x : It) (hx : items[j]? = some x) (hp : p x = true) : Part p items cs i (j + 1) :=
  ⟨h.len, by have := h.lt; omega, (List.getElem?_eq_some_iff.1 hx).1, by rw [take_next items j x hx, List.filter_append, h.head]; simp [hp], fun t ht => h.tail t (by omega)⟩
theorem Part.stay (h : Part p items cs i j) (x : It) (hx : items[j]? = some x) (hp : p x = false) : Part p items (cs.set i x) (i + 1) (j + 1) := by
  have hj := (List.getElem?_eq_some_iff.1 hx).1
  have hi : i < cs.length := by have := h.lt; have := h.len; omega
  refine ⟨by rw [List.length_set]; exact h.len, by have := h.lt; omega, hj, ?_, fun t ht => ?_⟩
  · rw [take_next items j x hx, List.filter_append, ← h.head, List.take_succ_eq_append_getElem (by rw [List.length_set]; exact hi), List.take_set_of_le (Nat.le_refl _), List.getElem_set_self]
    simp [hp]
  · rw [List.getElem?_set_ne (by have := h.lt; omega)]
    exact h.tail t (by omega)
theorem Part.all (h : Part p items cs i items.length) : cs.take i = items.filter fun x => !p x := by
  rw [h.head, List.take_length]
theorem Part.start (k : Nat) (x : It) (hx : items[k]? = some x) (hp : p x = true) (hb : ∀ j y, j < k → items[j]? = some y → p y = false) : Part p items items k (k + 1) := by
  refine ⟨rfl, by omega, (List.getElem?_eq_some_iff.1 hx).1, ?_, fun _ _ => rfl⟩
  rw [take_next items k x hx, List.filter_append]
  have : (items.take k).filter (fun x => !p x) = items.take k := by
    rw [List.filter_eq_self]
    intro y hy
    obtain ⟨t, ht⟩ := List.mem_iff_getElem?.1 hy
    rw [List.getElem?_take] at ht
    split at ht
    · rename_i hlt
      rw [hb t y hlt ht]; rfl
    · cases ht
  rw [this]; simp [hp]
end
theorem own_thaw4 {w : World} {B L n c : Nat} {t : TypeId} {xs : List Value} {sz : Nat} (h : w.ownsRow B t sz (.slice (some ⟨L, 0, none⟩) n c) n xs) (i : Nat) : w.frozen? ⟨L, i, none⟩ = false := by
  obtain ⟨_, cur, hr, _⟩ := own_row h
  exact hr.frozen i
theorem ixI_cases (p : It → Bool) (items : List It) : (ixI p items = -1 ∧ ∀ x ∈ items, p x = false) ∨ ∃ k x, ixI p items = (k : Nat) ∧ items[k]? = some x ∧ p x = true ∧ ∀ j y, j < k → items[j]? = some y → p y = false := by
  by_cases h : items.findIdx p < items.length
  · refine .inr ⟨items.findIdx p, items[items.findIdx p], by unfold ixI; rw [if_pos h], List.getElem?_eq_getElem h, List.findIdx_getElem, fun j y hj hy => ?_⟩
    have := List.not_of_lt_findIdx hj
    rw [(List.getElem?_eq_some_iff.1 hy).2] at this
    simpa using this
  · refine .inl ⟨by unfold ixI; rw [if_neg h], fun x hx => ?_⟩
    cases hp : p x with
    | false => rfl
    | true => exact absurd (List.findIdx_lt_length.2 ⟨x, hx, hp⟩) h

set_option maxHeartbeats 2000000 in
theorem DeleteFuncI_any (F : FuncId) (caps : List Value) (p : It → Bool) (S : List Nat) (L n c B : Nat) (items : List It) (hn : n ≤ 1000) (w : World) (h : OwnI w B (.slice (some ⟨L, 0, none⟩) n c) n items) (hg : Gone w S F caps p) (hS : L ∈ S) :
    Calls Tryz.prog 225 #[.slice (some ⟨L, 0, none⟩) n c, .func (.func F) #[] caps.toArray] w fun e w' => e = .returned (.slice (some ⟨L, 0, none⟩) (items.filter fun x => !p x).length c) ∧
      OwnI w' B (.slice (some ⟨L, 0, none⟩) (items.filter fun x => !p x).length c) (items.filter fun x => !p x).length (items.filter fun x => !p x) ∧ Turns w w' [L] := by
  have H := Lib.hid h
  have HG := Lib.hid hg
  have HL := Lib.hid h.len
  have HI := Lib.hid (IndexFuncI_any F caps p S _ n c B items hn w h hg)
  have hnc : n ≤ c ∧ c ≤ maxLen := by obtain ⟨_, _, _, _, h1, h2, _⟩ := own_row h; exact ⟨h1, h2⟩
  obtain ⟨hnc1, hnc2⟩ := hnc
  unfold maxLen at hnc2
  clear h hg
  rcases ixI_cases p items with ⟨hi, hall⟩ | ⟨k, x, hi, hx, hpx, hbad⟩
  · rw [hi] at HI
    have hf : (items.filter fun x => !p x) = items := List.filter_eq_self.2 (fun x hx => by rw [hall x hx]; rfl)
    rw [hf, HL.out]
    clear hi hall hf HG
    go_enter Tryz.func225, Tryz.ntmps225
    go_wp2_with fail
    refine HI.out.mono ?_
    rintro e w1 ⟨rfl, hb⟩
    have HB := Lib.hid hb
    clear HI hb
    go_wp2
    go_ret
    exact ⟨rfl, own_below H.out HB.out, Turns.of_below HB.out _⟩
  · rw [hi] at HI
    have HP := Lib.hid (Part.start k x hx hpx hbad)
    have hkn : k < n := by rw [← HL.out]; exact (List.getElem?_eq_some_iff.1 hx).1
    clear hi hx hpx hbad
    go_enter Tryz.func225, Tryz.ntmps225
    go_wp2_with fail
    refine HI.out.mono ?_
    rintro e w1 ⟨rfl, hb⟩
    have HO1 := Lib.hid (own_below H.out hb)
    have HT1 : Hid (Turns w w1 [L]) := Turns.of_below hb _
    clear HI hb H
    go_wp2
    go_loopw [5, 6] (fun u v wr => ∃ i j cs, u = .int .i64 (i : Nat) ∧ v = .int .i64 (j : Nat) ∧ Part p items cs i j ∧ OwnI wr B (.slice (some ⟨L, 0, none⟩) n c) n cs ∧ Turns w wr [L]) (fun _ v _ => n - (intOf v).toNat)
    case atStart => exact ⟨k, k + 1, items, rfl, by go_num, HP.out, HO1.out, HT1.out⟩
    case round =>
      clear HP HO1 HT1
      obtain ⟨i, j, cs, rfl, rfl, hp, ho, ht⟩ := hrel
      have HP := Lib.hid hp
      have HO := Lib.hid ho
      have HT := Lib.hid ht
      have hij := hp.lt
      have hjl : j ≤ n := by rw [← HL.out]; exact hp.le
      clear hp ht
      by_cases hjn : j < n
      · obtain ⟨x, hx⟩ : ∃ x, items[j]? = some x := ⟨_, List.getElem?_eq_getElem (by rw [HL.out]; exact hjn)⟩
        have HX := Lib.hid hx
        have hcx : cs[j]? = some x := (HP.out.tail j (Nat.le_refl _)).trans hx
        obtain ⟨L', e, c0, c1, c2, c3⟩ := OwnI.at4 ho j x hcx
        injection e with e
        injection e with e
        subst e
        obtain ⟨wA, hwA⟩ : ∃ wA, wA = wr.alloc (.cells #[.int .i64 x.a, .int .i64 x.s, .slice x.A x.l.length x.c, .int .i64 x.g] 244) := ⟨_, rfl⟩
        have hTA : Turns w wA [L] := by rw [hwA]; exact HT.out.alloc _
        have HTA := Lib.hid hTA
        have HOA : Hid (OwnI wA B (.slice (some ⟨L, 0, none⟩) n c) n cs) := by unfold Hid; rw [hwA]; exact own_below ho ((Below.refl _ _).alloc (Nat.le_refl _) _)
        have HRA : Hid (Row wA wr.heap.size 244 #[.int .i64 x.a, .int .i64 x.s, .slice x.A x.l.length x.c, .int .i64 x.g]) := by unfold Hid; rw [hwA]; exact Row.fresh _ _ _
        have HC := Lib.hid (HG.out.call wA (hTA.mono (by simp; exact hS)) x)
        have hent := HG.out.ent
        have hLne : L ≠ wr.heap.size := by
          obtain ⟨_, cur, hr, _⟩ := own_row ho
          have := hr.lt; omega
        clear hTA ho hx hcx HO HT
        cases hpx : p x with
        | true =>
          rw [hpx] at HC
          have HP2 := Lib.hid (HP.out.gone x HX.out hpx)
          clear hpx HX HP HG
          go_wp2_with fail
          rw [← hwA]
          clear hwA
          refine HC.out.mono ?_
          rintro e w2 ⟨rfl, hb2⟩
          have HO2 := Lib.hid (own_below HOA.out hb2)
          have HT2 : Hid (Turns w w2 [L]) := HTA.out.then_below hb2
          clear hent hb2 c0 c1 c2 c3 HC HTA HOA HRA
          go_wp2
          go_roundw
          case rel => (repeat apply Exists.intro); exact ⟨⟨i, j + 1, cs, rfl, by go_num, HP2.out, HO2.out, HT2.out⟩, rfl⟩
          case measure => simp [intOf]; omega
        | false =>
          rw [hpx] at HC
          have HP2 := Lib.hid (HP.out.stay x HX.out hpx)
          have hil : i < cs.length := by have := HP.out.len; have := HL.out; omega
          clear hpx HX HG
          go_wp2_with fail
          rw [← hwA]
          clear hwA
          refine HC.out.mono ?_
          rintro e w2 ⟨rfl, hb2⟩
          have ho2 := own_below HOA.out hb2
          have hr2 := HRA.out.below hb2 HRA.out.lt
          have b0 := hr2.cell 0
          have b1 := hr2.cell 1
          have b2 := hr2.cell 2
          have b3 := hr2.cell 3
          simp at b0 b1 b2 b3
          obtain ⟨y, hy⟩ : ∃ y, cs[i]? = some y := ⟨_, List.getElem?_eq_getElem hil⟩
          obtain ⟨L', e, d0, d1, d2, d3⟩ := OwnI.at4 ho2 i y hy
          injection e with e
          injection e with e
          subst e
          have f0 := own_thaw4 ho2 (i * 4)
          have f1 := own_thaw4 ho2 (i * 4 + 1)
          have f2 := own_thaw4 ho2 (i * 4 + 2)
          have f3 := own_thaw4 ho2 (i * 4 + 3)
          have HO3 := Lib.hid (OwnI.put4 ho2 i hil x)
          have HT3 := Lib.hid (((((HTA.out.then_below hb2).setCell (p := ⟨L, i * 4, none⟩) (by simp) (.int .i64 x.a)).setCell (p := ⟨L, i * 4 + 1, none⟩) (by simp) (.int .i64 x.s)).setCell (p := ⟨L, i * 4 + 2, none⟩) (by simp) (.slice x.A x.l.length x.c)).setCell (p := ⟨L, i * 4 + 3, none⟩) (by simp) (.int .i64 x.g))
          clear hent hb2 c0 c1 c2 c3 HC HTA HOA HRA ho2 hr2 hy
          go_wp2
          go_roundw
          case rel => (repeat apply Exists.intro); exact ⟨⟨i + 1, j + 1, cs.set i x, by go_num, by go_num, HP2.out, HO3.out, HT3.out⟩, rfl⟩
          case measure => simp [intOf]; omega
      · obtain rfl : j = n := by omega
        have hf : cs.take i = items.filter fun x => !p x := (HL.out ▸ HP.out).all
        have hlen : (items.filter fun x => !p x).length = i := by rw [← hf, List.length_take, HP.out.len, HL.out]; omega
        obtain ⟨w3, hclr, ho3, hg3⟩ := OwnI.clearTail HO.out i hij (c - i) 0
        rw [hf] at ho3
        have HO3 : Hid (OwnI w3 B (.slice (some ⟨L, 0, none⟩) (items.filter fun x => !p x).length c) (items.filter fun x => !p x).length (items.filter fun x => !p x)) := by unfold Hid; rw [hlen]; exact ho3
        have HLe := Lib.hid hlen
        have HT3 : Hid (Turns w w3 [L]) := HT.out.trans (Turns.of_grown hg3) (by simp)
        clear ho3 hg3 hf hlen HO HT HP ho HG
        go_wp2
        go_ret
        exact ⟨by rw [HLe.out]; rfl, HO3.out, HT3.out⟩
end Go.Proofs.YtclhhdodebdmjaaGreat.Vca

namespace Go.Proofs.YtclhhdodebdmjaaGreat.Vca
open Go.RowKit
set_option linter.unusedVariables false
set_option maxRecDepth 100000
set_option linter.unusedSimpArgs false

/-- How many writes of a sector there are. -/
def cntI (items : List It) (a s : Int) : Int := ((items.filter fun x => decide (x.a = a ∧ x.s = s)).length : Nat)
theorem cntI_nil : cntI [] = fun _ _ => 0 := rfl
theorem cntI_append (l m : List It) (a s : Int) : cntI (l ++ m) a s = cntI l a s + cntI m a s := by simp [cntI]
theorem cntI_one (x : It) (a s : Int) : cntI [x] a s = if a = x.a ∧ s = x.s then 1 else 0 := by
  unfold cntI
  by_cases h : x.a = a ∧ x.s = s
  · rw [if_pos ⟨h.1.symm, h.2.symm⟩]; simp [h]
  · rw [if_neg (fun e => h ⟨e.1.symm, e.2.symm⟩)]; simp [h]
theorem cntI_nonneg (l : List It) (a s : Int) : 0 ≤ cntI l a s := by unfold cntI; omega
theorem cntI_le (l : List It) (a s : Int) : cntI l a s ≤ l.length := by
  unfold cntI
  have := List.length_filter_le (fun x : It => decide (x.a = a ∧ x.s = s)) l
  omega
theorem cntI_part (p : It → Bool) (l : List It) (a s : Int) : cntI l a s = cntI (l.filter p) a s + cntI (l.filter fun x => !p x) a s := by
  induction l with
  | nil => simp [cntI]
  | cons x l ih =>
    have e : cntI (x :: l) a s = cntI [x] a s + cntI l a s := cntI_append [x] l a s
    cases hp : p x with
    | true =>
      rw [e, ih, List.filter_cons_of_pos hp, List.filter_cons_of_neg (by simp [hp]), show x :: l.filter p = [x] ++ l.filter p from rfl, cntI_append]; omega
    | false =>
      rw [e, ih, List.filter_cons_of_neg (by simp [hp]), List.filter_cons_of_pos (by simp [hp]), show x :: l.filter (fun x => !p x) = [x] ++ l.filter (fun x => !p x) from rfl, cntI_append]; omega

def blk (A : Option Addr) : List Nat := match A with | some a => [a.block] | none => []
/-- A cache: its object at C, its map at mb, its row at A. -/
structure CHeld (w : World) (B C mb most : Nat) (A : Option Addr) (c : Nat) (items : List It) (g : Int) : Prop where
  hC : B ≤ C
  row : Row w C 247 #[.int .i64 (most : Nat), .slice A items.length c, .int .i64 g, .map (some mb)]
  own : OwnI w B (.slice A items.length c) items.length items
  dat : ∀ x ∈ items, DatIs w B (.slice x.A x.l.length x.c) x.l
  wf : ∀ x ∈ items, W64 x.a ∧ W64 x.s
  hm : B ≤ mb
  cnt : CntIs w mb (cntI items)
  few : items.length ≤ 1000
theorem CntIs.not_row {w : World} {b : Nat} {c : Int → Int → Int} (h : CntIs w b c) (t : TypeId) (cs : Array Value) : ¬ Row w b t cs := by
  obtain ⟨n, f, ⟨es, clock, hb, _⟩, _⟩ := h
  intro hr
  unfold Row at hr
  rw [hr] at hb; cases hb
theorem DatIs.turns {w w' : World} {B : Nat} {d : Value} {l : List Nat} {S : List Nat} (h : DatIs w B d l) (ht : Turns w w' S) (hS : ∀ k ∈ S, ∀ cur, ¬ Row w k 5 cur) : DatIs w' B d l := by
  refine ⟨h.small, h.short, ht.own h.own (fun g hg hm => ?_)⟩
  rcases h.own.2 with ⟨e, _⟩ | ⟨g', cap, cur, e, _, hr, _⟩
  · rw [e] at hg; cases hg
  · rw [e] at hg
    injection hg with hg
    subst hg
    exact hS g' hm cur hr
theorem DatIs.below {w w' : World} {B : Nat} {d : Value} {l : List Nat} (h : DatIs w B d l) (hb : Below w.heap.size w w') : DatIs w' B d l := h.turns (Turns.of_below hb []) (by simp)
theorem OwnI.block_row {w : World} {B n c : Nat} {A : Option Addr} {items : List It} (h : OwnI w B (.slice A n c) n items) : ∀ k ∈ blk A, B ≤ k ∧ ∃ cur, Row w k 244 cur := by
  intro k hk
  rcases h.2 with ⟨e, _⟩ | ⟨g', cap, cur, e, hB, hr, _⟩
  · injection e with e _ _
    subst e; simp [blk] at hk
  · injection e with e _ _
    subst e
    simp [blk] at hk; subst hk
    exact ⟨hB, cur, hr⟩
theorem OwnI.head {w : World} {B n c : Nat} {A : Option Addr} {items : List It} (h : OwnI w B (.slice A n c) n items) : A = none ∧ n = 0 ∧ c = 0 ∧ items = [] ∨ ∃ L, A = some ⟨L, 0, none⟩ := by
  rcases h.2 with ⟨e, hn⟩ | ⟨g', cap, cur, e, hB, hr, _⟩
  · injection e with e1 e2 e3
    exact .inl ⟨e1, hn, e3, List.eq_nil_of_length_eq_zero (by rw [h.len, hn])⟩
  · injection e with e1 _ _
    exact .inr ⟨g', e1⟩
section
variable {w : World} {B C mb most c : Nat} {A : Option Addr} {items : List It} {g : Int}
theorem CHeld.apart (h : CHeld w B C mb most A c items g) : C ≠ mb ∧ C ∉ blk A ∧ mb ∉ blk A := by
  refine ⟨fun e => h.cnt.not_row _ _ (e ▸ h.row), fun hm => ?_, fun hm => ?_⟩
  · obtain ⟨_, cur, hr⟩ := h.own.block_row C hm
    exact h.row.ne_type hr (by decide) rfl
  · obtain ⟨_, cur, hr⟩ := h.own.block_row mb hm
    exact h.cnt.not_row _ _ hr
theorem CHeld.no_bytes (h : CHeld w B C mb most A c items g) : ∀ k ∈ C :: mb :: blk A, ∀ cur, ¬ Row w k 5 cur := by
  intro k hk cur hr
  simp only [List.mem_cons] at hk
  rcases hk with rfl | rfl | hk
  · exact h.row.ne_type hr (by decide) rfl
  · exact h.cnt.not_row _ _ hr
  · obtain ⟨_, cur', hr'⟩ := h.own.block_row k hk
    exact hr'.ne_type hr (by decide) rfl
theorem CHeld.turns {w' : World} {S : List Nat} (h : CHeld w B C mb most A c items g) (ht : Turns w w' S) (hS : ∀ k ∈ S, k ∉ C :: mb :: blk A ∧ ∀ cur, ¬ Row w k 5 cur) : CHeld w' B C mb most A c items g :=
  ⟨h.hC, ht.row h.row (fun hm => (hS C hm).1 (by simp)), ht.own h.own (fun k hk hm => (hS k hm).1 (by
    rcases h.own.head with ⟨e, _⟩ | ⟨L, e⟩
    · rw [e] at hk; cases hk
    · rw [e] at hk; injection hk with hk; simp only [blk, e, List.mem_cons]; exact .inr (.inr (.inl hk.symm)))), fun x hx => (h.dat x hx).turns ht (fun k hk => (hS k hk).2), h.wf, h.hm, h.cnt.turns ht (fun hm => (hS mb hm).1 (by simp)), h.few⟩
theorem CHeld.below {w' : World} (h : CHeld w B C mb most A c items g) (hb : Below w.heap.size w w') : CHeld w' B C mb most A c items g := h.turns (Turns.of_below hb []) (by simp)
theorem CHeld.mono {B' : Nat} (h : CHeld w B C mb most A c items g) (hB : B' ≤ B) : CHeld w B' C mb most A c items g :=
  ⟨Nat.le_trans hB h.hC, h.row, own_mono h.own hB, fun x hx => ⟨(h.dat x hx).small, (h.dat x hx).short, own_mono (h.dat x hx).own hB⟩, h.wf, Nat.le_trans hB h.hm, h.cnt, h.few⟩
theorem CHeld.cells (h : CHeld w B C mb most A c items g) : w.cell? ⟨C, 0, none⟩ = some (.int .i64 (most : Nat)) ∧ w.cell? ⟨C, 1, none⟩ = some (.slice A items.length c) ∧ w.cell? ⟨C, 2, none⟩ = some (.int .i64 g) ∧ w.cell? ⟨C, 3, none⟩ = some (.map (some mb)) := by
  refine ⟨?_, ?_, ?_, ?_⟩ <;> rw [h.row.cell] <;> rfl
end

theorem New_yes (n : Nat) (hn : n ≤ 64) (w : World) : Calls Tryz.prog 77 #[.int .i64 n] w fun e w' => ∃ C mb, e = .returned (.tuple #[.pointer (some ⟨C, 0, none⟩), .int .i64 0]) ∧ CHeld w' w.heap.size C mb n none 0 [] 0 ∧ Below w.heap.size w w' := by
  have hmm := @run_makeMap Tryz.prog
  go_enter Tryz.func77, Tryz.ntmps77
  go_wp2
  have hcnt : CntIs ((w.alloc (.map #[] 0)).alloc (.cells #[.int .i64 n, .slice none 0 0, .int .i64 0, .map (some w.heap.size)] 247)) w.heap.size (cntI []) := by
    rw [cntI_nil]
    exact (CntIs.fresh w).turns (S := []) ((Turns.refl _ _).alloc _) (by simp)
  have hrow := Row.fresh (w.alloc (.map #[] 0)) 247 #[.int .i64 n, .slice none 0 0, .int .i64 0, .map (some w.heap.size)]
  refine bodyPost_ret (v := .tuple #[.pointer (some ⟨w.heap.size + 1, 0, none⟩), .int .i64 0]) (by simp [results, Tryz.results77, go_sem]) rfl ⟨w.heap.size + 1, w.heap.size, rfl, ⟨by omega, ?_, World.ownsRow_nil _ _ _ _, by simp, by simp, Nat.le_refl _, hcnt, by simp⟩, ?_⟩
  · rw [World.size_alloc] at hrow; exact hrow
  · (repeat (first | (with_reducible refine Below.drew ?_) | (with_reducible refine below_drewN0 ?_ _) | ((with_reducible refine Below.setCell ?_ ?_ _); rotate_left; focus (first | omega | (simp; done) | (simp; omega) | (simp at *; omega))) | ((with_reducible refine Below.alloc ?_ ?_ _); rotate_left; focus (first | omega | (simp; done) | (simp; omega) | (simp at *; omega))) | (with_reducible exact Below.refl _ _)))
end Go.Proofs.YtclhhdodebdmjaaGreat.Vca

namespace Go.Proofs.YtclhhdodebdmjaaGreat.Vca
open Go.RowKit
set_option linter.unusedVariables false
set_option maxRecDepth 100000
set_option linter.unusedSimpArgs false

theorem IndexFuncI_nil (fv : Value) (w : World) : Calls Tryz.prog 250 #[.slice none 0 0, fv] w fun e w' => e = .returned (.int .i64 (-1)) ∧ w = w' := by
  go_enter Tryz.func250, Tryz.ntmps250
  go_wp2
  go_loop [8] (fun i => i = .int .i64 0) (fun _ => 0)
  case atStart => rfl
  case round =>
    subst hrel
    go_wp2
    go_ret
    exact ⟨rfl, rfl⟩
theorem DeleteFuncI_nil (fv : Value) (w : World) : Calls Tryz.prog 225 #[.slice none 0 0, fv] w fun e w' => e = .returned (.slice none 0 0) ∧ w = w' := by
  have HI := Lib.hid (IndexFuncI_nil fv w)
  go_enter Tryz.func225, Tryz.ntmps225
  go_wp2_with fail
  refine HI.out.mono ?_
  rintro e w1 ⟨rfl, rfl⟩
  go_wp2
  go_ret
  exact ⟨rfl, rfl⟩
/-- DeleteFunc at any row of a cache. -/
theorem DeleteFuncI_all (F : FuncId) (caps : List Value) (p : It → Bool) (S : List Nat) (A : Option Addr) (n c B : Nat) (items : List It) (hn : n ≤ 1000) (w : World) (h : OwnI w B (.slice A n c) n items) (hg : Gone w S F caps p) (hS : ∀ k ∈ blk A, k ∈ S) :
    Calls Tryz.prog 225 #[.slice A n c, .func (.func F) #[] caps.toArray] w fun e w' => e = .returned (.slice A (items.filter fun x => !p x).length c) ∧
      OwnI w' B (.slice A (items.filter fun x => !p x).length c) (items.filter fun x => !p x).length (items.filter fun x => !p x) ∧ Turns w w' (blk A) := by
  rcases h.head with ⟨rfl, rfl, rfl, rfl⟩ | ⟨L, rfl⟩
  · exact (DeleteFuncI_nil _ w).mono fun e w' ⟨he, hw⟩ => ⟨he, by rw [← hw]; exact World.ownsRow_nil _ _ _ _, by rw [← hw]; exact Turns.refl _ _⟩
  · exact DeleteFuncI_any F caps p S L n c B items hn w h hg (hS L (by simp [blk]))

/-- What the map counts when j items are looked at. -/
def remC (p : It → Bool) (items : List It) (j : Nat) : Int → Int → Int := fun a s => cntI items a s - cntI ((items.take j).filter p) a s
theorem remC_zero (p : It → Bool) (items : List It) : remC p items 0 = cntI items := by
  funext a s; show cntI items a s - 0 = _; omega
theorem remC_all (p : It → Bool) (items : List It) : remC p items items.length = cntI (items.filter fun x => !p x) := by
  funext a s; unfold remC; rw [List.take_length, cntI_part p items a s]; omega
theorem remC_gone (p : It → Bool) (items : List It) (j : Nat) (x : It) (hx : items[j]? = some x) (hp : p x = true) : updC (remC p items j) x.a x.s (remC p items j x.a x.s + -1) = remC p items (j + 1) := by
  funext a s
  unfold updC remC
  rw [take_next items j x hx, List.filter_append, cntI_append, List.filter_cons_of_pos hp, List.filter_nil, cntI_one]
  by_cases h : a = x.a ∧ s = x.s
  · rw [if_pos h, if_pos h, h.1, h.2]; omega
  · rw [if_neg h, if_neg h]; omega
theorem remC_stay (p : It → Bool) (items : List It) (j : Nat) (x : It) (hx : items[j]? = some x) (hp : p x = false) : remC p items (j + 1) = remC p items j := by
  funext a s
  unfold remC
  rw [take_next items j x hx, List.filter_append, List.filter_cons_of_neg (by simp [hp]), List.filter_nil, List.append_nil]
theorem remC_bd (p : It → Bool) (items : List It) (hf : items.length ≤ 1000) (j : Nat) (a s : Int) : 0 ≤ remC p items j a s ∧ remC p items j a s ≤ 1000 := by
  have h1 : cntI items a s = cntI (items.take j) a s + cntI (items.drop j) a s := by rw [← cntI_append, List.take_append_drop]
  have h2 := cntI_part p (items.take j) a s
  have h3 := cntI_nonneg ((items.take j).filter fun x => !p x) a s
  have h4 := cntI_nonneg (items.drop j) a s
  have h5 := cntI_le items a s
  have h6 := cntI_nonneg ((items.take j).filter p) a s
  unfold remC
  omega
set_option maxHeartbeats 2000000 in
theorem remove_any (F : FuncId) (caps : List Value) (p : It → Bool) (B C mb most c : Nat) (A : Option Addr) (items : List It) (g : Int) (w : World) (h : CHeld w B C mb most A c items g) (hg : Gone w (mb :: blk A) F caps p) :
    Calls Tryz.prog 166 #[.pointer (some ⟨C, 0, none⟩), .func (.func F) #[] caps.toArray] w fun e w' => (∃ v, e = .returned v) ∧ CHeld w' B C mb most A c (items.filter fun x => !p x) g ∧ Turns w w' (C :: mb :: blk A) := by
  have H := Lib.hid h
  have HG := Lib.hid hg
  obtain ⟨k0, k1, k2, k3⟩ := h.cells
  have hap := h.apart
  have HC0 := Lib.hid h.row
  have hfew := h.few
  obtain ⟨n, hn⟩ : ∃ n, n = items.length := ⟨_, rfl⟩
  have HN := Lib.hid hn
  rw [← hn] at k1 hfew
  clear h hg hn k0 k2 k3
  go_enter Tryz.func166, Tryz.ntmps166
  go_wp2
  go_loopw [11] (fun i wr => ∃ j : Nat, j ≤ n ∧ i = .int .i64 j ∧ CntIs wr mb (remC p items j) ∧ Turns w wr [mb]) (fun i _ => n - (intOf i).toNat)
  case atStart => exact ⟨0, by omega, rfl, by rw [remC_zero]; exact H.out.cnt, Turns.refl _ _⟩
  case round =>
    obtain ⟨j, hj, rfl, hc, ht⟩ := hrel
    have HT := Lib.hid ht
    have HCn := Lib.hid hc
    have HO := Lib.hid (ht.own H.out.own (fun k hk hm => by
      simp at hm; subst hm
      rcases H.out.own.head with ⟨e, _⟩ | ⟨L, e⟩
      · rw [e] at hk; cases hk
      · rw [e] at hk; injection hk with hk; subst hk; exact hap.2.2 (by simp [blk, e])))
    have HRC := Lib.hid (ht.row HC0.out (by simpa using hap.1))
    clear hc ht
    by_cases hjn : j < n
    · obtain ⟨x, hx⟩ : ∃ x, items[j]? = some x := ⟨_, List.getElem?_eq_getElem (by rw [← HN.out]; exact hjn)⟩
      have HX := Lib.hid hx
      have ho := HO.out
      rw [← HN.out] at ho
      obtain ⟨L, e, c0, c1, c2, c3⟩ := OwnI.at4 ho j x hx
      subst e
      obtain ⟨wA, hwA⟩ : ∃ wA, wA = wr.alloc (.cells #[.int .i64 x.a, .int .i64 x.s, .slice x.A x.l.length x.c, .int .i64 x.g] 244) := ⟨_, rfl⟩
      have hTA : Turns w wA [mb] := by rw [hwA]; exact HT.out.alloc _
      have HTA := Lib.hid hTA
      have HRA : Hid (Row wA wr.heap.size 244 #[.int .i64 x.a, .int .i64 x.s, .slice x.A x.l.length x.c, .int .i64 x.g]) := by unfold Hid; rw [hwA]; exact Row.fresh _ _ _
      have HCA : Hid (CntIs wA mb (remC p items j)) := by unfold Hid; rw [hwA]; exact HCn.out.turns (S := []) ((Turns.refl _ _).alloc _) (by simp)
      have HCl := Lib.hid (HG.out.call wA (hTA.mono (by simp)) x)
      have hent := HG.out.ent
      clear hTA ho hx HO HCn
      cases hpx : p x with
      | true =>
        rw [hpx] at HCl
        have HRm := Lib.hid (remC_gone p items j x HX.out hpx)
        have hbd := remC_bd p items (by rw [← HN.out]; exact hfew) j x.a x.s
        have hwf := H.out.wf x (List.mem_of_getElem? HX.out)
        have HWa := Lib.hid hwf.1
        have HWs := Lib.hid hwf.2
        clear hpx hwf
        go_wp2_with fail
        rw [← hwA]
        clear hwA
        refine HCl.out.mono ?_
        rintro e w2 ⟨rfl, hb2⟩
        have hr2 := HRA.out.below hb2 HRA.out.lt
        have b0 := hr2.cell 0
        have b1 := hr2.cell 1
        have b2 := hr2.cell 2
        simp at b0 b1 b2
        have HT2 : Hid (Turns w w2 [mb]) := HTA.out.then_below hb2
        have HC2 : Hid (CntIs w2 mb (remC p items j)) := HCA.out.turns (Turns.of_below hb2 []) (by simp)
        clear hent hb2 c0 c1 c2 c3 HCl HTA HCA HRA hr2
        go_wp2_with fail
        refine (of_any _ _ _ _).mono ?_
        rintro e w3 ⟨rfl, hb3⟩
        have HT3 : Hid (Turns w w3 [mb]) := HT2.out.then_below hb3
        have HC3 : Hid (CntIs w3 mb (remC p items j)) := HC2.out.turns (Turns.of_below hb3 []) (by simp)
        have HK := Lib.hid (count_any C mb _ _ _ (remC p items j) x.a x.s (-1) HWa.out HWs.out (by omega) hbd hap.1 w3 (HT3.out.row HC0.out (by simpa using hap.1)) HC3.out)
        rw [HRm.out] at HK
        clear hb3 HT2 HC2 b0 b1 b2
        go_wp2_with fail
        refine HK.out.mono ?_
        rintro e w4 ⟨⟨v, rfl⟩, hc4, ht4⟩
        have HC4 := Lib.hid hc4
        have HT4 : Hid (Turns w w4 [mb]) := HT3.out.trans ht4 (by simp)
        clear hc4 ht4 HK HT3 HC3
        go_wp2
        go_roundw
        case rel => exact ⟨j + 1, by omega, by go_num, HC4.out, HT4.out⟩
        case measure => simp [intOf]; omega
      | false =>
        rw [hpx] at HCl
        have HRm := Lib.hid (remC_stay p items j x HX.out hpx)
        clear hpx
        go_wp2_with fail
        rw [← hwA]
        clear hwA
        refine HCl.out.mono ?_
        rintro e w2 ⟨rfl, hb2⟩
        have HT2 : Hid (Turns w w2 [mb]) := HTA.out.then_below hb2
        have HC2 : Hid (CntIs w2 mb (remC p items (j + 1))) := by unfold Hid; rw [HRm.out]; exact HCA.out.turns (Turns.of_below hb2 []) (by simp)
        clear hent hb2 c0 c1 c2 c3 HCl HTA HCA HRA
        go_wp2
        go_roundw
        case rel => exact ⟨j + 1, by omega, by go_num, HC2.out, HT2.out⟩
        case measure => simp [intOf]; omega
    · obtain rfl : j = n := by omega
      have HCf : Hid (CntIs wr mb (cntI (items.filter fun x => !p x))) := by unfold Hid; rw [← remC_all, ← HN.out]; exact HCn.out
      have hc1 := HRC.out.cell 1
      simp at hc1
      have hf1 := HRC.out.frozen 1
      have ho := HO.out
      rw [← HN.out] at hc1 ho
      have HD := Lib.hid (DeleteFuncI_all F caps p (mb :: blk A) A j c B items hfew wr ho (HG.out.turns (HT.out.mono (by simp))) (fun k hk => List.mem_cons_of_mem _ hk))
      clear hc1 ho k1
      have hc1 : wr.cell? ⟨C, 1, none⟩ = some (.slice A j c) := by rw [HRC.out.cell, HN.out]; rfl
      go_wp2_with fail
      refine HD.out.mono ?_
      rintro e w2 ⟨rfl, ho2, ht2⟩
      have hr2 := ht2.row HRC.out hap.2.1
      have HCf2 : Hid (CntIs w2 mb (cntI (items.filter fun x => !p x))) := HCf.out.turns ht2 hap.2.2
      have HO2 := Lib.hid ho2
      have e1 := hr2.cell 1
      simp at e1
      have g1 := hr2.frozen 1
      obtain ⟨m, hm⟩ : ∃ m, m = (items.filter fun x => !p x).length := ⟨_, rfl⟩
      have HM := Lib.hid hm
      have HTw : Hid (Turns w (w2.setCell ⟨C, 1, none⟩ (.slice A m c)) (C :: mb :: blk A)) :=
        ((HT.out.mono (by simp)).trans ht2 (fun k hk => .inl (List.mem_cons_of_mem _ (List.mem_cons_of_mem _ hk)))).setCell (.inl (by simp)) _
      have HF : Hid (CHeld (w2.setCell ⟨C, 1, none⟩ (.slice A m c)) B C mb most A c (items.filter fun x => !p x) g) := by
        have t1 : Turns w2 (w2.setCell ⟨C, 1, none⟩ (.slice A m c)) [C] := (Turns.refl _ _).setCell (by simp) _
        refine ⟨H.out.hC, ?_, t1.own ho2 (fun k hk hmm => ?_), fun x hx => (H.out.dat x ((List.mem_filter.1 hx).1)).turns HTw.out H.out.no_bytes, fun x hx => H.out.wf x ((List.mem_filter.1 hx).1), H.out.hm, HCf2.out.turns t1 (by simpa using Ne.symm hap.1), Nat.le_trans (List.length_filter_le _ _) H.out.few⟩
        · have := hr2.put 1 (.slice A m c)
          rw [hm] at this ⊢
          simpa using this
        · simp at hmm; subst hmm
          rcases ho2.head with ⟨e, _⟩ | ⟨L, e⟩
          · rw [e] at hk; cases hk
          · rw [e] at hk; injection hk with hk; exact hap.2.1 (by simp [blk, e, ← hk])
      rw [← hm]
      clear hm HO2 HCf2 hr2 ho2 ht2 HCf HD hc1 HG HT HCn HO HRC
      go_wp2
      go_end0
      exact ⟨⟨_, rfl⟩, HF.out, HTw.out⟩
end Go.Proofs.YtclhhdodebdmjaaGreat.Vca
