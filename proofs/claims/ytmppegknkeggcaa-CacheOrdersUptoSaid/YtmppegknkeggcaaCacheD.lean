/- vcache: a row of items: its cells, what a store turns, what clear leaves. -/
import Derived.Test.YtmppegknkeggcaaCacheC
import Derived.Laws.CopyRow
namespace Go.Proofs.Ytmppegknkeggcaa
open Go.RowKit
set_option linter.unusedVariables false
set_option linter.unusedSimpArgs false

section
variable {α : Type} (f : α → List Value) (n : Nat) (hf : ∀ x, (f x).length = n)
include hf
theorem flat_length (l : List α) : (l.flatMap f).length = l.length * n := by
  induction l with
  | nil => simp
  | cons x l ih => rw [List.flatMap_cons, List.length_append, ih, hf, List.length_cons, Nat.add_mul, Nat.one_mul, Nat.add_comm]
theorem flat_get : ∀ (l : List α) (i j : Nat) (x : α), l[i]? = some x → j < n → (l.flatMap f)[i * n + j]? = (f x)[j]?
  | [], i, j, x, h, _ => by simp at h
  | y :: l, 0, j, x, h, hj => by
    simp at h; subst h
    rw [List.flatMap_cons, Nat.zero_mul, Nat.zero_add, List.getElem?_append_left (by rw [hf]; exact hj)]
  | y :: l, i + 1, j, x, h, hj => by
    rw [List.flatMap_cons, List.getElem?_append_right (by rw [hf, Nat.add_mul]; omega), hf, show (i + 1) * n + j - n = i * n + j by rw [Nat.add_mul]; omega]
    exact flat_get l i j x (by simpa using h) hj
theorem flat_take : ∀ (l : List α) (k : Nat), (l.flatMap f).take (k * n) = (l.take k).flatMap f
  | [], k => by simp
  | y :: l, 0 => by simp
  | y :: l, k + 1 => by
    rw [List.flatMap_cons, List.take_succ_cons, List.flatMap_cons, show (k + 1) * n = (f y).length + k * n by rw [hf, Nat.add_mul]; omega, List.take_length_add_append, flat_take l k]
theorem flat_set : ∀ (l : List α) (i : Nat) (y : α), i < l.length → (l.set i y).flatMap f = (l.flatMap f).take (i * n) ++ (f y ++ (l.flatMap f).drop (i * n + n))
  | [], i, y, h => by simp at h
  | x :: l, 0, y, h => by
    rw [List.set_cons_zero, List.flatMap_cons, List.flatMap_cons, Nat.zero_mul, Nat.zero_add, List.take_zero, List.nil_append, List.drop_append_of_le_length (Nat.le_of_eq (hf x).symm), List.drop_of_length_le (Nat.le_of_eq (hf x)), List.nil_append]
  | x :: l, i + 1, y, h => by
    rw [List.set_cons_succ, List.flatMap_cons, List.flatMap_cons, flat_set l i y (by simpa using h), show (i + 1) * n = (f x).length + i * n by rw [hf, Nat.add_mul]; omega, List.take_length_add_append,
      show (f x).length + i * n + n = (f x).length + (i * n + n) by omega, List.drop_length_add_append, List.append_assoc]
end
theorem cells_len (x : It) : x.cells.length = 4 := rfl
theorem wr_len (x : It) : x.wr.length = 3 := rfl
theorem itsV_length (l : List It) : (itsV l).length = l.length * 4 := flat_length _ 4 cells_len l
theorem itsV_take (l : List It) (k : Nat) : (itsV l).take (k * 4) = itsV (l.take k) := flat_take _ 4 cells_len l k
theorem itsV_one (l : List It) : ∀ u ∈ itsV l, u.oneCell' = true := by
  intro u hu
  obtain ⟨x, _, hx⟩ := List.mem_flatMap.1 hu
  simp [It.cells] at hx
  rcases hx with rfl | rfl | rfl | rfl <;> rfl
theorem wrsV_one (l : List It) : ∀ u ∈ wrsV l, u.oneCell' = true := by
  intro u hu
  obtain ⟨x, _, hx⟩ := List.mem_flatMap.1 hu
  simp [It.wr] at hx
  rcases hx with rfl | rfl | rfl <;> rfl
theorem set4 (X : List Value) (k : Nat) (a b c d : Value) (h : k + 4 ≤ X.length) : (((X.set k a).set (k + 1) b).set (k + 2) c).set (k + 3) d = X.take k ++ ([a, b, c, d] ++ X.drop (k + 4)) := by
  obtain ⟨P, T, hX, hP, hT⟩ : ∃ P T, X = P ++ T ∧ P.length = k ∧ 4 ≤ T.length := ⟨X.take k, X.drop k, (List.take_append_drop k X).symm, by simp; omega, by simp; omega⟩
  subst hP
  match T, hT with
  | x0 :: x1 :: x2 :: x3 :: T, _ =>
    subst hX
    simp [List.set_append_right, List.drop_append]
section
variable {w : World} {B L n c : Nat} {items : List It}
abbrev OwnI (w : World) (B : Nat) (v : Value) (n : Nat) (items : List It) : Prop := w.ownsRow B 61 4 v n (itsV items)
theorem OwnI.len {v : Value} (h : OwnI w B v n items) : items.length = n := by have := h.1; rw [itsV_length] at this; omega
theorem OwnI.at4 {A : Option Addr} (h : OwnI w B (.slice A n c) n items) (i : Nat) (x : It) (hx : items[i]? = some x) : ∃ L, A = some ⟨L, 0, none⟩ ∧
    w.cell? ⟨L, i * 4, none⟩ = some (.int .i64 x.a) ∧ w.cell? ⟨L, i * 4 + 1, none⟩ = some (.int .i64 x.s) ∧ w.cell? ⟨L, i * 4 + 2, none⟩ = some (.slice x.A x.l.length x.c) ∧ w.cell? ⟨L, i * 4 + 3, none⟩ = some (.int .i64 x.g) := by
  have hn : 0 < n := by rw [← h.len]; have := (List.getElem?_eq_some_iff.1 hx).1; omega
  obtain ⟨g, cc, e, _⟩ := own_at h hn
  injection e with e _ _
  subst e
  have hc : ∀ j u, j < 4 → x.cells[j]? = some u → w.cell? ⟨g, i * 4 + j, none⟩ = some u := fun j u hj hu => by
    have := h.cells (g := g) rfl (i * 4 + j) u (by rw [show itsV items = items.flatMap It.cells from rfl, flat_get _ 4 cells_len items i j x hx hj]; exact hu)
    rw [addr_add, Nat.zero_add] at this
    exact this
  exact ⟨g, rfl, hc 0 _ (by omega) rfl, hc 1 _ (by omega) rfl, hc 2 _ (by omega) rfl, hc 3 _ (by omega) rfl⟩
theorem OwnI.put4 (h : OwnI w B (.slice (some ⟨L, 0, none⟩) n c) n items) (i : Nat) (hi : i < items.length) (y : It) :
    OwnI ((((w.setCell ⟨L, i * 4, none⟩ (.int .i64 y.a)).setCell ⟨L, i * 4 + 1, none⟩ (.int .i64 y.s)).setCell ⟨L, i * 4 + 2, none⟩ (.slice y.A y.l.length y.c)).setCell ⟨L, i * 4 + 3, none⟩ (.int .i64 y.g)) B (.slice (some ⟨L, 0, none⟩) n c) n (items.set i y) := by
  obtain ⟨hB, cur, hr, hs, hnc, hcm, ht⟩ := own_row h
  have hlen := h.len
  have hcl : cur.toList.length = c * 4 := by simpa using hs
  have hbig : i * 4 + 4 ≤ n * 4 := by rw [← hlen]; omega
  refine ⟨by rw [itsV_length, List.length_set, hlen], .inr ⟨L, c, (((cur.setIfInBounds (i * 4) (.int .i64 y.a)).setIfInBounds (i * 4 + 1) (.int .i64 y.s)).setIfInBounds (i * 4 + 2) (.slice y.A y.l.length y.c)).setIfInBounds (i * 4 + 3) (.int .i64 y.g), rfl, hB,
    (((hr.put (i * 4) _).put (i * 4 + 1) _).put (i * 4 + 2) _).put (i * 4 + 3) _, hnc, hcm, by simpa using hs, ?_⟩⟩
  simp only [Array.toList_setIfInBounds]
  rw [set4 _ _ _ _ _ _ (by rw [hcl]; omega), show itsV (items.set i y) = (items.set i y).flatMap It.cells from rfl, flat_set _ 4 cells_len items i y hi, show items.flatMap It.cells = itsV items from rfl, ← ht]
  rw [List.take_take, List.drop_take, Nat.min_eq_left (by omega)]
  have h1 : (cur.toList.take (i * 4)).length = i * 4 := by rw [List.length_take, hcl]; omega
  rw [List.take_append, List.take_of_length_le (by rw [h1]; omega), h1, List.take_append]
  congr 1
  rw [List.take_of_length_le (by simp; omega)]
  congr 2

theorem zero_item (w : World) : (zeroValue 61).run Try.prog w = .ok (.agg #[.int .i64 0, .int .i64 0, .slice none 0 0, .int .i64 0]) w := by kernel_rfl
theorem OwnI.clearTail (h : OwnI w B (.slice (some ⟨L, 0, none⟩) n c) n items) (i : Nat) (hi : i < n) (cc : Nat) (ty : TypeId) :
    ∃ w', (Builtin.clear_ #[53] ty #[.slice (some ⟨L, i * 4, none⟩) (n - i) cc]).run Try.prog w = .ok (.tuple #[]) w' ∧ OwnI w' B (.slice (some ⟨L, 0, none⟩) i c) i (items.take i) ∧ w.grownBy w' (some L) := by
  obtain ⟨hB, cur, hr, hs, hnc, hcm, ht⟩ := own_row h
  have hlen := h.len
  have hcl : cur.toList.length = c * 4 := by simpa using hs
  obtain ⟨vs, hvs⟩ : ∃ vs, vs = (Builtin.zeroCells (Value.agg #[.int .i64 0, .int .i64 0, .slice none 0 0, .int .i64 0]).cells (n - i)).toList := ⟨_, rfl⟩
  have hvl : vs.length = (n - i) * 4 := by rw [hvs]; simp [Builtin.zeroCells, Value.cells]
  have hv1 : ∀ v ∈ vs, v.oneCell' = true := by
    intro v hv
    rw [hvs] at hv
    simp only [Builtin.zeroCells, Array.toList_map, List.mem_map] at hv
    obtain ⟨k, _, rfl⟩ := hv
    have : k % 4 = 0 ∨ k % 4 = 1 ∨ k % 4 = 2 ∨ k % 4 = 3 := by omega
    simp only [Value.cells]
    rcases this with e | e | e | e <;> simp [e] <;> rfl
  have hrun := run_storeCells_at (P := Try.prog) L (i * 4) 61 vs 0 cur w hr (by have := hs; omega) hv1
  rw [Nat.add_zero] at hrun
  refine ⟨w.setRow L (cur.toList.take (i * 4) ++ vs ++ cur.toList.drop (i * 4 + vs.length)).toArray, ?_, ⟨?_, .inr ⟨L, c, _, rfl, hB, setRow_heap w L cur _ _ _ hr, by omega, hcm, ?_, ?_⟩⟩, grown_setRow _⟩
  · obtain ⟨m, hm⟩ : ∃ m, n - i = m + 1 := ⟨n - i - 1, by omega⟩
    rw [hm] at hvs ⊢
    rw [hvs] at hrun
    rw [← hvs] at hrun
    simp only [Builtin.clear_]
    simp [run_underlying Try.underlying53, zero_item, ← hvs]
    simpa [Result.andThen] using congrArg (fun r => Result.andThen r fun _ w' => Result.ok (Value.tuple #[]) w') hrun
  · rw [itsV_length, List.length_take]; omega
  · have : (i * 4 + (n - i) * 4) ≤ c * 4 := by omega
    simp [hcl, hvl]
    omega
  · have h1 : (cur.toList.take (i * 4)).length = i * 4 := by rw [List.length_take, hcl]; omega
    simp only [List.append_assoc]
    rw [List.take_append_of_le_length (by rw [h1]; exact Nat.le_refl _), List.take_of_length_le (by rw [h1]; exact Nat.le_refl _), ← itsV_take, ← ht, List.take_take, Nat.min_eq_left (by omega)]
end
end Go.Proofs.Ytmppegknkeggcaa
