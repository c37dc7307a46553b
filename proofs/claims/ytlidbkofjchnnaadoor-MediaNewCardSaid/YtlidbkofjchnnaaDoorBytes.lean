/- slices.Clone and slices.Repeat at bytes, bytes.Equal. -/
import Derived.Test.YtlidbkofjchnnaaDoorPageC
import Derived.Test.YtlidbkofjchnnaaDoorSeq
import Derived.Laws.BytesString
namespace Go.Proofs.YtlidbkofjchnnaaDoor
open Go.RowKit
set_option linter.unusedVariables false
set_option linter.unusedSimpArgs false

theorem reach_small {n : Nat} (h : n ≤ reachBytes) : n ≤ 140737488351232 := h
set_option maxHeartbeats 400000 in
theorem CloneB_any (A : Option Addr) (n c : Nat) (xs : List Value) (hlen : n ≤ reachBytes) (w : World) (hs : Src w 1 A n xs) (h1 : ∀ u ∈ xs, u.oneCell' = true) :
    Calls Tryd.prog 63 #[.slice A n c] w fun e w' => ∃ A' c', e = .returned (.slice A' n c') ∧ w'.ownsRow w.heap.size 5 1 (.slice A' n c') n xs ∧ Below w.heap.size w w' := by
  obtain ⟨i0, hi, hz0, hz1, hz2⟩ := info_parts u8_info
  have q22 : ∀ (w : World) (a : Option Addr) (n c n' c' : Nat), (binOp .eql 46 (.slice a n c) (.slice none n' c')).run Tryd.prog w = .ok (.bool a.isNone) w := fun w a n c n' c' => Lib.run_eql_slice_nil w _ _ a n c n' c' Tryd.underlying46
  cases A with
  | none =>
    have hn : n = 0 := by
      rcases Nat.eq_zero_or_pos n with h | h
      · exact h
      · obtain ⟨_, e, _⟩ := hs.lies h; cases e
    subst hn
    obtain rfl : xs = [] := List.eq_nil_of_length_eq_zero (by simpa using hs.len)
    clear hs h1
    go_enter Tryd.func63, Tryd.ntmps63
    go_wp2
    go_ret
    exact ⟨_, _, rfl, World.ownsRow_nil _ _ _ _, Below.refl _ _⟩
  | some ad =>
    have H1 := Lib.hid h1
    have HO := Lib.hid (World.ownsRow_made (base := w.heap.size) (size := 1) (e := 5) w #[] 0 (Nat.le_refl _) (Nat.zero_le _) rfl)
    have HS := Lib.hid (hs.keep (w' := w.alloc (.cells #[] 5)) (fun a v h => (World.cell?_alloc_lt _ _ _ (World.block_lt_of_cell? w a h)).trans h))
    have HB : Hid (Below w.heap.size w (w.alloc (.cells #[] 5))) := by unfold Hid; (repeat (first | (with_reducible refine Below.drew ?_) | (with_reducible refine below_drewN0 ?_ _) | ((with_reducible refine Below.setCell ?_ ?_ _); rotate_left; focus (first | omega | (simp; done) | (simp; omega) | (simp at *; omega))) | ((with_reducible refine Below.alloc ?_ ?_ _); rotate_left; focus (first | omega | (simp; done) | (simp; omega) | (simp at *; omega))) | (with_reducible exact Below.refl _ _)))
    have b1 : Hid (0 + n ≤ maxLen) := by have := reach_small hlen; unfold Hid maxLen; omega
    have b2 : Hid ((0 + n) * 1 ≤ 140737488355328) := by have := reach_small hlen; unfold Hid; omega
    clear hs h1
    go_enter Tryd.func63, Tryd.ntmps63
    go_wp2_with (at_builtin; refine wpList_append_src _ rfl _ _ 46 rfl w.heap.size 5 i0 (.int .u8 0) 1 1 Tryd.underlying46 hi hz0 hz1 hz2 rfl (by decide) _ 0 [] rfl HO.out (some ad) n c xs rfl HS.out H1.out b1.out b2.out (by simp) ?_; intro v' w1 hown hgrow hv)
    rw [Nat.zero_add, List.nil_append] at hown
    obtain ⟨A', c', rfl, _, _⟩ := own_shape hown
    have hown := Lib.hid hown
    go_wp2
    go_ret
    refine ⟨A', c', rfl, hown.out, HB.out.grown hgrow (by simp) ?_⟩
    intro k hk
    have : w.heap.size = k := by injection hk
    omega
/-- The text of some bytes. -/
def textOf (l : List Nat) : ByteArray := (l.map fun (x : Nat) => (x : Int)).foldl (fun r n => r.push (UInt8.ofNat n.toNat)) ByteArray.empty
theorem conv_text {w : World} {A : Option Addr} {c : Nat} {l : List Nat} (h : Cells8 w A l) : (convert 46 9 (.slice A l.length c)).run Tryd.prog w = .ok (.string (textOf l)) w := by
  rw [run_convert_bytes_string w _ _ 5 _ _ _ Tryd.underlying46 Tryd.underlying5 Tryd.underlying9]
  cases A with
  | none =>
    obtain rfl : l = [] := by
      cases l with
      | nil => rfl
      | cons x r => obtain ⟨_, _, e, _⟩ := h 0 (by simp); cases e
    simp [Conv.bytesToString, textOf]
  | some ad =>
    refine run_bytesToString w _ _ _ _ ?_
    have h2 := run_loadCells_list (P := Tryd.prog) w ad (intsV .u8 l) (fun j v hv => by
      have hj : j < l.length := by
        rcases Nat.lt_or_ge j l.length with h1 | h1
        · exact h1
        · rw [List.getElem?_eq_none (by rw [intsV_length]; exact h1)] at hv; cases hv
      obtain ⟨b, off, e, hc⟩ := h j hj
      injection e with e; subst e
      rw [intsV_get .u8 l j hj] at hv
      injection hv with hv
      subst hv
      rw [addr_add]
      exact hc)
    rw [intsV_length] at h2
    rw [h2]; congr 1
    simp [intsV]
/-- The same bytes are equal. -/
theorem Equal_same (A B : Option Addr) (n c1 c2 : Nat) (l : List Nat) (hl : l.length = n) (w : World) (ha : Cells8 w A l) (hb : Cells8 w B l) :
    Calls Tryd.prog 31 #[.slice A n c1, .slice B n c2] w fun e w' => e = .returned (.bool true) ∧ w = w' := by
  have h1 := conv_text (c := c1) ha
  have h2 := conv_text (c := c2) hb
  rw [hl] at h1 h2
  generalize textOf l = t at *
  clear ha hb hl
  go_enter Tryd.func31, Tryd.ntmps31
  go_wp2
  go_ret
  exact ⟨by simp, rfl⟩
end Go.Proofs.YtlidbkofjchnnaaDoor
