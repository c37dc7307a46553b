/- locketref17: Long, ReadLong. -/
import Derived.Test.YteocmpaabihoiaaFrRefRead
namespace Go.Proofs.Yteocmpaabihoiaa
open Go.RowKit
set_option linter.unusedVariables false
set_option linter.unusedSimpArgs false

theorem splice_get {α : Type} (L : List α) (o : Nat) (cs : List α) (h : o ≤ L.length) (i : Nat) : (splice L o cs)[i]? = if i < o then L[i]? else if i < o + cs.length then cs[i - o]? else L[i]? := by
  unfold splice
  by_cases h1 : i < o
  · rw [if_pos h1, List.getElem?_append_left (by simp; omega), List.getElem?_take, if_pos h1]
  · rw [if_neg h1, List.getElem?_append_right (by simp; omega), show (L.take o).length = o by simp; omega]
    by_cases h2 : i < o + cs.length
    · rw [if_pos h2, List.getElem?_append_left (by omega)]
    · rw [if_neg h2, List.getElem?_append_right (by omega), List.getElem?_drop]
      congr 1; omega
theorem splice_step (l : List Nat) (k : Nat) (hk : k < 16) (hl : k < l.length) : splice zero17 1 (l.take (k + 1)) = (splice zero17 1 (l.take k)).set (1 + k) (l.getD k 0) := by
  have h1 : (splice zero17 1 (l.take k)).length = 17 := by rw [length_splice]; rfl; simp [zero17]; omega
  apply List.ext_getElem?
  intro i
  rw [splice_get _ _ _ (by simp [zero17]), List.getElem?_set, splice_get _ _ _ (by simp [zero17]), h1]
  have e1 : (l.take (k + 1)).length = k + 1 := by simp; omega
  have e2 : (l.take k).length = k := by simp; omega
  rw [e1, e2]
  by_cases h : i < 1
  · rw [if_pos h, if_neg (by omega), if_pos h]
  · rw [if_neg h, if_neg h]
    by_cases h2 : 1 + k = i
    · subst h2
      rw [if_pos (by omega), if_pos rfl, if_pos (by omega)]
      simp [List.getD, List.getElem?_take, hl]
    · rw [if_neg h2]
      by_cases h3 : i < 1 + k
      · rw [if_pos (by omega), if_pos h3]
        simp [List.getElem?_take, show i - 1 < k + 1 by omega, show i - 1 < k by omega]
      · rw [if_neg (by omega), if_neg h3]

theorem t17_size' : (Try.prog.info? 41).map (·.size) = some 17 := by kernel_rfl
def zeros17' : Array Value := #[.int .u8 0, .int .u8 0, .int .u8 0, .int .u8 0, .int .u8 0, .int .u8 0, .int .u8 0, .int .u8 0, .int .u8 0, .int .u8 0, .int .u8 0, .int .u8 0, .int .u8 0, .int .u8 0, .int .u8 0, .int .u8 0, .int .u8 0]

set_option maxRecDepth 100000 in
set_option maxHeartbeats 1000000 in
theorem refLong_any (a : Option Addr) (l : List Nat) (len cap : Nat) (hlen : len = l.length) (hm : l.length ≤ maxLen) (h8 : ∀ x ∈ l, x < 256) (w : World) (hc : Cells8 w a l) :
    Calls Try.prog 23 #[.slice a len cap] w fun e w' => e = .returned (.agg (ints8 (longL l)).toArray) ∧ Below w.heap.size w w' := by
  subst hlen
  unfold maxLen at hm
  have Hc := Lib.hid hc
  have H8 := Lib.hid h8
  clear hc h8
  go_enter Try.func23, Try.ntmps23
  go_wp2_with fail
  go_loopw [4] (fun i wr => ∃ k : Nat, k ≤ 16 ∧ k ≤ l.length ∧ i = .int .i64 k ∧ Row wr (w.heap.size + 1) 41 (ints8 (splice zero17 1 (l.take k))).toArray ∧ Below (w.heap.size + 1) (w.alloc (.cells zeros17' 41)) wr) (fun i _ => 16 - (intOf i).toNat)
  case atStart =>
    refine ⟨0, by omega, by omega, rfl, ?_, ?_⟩
    · have h := Row.fresh (w.alloc (.cells zeros17' 41)) 41 (ints8 zero17).toArray
      rw [show (w.alloc (.cells zeros17' 41)).heap.size = w.heap.size + 1 from by simp] at h
      exact h
    · exact (Below.refl _ _).alloc (by simp) _
  case round =>
    obtain ⟨k, hk, hkl, rfl, hrow, hbel⟩ := hrel
    by_cases h : k < 16 ∧ k < l.length
    · obtain ⟨hk16, hlt⟩ := h
      obtain ⟨b, off, rfl, hcell0⟩ := Hc.out k hlt
      have hblk := World.block_lt_of_cell? w _ hcell0
      have hcell : wr.cell? ⟨b, off + k, none⟩ = some (.int .u8 (l.getD k 0 : Nat)) := by
        rw [hbel.cell (by show b < _; simp at hblk; omega), World.cell?_alloc_lt _ _ _ hblk]; exact hcell0
      have hc1 := hrow.cell (1 + k)
      rw [List.getElem?_toArray, ints8_get _ _ (by rw [length_splice]; (simp [zero17]; omega); (simp [zero17]; omega))] at hc1
      have hf1 := hrow.frozen (1 + k)
      have Hst := Lib.hid (splice_step l k hk16 hlt)
      have Hrow := Lib.hid hrow
      clear hrow hcell0
      revert hcell Hst hc1
      generalize l.getD k 0 = x
      generalize (splice zero17 1 (l.take k)).getD (1 + k) 0 = y
      intro hcell hc1 Hst
      go_wp2_with fail
      go_roundw
      case rel =>
        refine ⟨k + 1, by omega, by omega, by go_num, ?_, hbel.setCell (Nat.le_refl _) _⟩
        have := Hrow.out.put (1 + k) (.int .u8 (x : Int))
        rw [Hst.out]
        simpa [ints8, List.map_set] using this
      case measure => simp [intOf]; omega
    · have Hb : Hid (base17 l = splice zero17 1 (l.take k)) := by
        unfold Hid base17
        congr 1
        rcases Nat.lt_or_ge k 16 with h16 | h16
        · have : k = l.length := by omega
          subst this
          rw [List.take_of_length_le (by omega), List.take_of_length_le (by omega)]
        · have : k = 16 := by omega
          rw [this]
      rw [← Hb.out] at hrow
      have Hl : Hid (longL l = (base17 l).set 16 ((base17 l).getD 16 0 ||| 1)) := rfl
      have hb8 := base17_lt l H8.out
      have hbl := base17_length l
      have hc16 := hrow.cell 16
      rw [List.getElem?_toArray, ints8_get _ _ (by omega)] at hc16
      have hf16 := hrow.frozen 16
      have hx16 := hb8 _ (getD_mem (base17 l) 16 (by omega))
      have Hl2 : Hid ((ints8 (longL l)).toArray = (ints8 (base17 l)).toArray.setIfInBounds 16 (.int .u8 (((base17 l).getD 16 0 ||| 1 : Nat) : Int))) := by
        unfold Hid; rw [Hl.out]; simp [ints8, List.map_set]
      have hbl' : (ints8 (base17 l)).length = 17 := by rw [ints8_length, hbl]
      have HbL := Lib.hid hbl'
      have HR' := Lib.hid hrow
      have Hb2 := Lib.hid hbel
      have HR0 : Hid (Row wr w.heap.size 41 zeros17') := (Row.fresh w _ _).below hbel (by simp)
      have hlt := hrow.lt
      clear hbl' hbl hb8 hrow hbel Hb
      revert hc16 hx16 Hl2
      generalize (base17 l).getD 16 0 = x16
      intro hc16 hx16 Hl2
      have eo : bits .or .u8 (x16 : Int) 1 = ((x16 ||| 1 : Nat) : Int) := u8_or_nat x16 1 hx16 (by omega)
      have HR2 : Hid (∀ u : World, u = wr.setCell ⟨w.heap.size + 1, 16, none⟩ (.int .u8 ((x16 ||| 1 : Nat) : Int)) → Row u (w.heap.size + 1) 41 (ints8 (longL l)).toArray ∧ Row u w.heap.size 41 zeros17' ∧ Below w.heap.size w u) := by
        rintro u rfl
        refine ⟨by rw [Hl2.out]; exact HR'.out.put _ _, HR0.out.far (by simp) _, ?_⟩
        have hb := Hb2.out
        (have hsz0 := Below.size hb; repeat (first | (with_reducible refine Below.drew ?_) | (with_reducible refine below_drewN0 ?_ _) | ((with_reducible refine Below.setCell ?_ ?_ _); rotate_left; focus (first | omega | (simp; done) | (simp; omega) | (simp at *; omega))) | ((with_reducible refine Below.alloc ?_ ?_ _); rotate_left; focus (first | omega | (simp; done) | (simp; omega) | (simp at *; omega))) | ((with_reducible refine Below.trans ?_ (Below.mono hb ?_)); rotate_left; focus (first | omega | (simp; done) | (simp; omega) | (simp at *; omega))) | (with_reducible exact Below.refl _ _)))
      have hsz : (ints8 (longL l)).toArray.size = 17 := by rw [Hl2.out]; simpa using HbL.out
      have hone : (ints8 (longL l)).toArray.all (·.oneCell') = true := by
        rw [Array.all_eq_true_iff_forall_mem]; intro x hx; exact ints8_one _ x (by simpa using hx)
      have Hsz := Lib.hid hsz
      have Hone := Lib.hid hone
      clear hsz hone Hl Hl2 HbL
      have hkk : ¬ ((k : Int) < 16) ∨ ¬ ((k : Int) < l.length) := by omega
      have HRa := Lib.hid (HR2.out _ rfl).1
      have HRb := Lib.hid (HR2.out _ rfl).2.1
      have HT1 : Hid ((Try.prog.info? 41).map (·.size) = some (ints8 (longL l)).toArray.size) := by unfold Hid; rw [Hsz.out]; exact t17_size'
      have HT2 : Hid (zeros17'.size = (ints8 (longL l)).toArray.size) := by unfold Hid; rw [Hsz.out]; rfl
      by_cases hk16 : k < 16
      · have hkl2 : ¬ ((k : Int) < l.length) := by omega
        clear h hkk
        go_wp2_with (first | (with_reducible refine wpList_load_whole (o := ⟨some 27, .load 41 (.tmp 3), _, _, _, _⟩) rfl 41 (.tmp 3) rfl (w.heap.size + 1) ?d1 41 (ints8 (longL l)).toArray HRa.out 17 5 Try.underlying41 HT1.out ?_) | (with_reducible refine wpList_store_whole (o := ⟨none, .store 41 (.tmp 2) (.tmp 27), _, _, _, _⟩) rfl 41 (.tmp 2) (.tmp 27) rfl w.heap.size (ints8 (longL l)).toArray ?e1 ?f1 41 zeros17' HRb.out HT1.out HT2.out Hone.out ?_))
        intro w3 HR3 hg3
        go_wp2_with fail
        refine bodyPost_ret (v := .agg (ints8 (longL l)).toArray) (results_cell_row rfl _ _ w.heap.size 41 _ (0, 0) _ rfl HR3.out Try.underlying41 rfl HT1.out) rfl (And.intro rfl ?_)
        have hb := (HR2.out _ rfl).2.2
        exact below_grown hb hg3 hb.size (Nat.le_refl _)
      · have hkl2 : ¬ ((k : Int) < 16) := by omega
        clear h hkk
        go_wp2_with (first | (with_reducible refine wpList_load_whole (o := ⟨some 27, .load 41 (.tmp 3), _, _, _, _⟩) rfl 41 (.tmp 3) rfl (w.heap.size + 1) ?d2 41 (ints8 (longL l)).toArray HRa.out 17 5 Try.underlying41 HT1.out ?_) | (with_reducible refine wpList_store_whole (o := ⟨none, .store 41 (.tmp 2) (.tmp 27), _, _, _, _⟩) rfl 41 (.tmp 2) (.tmp 27) rfl w.heap.size (ints8 (longL l)).toArray ?e2 ?f2 41 zeros17' HRb.out HT1.out HT2.out Hone.out ?_))
        intro w3 HR3 hg3
        go_wp2_with fail
        refine bodyPost_ret (v := .agg (ints8 (longL l)).toArray) (results_cell_row rfl _ _ w.heap.size 41 _ (0, 0) _ rfl HR3.out Try.underlying41 rfl HT1.out) rfl (And.intro rfl ?_)
        have hb := (HR2.out _ rfl).2.2
        exact below_grown hb hg3 hb.size (Nat.le_refl _)

/-- An odd last byte, asked the other way round. -/
theorem refReadLong_short (a : Option Addr) (len cap : Nat) (hl : len < 17) (w : World) :
    Calls Try.prog 19 #[.slice a len cap] w fun e w' => e = .returned (.tuple #[.slice none 0 0, .int .i64 23]) ∧ w = w' := by
  have h : (len : Int) < 17 := by omega
  go_enter Try.func19, Try.ntmps19
  go_wp2
  go_ret2
  exact ⟨rfl, rfl⟩
theorem refReadLong_long (a : Option Addr) (len cap : Nat) (hl : 17 < len) (w : World) :
    Calls Try.prog 19 #[.slice a len cap] w fun e w' => e = .returned (.tuple #[.slice none 0 0, .int .i64 24]) ∧ w = w' := by
  have h : (17 : Int) < (len : Int) := by omega
  go_enter Try.func19, Try.ntmps19
  go_wp2
  go_ret2
  exact ⟨rfl, rfl⟩
set_option maxHeartbeats 400000 in
theorem refReadLong_form (b off : Nat) (l : List Nat) (cap : Nat) (hl : l.length = 17) (h8 : ∀ x ∈ l, x < 256) (w : World) (hc : Cells8 w (some ⟨b, off, none⟩) l) (hbad : l.getD 0 0 ≠ 63 ∨ l.getD 16 0 &&& 1 = 0) :
    Calls Try.prog 19 #[.slice (some ⟨b, off, none⟩) 17 cap] w fun e w' => e = .returned (.tuple #[.slice none 0 0, .int .i64 24]) ∧ w = w' := by
  have k0 := hc.at0 0 (by omega)
  simp only [Nat.add_zero] at k0
  have k16 := hc.at0 16 (by omega)
  have b16 := h8 _ (getD_mem l 16 (by omega))
  clear hc hl h8
  generalize l.getD 0 0 = x0 at *
  generalize l.getD 16 0 = x16 at *
  have e16 : bits .and .u8 (x16 : Int) 1 = ((x16 &&& 1 : Nat) : Int) := u8_and_nat x16 1 b16 (by omega)
  by_cases h0 : x0 = 63
  · have h1 : x16 &&& 1 = 0 := hbad.elim (fun h => absurd h0 h) id
    have t0 : ((x0 : Int) != 63) = false := by simp; omega
    have t1 : (bits .and .u8 (x16 : Int) 1 != 1) = true := by rw [e16, h1]; rfl
    clear e16 hbad h0 h1
    go_enter Try.func19, Try.ntmps19
    go_wp2
    go_ret2
    exact ⟨rfl, rfl⟩
  · have t0 : ((x0 : Int) != 63) = true := by simp; omega
    clear e16 hbad h0
    go_enter Try.func19, Try.ntmps19
    go_wp2
    go_ret2
    exact ⟨rfl, rfl⟩

set_option maxHeartbeats 400000 in
theorem refReadLong_ok (b off : Nat) (l : List Nat) (cap : Nat) (hl : l.length = 17) (hcap : 17 ≤ cap) (hcap' : cap ≤ maxLen) (h8 : ∀ x ∈ l, x < 256) (w : World) (hc : Cells8 w (some ⟨b, off, none⟩) l) (h0 : l.getD 0 0 = 63) (h1 : l.getD 16 0 &&& 1 ≠ 0) :
    Calls Try.prog 19 #[.slice (some ⟨b, off, none⟩) 17 cap] w fun e w' => ∃ v, e = .returned (.tuple #[v, .int .i64 0]) ∧ w'.ownsRow w.heap.size 5 1 v 16 (ints8 (rlOut l)) ∧ Below w.heap.size w w' := by
  obtain ⟨i0, hi, hz0, hz1, hz2⟩ := info_parts u8_info
  have k0 := hc.at0 0 (by omega)
  simp only [Nat.add_zero] at k0
  have k16 := hc.at0 16 (by omega)
  have b16 := h8 _ (getD_mem l 16 (by omega))
  have hdl : (l.drop 1).length = 16 := by simp; omega
  have hd16 : (l.drop 1).getD 15 0 = l.getD 16 0 := by simp [List.getD]
  have hcd : Cells8 w (some ⟨b, off + 1, none⟩) (l.drop 1) := by
    intro i hi
    refine ⟨b, off + 1, rfl, ?_⟩
    have := hc.at0 (i + 1) (by omega)
    rw [show off + 1 + i = off + (i + 1) by omega, this]
    simp [List.getD, Nat.add_comm]
  have Ho : Hid (rlOut l = (l.drop 1).set 15 (l.getD 16 0 &&& 254)) := by unfold Hid rlOut; rw [hd16]
  have HS : Hid (Src w 1 (some ⟨b, off + 1, none⟩) 16 (ints8 (l.drop 1))) := by
    have := Src.bytes hcd
    rw [hdl] at this; exact this
  have Hd := Lib.hid hdl
  have Hd16 := Lib.hid hd16
  clear hc hcd h8 hl hdl hd16
  rw [h0] at k0
  clear h0
  obtain ⟨T, hT⟩ : ∃ T, T = l.drop 1 := ⟨_, rfl⟩
  rw [← hT] at Hd Hd16 HS Ho
  have HT := Lib.hid hT
  clear hT
  generalize l.getD 16 0 = x16 at *
  have e16 : bits .and .u8 (x16 : Int) 1 = ((x16 &&& 1 : Nat) : Int) := u8_and_nat x16 1 b16 (by omega)
  have h51 : x16 &&& 1 = 1 := by have := Nat.and_one_is_mod x16; omega
  have t1 : (bits .and .u8 (x16 : Int) 1 != 1) = false := by rw [e16, h51]; rfl
  have en : bits .andNot .u8 (x16 : Int) 1 = ((x16 &&& 254 : Nat) : Int) := u8_andNot_nat x16 1 b16 (by omega)
  clear e16 h1 h51
  unfold maxLen at hcap'
  go_enter Try.func19, Try.ntmps19
  go_wp2_with (at_builtin; refine wpList_append_src _ rfl (.tmp 24) (.tmp 26) 33 rfl w.heap.size 5 i0 (.int .u8 0) 1 1 Try.underlying33 hi hz0 hz1 hz2 rfl (by decide) (.slice (some ⟨w.heap.size, 0, none⟩) 0 0) 0 [] rfl ?c1 (some ⟨b, off + 1, none⟩) 16 (cap - 1) (ints8 T) rfl ?c2 (ints8_one _) ?c3 ?c4 ?c5 ?_)
  case c1 => exact World.ownsRow_made w #[] 0 (Nat.le_refl _) (by simp [maxLen]) (by simp)
  case c2 => exact HS.out.keep (fun p v h => (World.cell?_alloc_lt _ _ _ (World.block_lt_of_cell? w p h)).trans h)
  case c3 => simp [maxLen]
  case c4 => omega
  case c5 => simp
  intro v1 w1 own1 gr1 at1
  have hb1 : Below w.heap.size w w1 := ((Below.refl _ _).alloc (Nat.le_refl _) _).grown gr1 (by simp) (by simp [Value.ownBlock])
  try simp only [Nat.zero_add, List.nil_append] at own1
  obtain ⟨g, c, rfl, hg0, hg1, hg2, hg3⟩ := own_at own1 (by omega)
  have hcell := own1.cellAt 15 (by omega)
  rw [ints8_get _ _ (by rw [Hd.out]; omega), Hd16.out] at hcell
  have hfroz := own1.frozenAt 15
  have Hown := Lib.hid own1
  clear own1 gr1 at1
  unfold maxLen at hg3
  go_wp2
  go_ret2
  have hst := Hown.out.stored 15 (.int .u8 ((x16 &&& 254 : Nat) : Int))
  refine ⟨_, rfl, ?_, ?_⟩
  · rw [Ho.out]
    have e : ints8 (T.set 15 (x16 &&& 254)) = (ints8 T).set 15 (.int .u8 ((x16 &&& 254 : Nat) : Int)) := by simp [ints8, List.map_set]
    rw [e]; exact hst.1
  · exact below_grown hb1 hst.2 (by have := hb1.size; omega) hg0
end Go.Proofs.Yteocmpaabihoiaa
