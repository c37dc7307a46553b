/- What follows is laid together from several texts of mine, in their order. -/
import Derived.Test.YthjomnaejhehoaaGreatDoorQ6
import Derived.Test.YthjomnaejhehoaaGreatDoorQ5
import Derived.Laws.BytesString

namespace Go.Proofs.YthjomnaejhehoaaGreatDoor
open Go.RowKit
set_option linter.unusedVariables false
set_option linter.unusedSimpArgs false

theorem reach_small {n : Nat} (h : n ≤ reachBytes) : n ≤ 140737488351232 := h
set_option maxHeartbeats 400000 in
theorem CloneB_any (A : Option Addr) (n c : Nat) (xs : List Value) (hlen : n ≤ reachBytes) (w : World) (hs : Src w 1 A n xs) (h1 : ∀ u ∈ xs, u.oneCell' = true) :
    Calls Tryz.prog 50 #[.slice A n c] w fun e w' => ∃ A' c', e = .returned (.slice A' n c') ∧ w'.ownsRow w.heap.size 5 1 (.slice A' n c') n xs ∧ Below w.heap.size w w' := by
  obtain ⟨i0, hi, hz0, hz1, hz2⟩ := info_parts u8_info
  have q22 : ∀ (w : World) (a : Option Addr) (n c n' c' : Nat), (binOp .eql 22 (.slice a n c) (.slice none n' c')).run Tryz.prog w = .ok (.bool a.isNone) w := fun w a n c n' c' => Lib.run_eql_slice_nil w _ _ a n c n' c' Tryz.underlying22
  cases A with
  | none =>
    have hn : n = 0 := by
      rcases Nat.eq_zero_or_pos n with h | h
      · exact h
      · obtain ⟨_, e, _⟩ := hs.lies h; cases e
    subst hn
    obtain rfl : xs = [] := List.eq_nil_of_length_eq_zero (by simpa using hs.len)
    clear hs h1
    go_enter Tryz.func50, Tryz.ntmps50
    go_wp2
    go_ret
    exact ⟨_, _, rfl, World.ownsRow_nil _ _ _ _, Below.refl _ _⟩
  | some ad =>
    have H1 := Lib.hid h1
    have HO := Lib.hid (World.ownsRow_made (base := w.heap.size) (size := 1) (e := 5) w #[] 0 (Nat.le_refl _) (Nat.zero_le _) rfl)
    have HS := Lib.hid (hs.keep (w' := w.alloc (.cells #[] 5)) (fun a v h => (World.cell?_alloc_lt _ _ _ (World.block_lt_of_cell? w a h)).trans h))
    have HB : Hid (Below w.heap.size w (w.alloc (.cells #[] 5))) := by unfold Hid; (repeat (first | (with_reducible refine Below.drew ?_) | (with_reducible refine below_drewN0 ?_ _) | ((with_reducible refine Below.setCell ?_ ?_ _); rotate_left; focus (first | omega | (simp; done) | (simp; omega) | (simp at *; omega))) | ((with_reducible refine Below.alloc ?_ ?_ _); rotate_left; focus (first | omega | (simp; done) | (simp; omega) | (simp at *; omega))) | (with_reducible exact Below.refl _ _)))
    have b1 : Hid (0 + n ≤ maxLen) := by have := reach_small hlen; unfold Hid maxLen; omega
    have b2 : Hid ((0 + n) * 1 ≤ 140737488355328) := by have := reach_small hlen; unfold Hid; omega
    clear hs h1
    go_enter Tryz.func50, Tryz.ntmps50
    go_wp2_with (at_builtin; refine wpList_append_src _ rfl _ _ 22 rfl w.heap.size 5 i0 (.int .u8 0) 1 1 Tryz.underlying22 hi hz0 hz1 hz2 rfl (by decide) _ 0 [] rfl HO.out (some ad) n c xs rfl HS.out H1.out b1.out b2.out (by simp) ?_; intro v' w1 hown hgrow hv)
    rw [Nat.zero_add, List.nil_append] at hown
    obtain ⟨A', c', rfl, _, _⟩ := own_shape hown
    have hown := Lib.hid hown
    go_wp2
    go_ret
    refine ⟨A', c', rfl, hown.out, HB.out.grown hgrow (by simp) ?_⟩
    intro k hk
    have : w.heap.size = k := by injection hk
    omega
/-- The text of some bytes. -/
def textOf (l : List Nat) : ByteArray := (l.map fun (x : Nat) => (x : Int)).foldl (fun r n => r.push (UInt8.ofNat n.toNat)) ByteArray.empty
theorem conv_text {w : World} {A : Option Addr} {c : Nat} {l : List Nat} (h : Cells8 w A l) : (convert 22 9 (.slice A l.length c)).run Tryz.prog w = .ok (.string (textOf l)) w := by
  rw [run_convert_bytes_string w _ _ 5 _ _ _ Tryz.underlying22 Tryz.underlying5 Tryz.underlying9]
  cases A with
  | none =>
    obtain rfl : l = [] := by
      cases l with
      | nil => rfl
      | cons x r => obtain ⟨_, _, e, _⟩ := h 0 (by simp); cases e
    simp [Conv.bytesToString, textOf]
  | some ad =>
    refine run_bytesToString w _ _ _ _ ?_
    have h2 := run_loadCells_list (P := Tryz.prog) w ad (intsV .u8 l) (fun j v hv => by
      have hj : j < l.length := by
        rcases Nat.lt_or_ge j l.length with h1 | h1
        · exact h1
        · rw [List.getElem?_eq_none (by rw [intsV_length]; exact h1)] at hv; cases hv
      obtain ⟨b, off, e, hc⟩ := h j hj
      injection e with e; subst e
      rw [intsV_get .u8 l j hj] at hv
      injection hv with hv
      subst hv
      rw [addr_add]
      exact hc)
    rw [intsV_length] at h2
    rw [h2]; congr 1
    simp [intsV]
/-- The same bytes are equal. -/
theorem Equal_same (A B : Option Addr) (n c1 c2 : Nat) (l : List Nat) (hl : l.length = n) (w : World) (ha : Cells8 w A l) (hb : Cells8 w B l) :
    Calls Tryz.prog 76 #[.slice A n c1, .slice B n c2] w fun e w' => e = .returned (.bool true) ∧ w = w' := by
  have h1 := conv_text (c := c1) ha
  have h2 := conv_text (c := c2) hb
  rw [hl] at h1 h2
  generalize textOf l = t at *
  clear ha hb hl
  go_enter Tryz.func76, Tryz.ntmps76
  go_wp2
  go_ret
  exact ⟨by simp, rfl⟩
end Go.Proofs.YthjomnaejhehoaaGreatDoor

namespace Go.Proofs.YthjomnaejhehoaaGreatDoor
open Go.RowKit
set_option linter.unusedVariables false
set_option linter.unusedSimpArgs false

theorem Mul64_one (n : Nat) (hn : n = 73 ∨ n = 146 ∨ n = 219 ∨ n = 292 ∨ n = 365 ∨ n = 438 ∨ n = 511 ∨ n = 584) (w : World) : Calls Tryz.prog 145 #[.int .u64 1, .int .u64 n] w fun e w' => e = .returned (.tuple #[.int .u64 0, .int .u64 n]) ∧ w = w' := by
  rcases hn with rfl | rfl | rfl | rfl | rfl | rfl | rfl | rfl
  all_goals
    go_enter Tryz.func145, Tryz.ntmps145
    go_wp2
    first | exact bodyPost_ret (v := .tuple #[.int .u64 0, .int .u64 73]) (by simp [results, Tryz.results145, go_sem]; kernel_rfl) rfl ⟨rfl, rfl⟩ | exact bodyPost_ret (v := .tuple #[.int .u64 0, .int .u64 146]) (by simp [results, Tryz.results145, go_sem]; kernel_rfl) rfl ⟨rfl, rfl⟩ | exact bodyPost_ret (v := .tuple #[.int .u64 0, .int .u64 219]) (by simp [results, Tryz.results145, go_sem]; kernel_rfl) rfl ⟨rfl, rfl⟩ | exact bodyPost_ret (v := .tuple #[.int .u64 0, .int .u64 292]) (by simp [results, Tryz.results145, go_sem]; kernel_rfl) rfl ⟨rfl, rfl⟩ | exact bodyPost_ret (v := .tuple #[.int .u64 0, .int .u64 365]) (by simp [results, Tryz.results145, go_sem]; kernel_rfl) rfl ⟨rfl, rfl⟩ | exact bodyPost_ret (v := .tuple #[.int .u64 0, .int .u64 438]) (by simp [results, Tryz.results145, go_sem]; kernel_rfl) rfl ⟨rfl, rfl⟩ | exact bodyPost_ret (v := .tuple #[.int .u64 0, .int .u64 511]) (by simp [results, Tryz.results145, go_sem]; kernel_rfl) rfl ⟨rfl, rfl⟩ | exact bodyPost_ret (v := .tuple #[.int .u64 0, .int .u64 584]) (by simp [results, Tryz.results145, go_sem]; kernel_rfl) rfl ⟨rfl, rfl⟩
theorem Mul_one (n : Nat) (hn : n = 73 ∨ n = 146 ∨ n = 219 ∨ n = 292 ∨ n = 365 ∨ n = 438 ∨ n = 511 ∨ n = 584) (w : World) : Calls Tryz.prog 143 #[.int .u64 1, .int .u64 n] w fun e w' => e = .returned (.tuple #[.int .u64 0, .int .u64 n]) ∧ w = w' := by
  have HM := Lib.hid (Mul64_one n hn w)
  clear hn
  go_enter Tryz.func143, Tryz.ntmps143
  go_wp2_with fail
  refine HM.out.mono ?_
  rintro e w' ⟨rfl, rfl⟩
  clear HM
  go_wp2
  refine bodyPost_ret (v := .tuple #[.int .u64 0, .int .u64 n]) (by simp [results, Tryz.results143, go_sem]) rfl ⟨rfl, rfl⟩
/-- m times x, and 0 up to n. -/
def rp (m n : Nat) : List Nat := List.replicate m 255 ++ List.replicate (n - m) 0
theorem rp_length (m n : Nat) (h : m ≤ n) : (rp m n).length = n := by unfold rp; simp; omega
theorem rp_splice (m k n : Nat) (h : m + k ≤ n) (hk : k ≤ m) : splice (intsV .u8 (rp m n)) m (intsV .u8 (List.replicate k 255)) = intsV .u8 (rp (m + k) n) := by
  unfold splice rp intsV
  simp only [List.map_append, List.map_replicate, List.length_replicate]
  rw [List.take_append_of_le_length (by simp), List.take_of_length_le (by simp), List.drop_append]
  rw [List.drop_of_length_le (by simp), List.nil_append, List.drop_replicate, List.length_replicate, ← List.append_assoc, List.replicate_append_replicate]
  congr 2
  omega
theorem rp_zero (n : Nat) (h : 1 ≤ n) : splice (intsV .u8 (List.replicate n 0)) 0 ([Value.int .u8 255].take n) = intsV .u8 (rp 1 n) := by
  rw [List.take_of_length_le (by simpa using h)]
  unfold splice rp intsV
  simp
theorem own_of_row {w : World} {B g n : Nat} {l : List Nat} (hr : Row w g 5 (intsV .u8 l).toArray) (hl : l.length = n) (hB : B ≤ g) (hn : n ≤ maxLen) : w.ownsRow B 5 1 (.slice (some ⟨g, 0, none⟩) n n) n (intsV .u8 l) :=
  ⟨by rw [intsV_length, hl, Nat.mul_one], .inr ⟨g, n, _, rfl, hB, hr, Nat.le_refl _, hn, by simp [intsV_length, hl], by simp [List.take_of_length_le, intsV_length, hl]⟩⟩
set_option maxRecDepth 100000 in
set_option maxHeartbeats 4000000 in
theorem Repeat_any (A : Option Addr) (cx n : Nat) (hn : n = 73 ∨ n = 146 ∨ n = 219 ∨ n = 292 ∨ n = 365 ∨ n = 438 ∨ n = 511 ∨ n = 584) (w : World) (hs : Src w 1 A 1 [.int .u8 255]) :
    Calls Tryz.prog 142 #[.slice A 1 cx, .int .i64 n] w fun e w' => ∃ g, e = .returned (.slice (some ⟨g, 0, none⟩) n n) ∧ w'.ownsRow w.heap.size 5 1 (.slice (some ⟨g, 0, none⟩) n n) n (intsV .u8 (List.replicate n 255)) ∧ Below w.heap.size w w' := by
  obtain ⟨i1, ji, jz0, jz1, jz2⟩ := info_parts u8_info
  have HM := Lib.hid (Mul_one n hn w)
  have hn5 : 73 ≤ n ∧ n ≤ 584 := by omega
  have hbk : i1.bytes * n ≤ 281474976710656 := by rw [jz2]; omega
  have HBk := Lib.hid hbk
  have HSd : Hid (Src (w.alloc (.cells (madeCells #[.int .u8 0] n) 5)) 1 A 1 [.int .u8 255]) := hs.keep (fun a v h => (World.cell?_alloc_lt _ _ _ (World.block_lt_of_cell? w a h)).trans h)
  have HR : Hid (Row (w.alloc (.cells (madeCells #[.int .u8 0] n) 5)) w.heap.size 5 (intsV .u8 (List.replicate n 0)).toArray) := by unfold Hid; rw [← made_zero]; exact Row.fresh _ _ _
  have HB0 : Hid (Below w.heap.size w (w.alloc (.cells (madeCells #[.int .u8 0] n) 5))) := (Below.refl _ _).alloc (Nat.le_refl _) _
  have H1 : Hid (∀ u ∈ [Value.int .u8 255], u.oneCell' = true) := by unfold Hid; simp [Value.oneCell']
  clear hs hn hbk
  go_enter Tryz.func142, Tryz.ntmps142
  go_wp2_with fail
  refine HM.out.mono ?_
  rintro e w' ⟨rfl, rfl⟩
  clear HM
  go_wp2_with (first | (with_reducible refine wpList_make_row _ (o := ⟨some 30, .makeSlice 22 (.tmp 29) (.tmp 29), _, _, _, _⟩) rfl (.tmp 29) (.tmp 29) 22 rfl 5 i1 _ Tryz.underlying22 ji jz0 jz1 rfl .i64 .i64 n rfl rfl HBk.out (by omega) ?_) | (with_reducible refine wpList_copy_grown (o := ⟨some 33, _, _, _, _, _⟩) rfl (.tmp 31) (.tmp 32) 22 22 rfl 5 Tryz.underlying22 u8_size1 _ n n 1 _ w.heap.size 0 rfl rfl _ 5 HR.out _ HSd.out H1.out ?c2 ?_))
  case c2 => simp [intsV]; omega
  intro w1 hr1 hg1
  have HR1 : Hid (Row w1 w.heap.size 5 (intsV .u8 (rp 1 n)).toArray) := by
    unfold Hid
    have := hr1.out
    rw [rp_zero n (by omega)] at this
    exact this
  have HB1 : Hid (Below w.heap.size w w1) := below_grown HB0.out hg1.out HB0.out.size (Nat.le_refl _)
  clear hr1 hg1 HR HB0 HSd HBk H1
  go_wp2
  go_loopw [8] (fun iv wr => ∃ (m : Nat), iv = .int .i64 m ∧ 1 ≤ m ∧ m ≤ n ∧ Row wr w.heap.size 5 (intsV .u8 (rp m n)).toArray ∧ Below w.heap.size w wr) (fun i _ => 600 - (intOf i).toNat)
  case atStart => exact ⟨1, by rw [Nat.min_eq_left (by omega)], by omega, by omega, HR1.out, HB1.out⟩
  case round =>
    obtain ⟨m, rfl, hm, hmn, hr, hb⟩ := hrel
    have HRr := Lib.hid hr
    have HBr := Lib.hid hb
    clear hr hb HR1 HB1
    by_cases hlt : m < n
    · have hlti : (m : Int) < n := by omega
      have HSr : Hid (Src wr.drew 1 (some ⟨w.heap.size, 0, none⟩) m (intsV .u8 (List.replicate m 255))) := ⟨by rw [intsV_length]; simp, fun _ => ⟨_, rfl, fun j u hu => by
        rw [addr_add, Nat.zero_add, show wr.drew.cell? ⟨w.heap.size, j, none⟩ = wr.cell? ⟨w.heap.size, j, none⟩ from rfl, HRr.out.cell j, List.getElem?_toArray]
        unfold rp
        rw [intsV_append, List.getElem?_append_left]
        · exact hu
        · exact (List.getElem?_eq_some_iff.1 hu).1⟩⟩
      go_wp2
      (refine region_kept ([w.heap.size]) [0, 1, 2, 3, 4, 5, 6] [7, 8, 9] (by kernel_rfl) (by kernel_rfl) (fun _ _ _ _ _ h => h) ?_; simp only [List.filterMap_cons, List.getElem?_cons_zero, List.getElem?_cons_succ, List.filterMap_nil]; (repeat ((show wpQuiet _ _ _ _ (_ :: _) _); go_big_quiet_step (fail))); refine wpQuiet_nil ?_)
      have hlen := rp_length m n hmn
      refine wpSeqS_step (wpList_copy_grown rfl (.tmp 41) (.tmp 44) 22 22 rfl 5 Tryz.underlying22 u8_size1 (some ⟨w.heap.size, 0, none⟩) (n - m) (n - m) m n w.heap.size m rfl rfl (intsV .u8 (rp m n)) 5 HRr.out _ HSr.out (intsV_one .u8 _) (by rw [intsV_length, hlen]; omega) ?_)
      intro w2 hr2 hg2
      have HT2 : Hid (Turns wr w2 [w.heap.size]) := Turns.of_grown (show wr.grownBy w2 (some w.heap.size) from ⟨hg2.out.os, hg2.out.tape, hg2.out.output, hg2.out.size, hg2.out.block⟩)
      refine wpList_nil (outQ_normal HT2.out ?_)
      obtain ⟨k, hk⟩ : ∃ k, k = min m (n - m) := ⟨_, rfl⟩
      rw [← hk]
      have HR2 : Hid (Row w2 w.heap.size 5 (intsV .u8 (rp (m + k) n)).toArray) := by
        unfold Hid
        have h := hr2.out
        rw [show (intsV .u8 (List.replicate m 255)).take (n - m) = intsV .u8 (List.replicate k 255) by simp [intsV, List.take_replicate, hk, Nat.min_comm], rp_splice m k n (by omega) (by omega)] at h
        exact h
      have HB2 : Hid (Below w.heap.size w w2) := below_grown HBr.out.drew hg2.out HBr.out.size (Nat.le_refl _)
      have hk1 : 1 ≤ k ∧ m + k ≤ n := by omega
      have hwk : IntKind.i64.wrap ((m : Int) + k) = ((m + k : Nat) : Int) := by rw [IntKind.wrap_i64]; omega
      clear hr2 hg2 HRr HBr HSr hlen hk
      refine wpSeqS_step ?_
      go_wp2_with fail
      refine outQ_normal HT2.out ?_
      refine wpSeqS_last ?_
      clear HT2
      go_wp2
      go_roundw
      case rel => exact ⟨m + k, by go_num, by omega, by omega, HR2.out, HB2.out⟩
      case measure => simp [intOf]; omega
    · obtain rfl : m = n := by omega
      have HO := Lib.hid (own_of_row (B := w.heap.size) HRr.out (rp_length _ _ hmn) (Nat.le_refl _) (by unfold maxLen; omega))
      rw [show rp m m = List.replicate m 255 by unfold rp; simp] at HO
      go_wp2
      go_ret
      exact ⟨_, rfl, HO.out, HBr.out⟩
end Go.Proofs.YthjomnaejhehoaaGreatDoor
