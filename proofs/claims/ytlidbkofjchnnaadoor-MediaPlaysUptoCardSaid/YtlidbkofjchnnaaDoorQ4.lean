/- What follows is laid together from several texts of mine, in their order. -/
import Derived.Test.YtlidbkofjchnnaaDoorQ3
import Derived.Test.YtlidbkofjchnnaaDoorQ1
import Derived.Laws.BytesString
import Derived.Laws.LoneSync

namespace Go.Proofs.YtlidbkofjchnnaaDoor
open Go.RowKit
set_option linter.unusedVariables false
set_option linter.unusedSimpArgs false

theorem reach_small {n : Nat} (h : n ≤ reachBytes) : n ≤ 140737488351232 := h
set_option maxHeartbeats 400000 in
theorem CloneB_any (A : Option Addr) (n c : Nat) (xs : List Value) (hlen : n ≤ reachBytes) (w : World) (hs : Src w 1 A n xs) (h1 : ∀ u ∈ xs, u.oneCell' = true) :
    Calls Tryd.prog 63 #[.slice A n c] w fun e w' => ∃ A' c', e = .returned (.slice A' n c') ∧ w'.ownsRow w.heap.size 5 1 (.slice A' n c') n xs ∧ Below w.heap.size w w' := by
  obtain ⟨i0, hi, hz0, hz1, hz2⟩ := info_parts u8_info
  have q22 : ∀ (w : World) (a : Option Addr) (n c n' c' : Nat), (binOp .eql 46 (.slice a n c) (.slice none n' c')).run Tryd.prog w = .ok (.bool a.isNone) w := fun w a n c n' c' => Lib.run_eql_slice_nil w _ _ a n c n' c' Tryd.underlying46
  cases A with
  | none =>
    have hn : n = 0 := by
      rcases Nat.eq_zero_or_pos n with h | h
      · exact h
      · obtain ⟨_, e, _⟩ := hs.lies h; cases e
    subst hn
    obtain rfl : xs = [] := List.eq_nil_of_length_eq_zero (by simpa using hs.len)
    clear hs h1
    go_enter Tryd.func63, Tryd.ntmps63
    go_wp2
    go_ret
    exact ⟨_, _, rfl, World.ownsRow_nil _ _ _ _, Below.refl _ _⟩
  | some ad =>
    have H1 := Lib.hid h1
    have HO := Lib.hid (World.ownsRow_made (base := w.heap.size) (size := 1) (e := 5) w #[] 0 (Nat.le_refl _) (Nat.zero_le _) rfl)
    have HS := Lib.hid (hs.keep (w' := w.alloc (.cells #[] 5)) (fun a v h => (World.cell?_alloc_lt _ _ _ (World.block_lt_of_cell? w a h)).trans h))
    have HB : Hid (Below w.heap.size w (w.alloc (.cells #[] 5))) := by unfold Hid; (repeat (first | (with_reducible refine Below.drew ?_) | (with_reducible refine below_drewN0 ?_ _) | ((with_reducible refine Below.setCell ?_ ?_ _); rotate_left; focus (first | omega | (simp; done) | (simp; omega) | (simp at *; omega))) | ((with_reducible refine Below.alloc ?_ ?_ _); rotate_left; focus (first | omega | (simp; done) | (simp; omega) | (simp at *; omega))) | (with_reducible exact Below.refl _ _)))
    have b1 : Hid (0 + n ≤ maxLen) := by have := reach_small hlen; unfold Hid maxLen; omega
    have b2 : Hid ((0 + n) * 1 ≤ 140737488355328) := by have := reach_small hlen; unfold Hid; omega
    clear hs h1
    go_enter Tryd.func63, Tryd.ntmps63
    go_wp2_with (at_builtin; refine wpList_append_src _ rfl _ _ 46 rfl w.heap.size 5 i0 (.int .u8 0) 1 1 Tryd.underlying46 hi hz0 hz1 hz2 rfl (by decide) _ 0 [] rfl HO.out (some ad) n c xs rfl HS.out H1.out b1.out b2.out (by simp) ?_; intro v' w1 hown hgrow hv)
    rw [Nat.zero_add, List.nil_append] at hown
    obtain ⟨A', c', rfl, _, _⟩ := own_shape hown
    have hown := Lib.hid hown
    go_wp2
    go_ret
    refine ⟨A', c', rfl, hown.out, HB.out.grown hgrow (by simp) ?_⟩
    intro k hk
    have : w.heap.size = k := by injection hk
    omega
/-- The text of some bytes. -/
def textOf (l : List Nat) : ByteArray := (l.map fun (x : Nat) => (x : Int)).foldl (fun r n => r.push (UInt8.ofNat n.toNat)) ByteArray.empty
theorem conv_text {w : World} {A : Option Addr} {c : Nat} {l : List Nat} (h : Cells8 w A l) : (convert 46 9 (.slice A l.length c)).run Tryd.prog w = .ok (.string (textOf l)) w := by
  rw [run_convert_bytes_string w _ _ 5 _ _ _ Tryd.underlying46 Tryd.underlying5 Tryd.underlying9]
  cases A with
  | none =>
    obtain rfl : l = [] := by
      cases l with
      | nil => rfl
      | cons x r => obtain ⟨_, _, e, _⟩ := h 0 (by simp); cases e
    simp [Conv.bytesToString, textOf]
  | some ad =>
    refine run_bytesToString w _ _ _ _ ?_
    have h2 := run_loadCells_list (P := Tryd.prog) w ad (intsV .u8 l) (fun j v hv => by
      have hj : j < l.length := by
        rcases Nat.lt_or_ge j l.length with h1 | h1
        · exact h1
        · rw [List.getElem?_eq_none (by rw [intsV_length]; exact h1)] at hv; cases hv
      obtain ⟨b, off, e, hc⟩ := h j hj
      injection e with e; subst e
      rw [intsV_get .u8 l j hj] at hv
      injection hv with hv
      subst hv
      rw [addr_add]
      exact hc)
    rw [intsV_length] at h2
    rw [h2]; congr 1
    simp [intsV]
/-- The same bytes are equal. -/
theorem Equal_same (A B : Option Addr) (n c1 c2 : Nat) (l : List Nat) (hl : l.length = n) (w : World) (ha : Cells8 w A l) (hb : Cells8 w B l) :
    Calls Tryd.prog 31 #[.slice A n c1, .slice B n c2] w fun e w' => e = .returned (.bool true) ∧ w = w' := by
  have h1 := conv_text (c := c1) ha
  have h2 := conv_text (c := c2) hb
  rw [hl] at h1 h2
  generalize textOf l = t at *
  clear ha hb hl
  go_enter Tryd.func31, Tryd.ntmps31
  go_wp2
  go_ret
  exact ⟨by simp, rfl⟩
end Go.Proofs.YtlidbkofjchnnaaDoor

namespace Go.Proofs.YtlidbkofjchnnaaDoor
open Go.RowKit
set_option linter.unusedVariables false
set_option linter.unusedSimpArgs false

theorem Mul64_one (n : Nat) (hn : n = 73 ∨ n = 146 ∨ n = 219 ∨ n = 292 ∨ n = 365 ∨ n = 438 ∨ n = 511 ∨ n = 584) (w : World) : Calls Tryd.prog 90 #[.int .u64 1, .int .u64 n] w fun e w' => e = .returned (.tuple #[.int .u64 0, .int .u64 n]) ∧ w = w' := by
  rcases hn with rfl | rfl | rfl | rfl | rfl | rfl | rfl | rfl
  all_goals
    go_enter Tryd.func90, Tryd.ntmps90
    go_wp2
    first | exact bodyPost_ret (v := .tuple #[.int .u64 0, .int .u64 73]) (by simp [results, Tryd.results90, go_sem]; kernel_rfl) rfl ⟨rfl, rfl⟩ | exact bodyPost_ret (v := .tuple #[.int .u64 0, .int .u64 146]) (by simp [results, Tryd.results90, go_sem]; kernel_rfl) rfl ⟨rfl, rfl⟩ | exact bodyPost_ret (v := .tuple #[.int .u64 0, .int .u64 219]) (by simp [results, Tryd.results90, go_sem]; kernel_rfl) rfl ⟨rfl, rfl⟩ | exact bodyPost_ret (v := .tuple #[.int .u64 0, .int .u64 292]) (by simp [results, Tryd.results90, go_sem]; kernel_rfl) rfl ⟨rfl, rfl⟩ | exact bodyPost_ret (v := .tuple #[.int .u64 0, .int .u64 365]) (by simp [results, Tryd.results90, go_sem]; kernel_rfl) rfl ⟨rfl, rfl⟩ | exact bodyPost_ret (v := .tuple #[.int .u64 0, .int .u64 438]) (by simp [results, Tryd.results90, go_sem]; kernel_rfl) rfl ⟨rfl, rfl⟩ | exact bodyPost_ret (v := .tuple #[.int .u64 0, .int .u64 511]) (by simp [results, Tryd.results90, go_sem]; kernel_rfl) rfl ⟨rfl, rfl⟩ | exact bodyPost_ret (v := .tuple #[.int .u64 0, .int .u64 584]) (by simp [results, Tryd.results90, go_sem]; kernel_rfl) rfl ⟨rfl, rfl⟩
theorem Mul_one (n : Nat) (hn : n = 73 ∨ n = 146 ∨ n = 219 ∨ n = 292 ∨ n = 365 ∨ n = 438 ∨ n = 511 ∨ n = 584) (w : World) : Calls Tryd.prog 75 #[.int .u64 1, .int .u64 n] w fun e w' => e = .returned (.tuple #[.int .u64 0, .int .u64 n]) ∧ w = w' := by
  have HM := Lib.hid (Mul64_one n hn w)
  clear hn
  go_enter Tryd.func75, Tryd.ntmps75
  go_wp2_with fail
  refine HM.out.mono ?_
  rintro e w' ⟨rfl, rfl⟩
  clear HM
  go_wp2
  refine bodyPost_ret (v := .tuple #[.int .u64 0, .int .u64 n]) (by simp [results, Tryd.results75, go_sem]) rfl ⟨rfl, rfl⟩
/-- m times x, and 0 up to n. -/
def rp (m n : Nat) : List Nat := List.replicate m 255 ++ List.replicate (n - m) 0
theorem rp_length (m n : Nat) (h : m ≤ n) : (rp m n).length = n := by unfold rp; simp; omega
theorem rp_splice (m k n : Nat) (h : m + k ≤ n) (hk : k ≤ m) : splice (intsV .u8 (rp m n)) m (intsV .u8 (List.replicate k 255)) = intsV .u8 (rp (m + k) n) := by
  unfold splice rp intsV
  simp only [List.map_append, List.map_replicate, List.length_replicate]
  rw [List.take_append_of_le_length (by simp), List.take_of_length_le (by simp), List.drop_append]
  rw [List.drop_of_length_le (by simp), List.nil_append, List.drop_replicate, List.length_replicate, ← List.append_assoc, List.replicate_append_replicate]
  congr 2
  omega
theorem rp_zero (n : Nat) (h : 1 ≤ n) : splice (intsV .u8 (List.replicate n 0)) 0 ([Value.int .u8 255].take n) = intsV .u8 (rp 1 n) := by
  rw [List.take_of_length_le (by simpa using h)]
  unfold splice rp intsV
  simp
theorem own_of_row {w : World} {B g n : Nat} {l : List Nat} (hr : Row w g 5 (intsV .u8 l).toArray) (hl : l.length = n) (hB : B ≤ g) (hn : n ≤ maxLen) : w.ownsRow B 5 1 (.slice (some ⟨g, 0, none⟩) n n) n (intsV .u8 l) :=
  ⟨by rw [intsV_length, hl, Nat.mul_one], .inr ⟨g, n, _, rfl, hB, hr, Nat.le_refl _, hn, by simp [intsV_length, hl], by simp [List.take_of_length_le, intsV_length, hl]⟩⟩
set_option maxRecDepth 100000 in
set_option maxHeartbeats 4000000 in
theorem Repeat_any (A : Option Addr) (cx n : Nat) (hn : n = 73 ∨ n = 146 ∨ n = 219 ∨ n = 292 ∨ n = 365 ∨ n = 438 ∨ n = 511 ∨ n = 584) (w : World) (hs : Src w 1 A 1 [.int .u8 255]) :
    Calls Tryd.prog 64 #[.slice A 1 cx, .int .i64 n] w fun e w' => ∃ g, e = .returned (.slice (some ⟨g, 0, none⟩) n n) ∧ w'.ownsRow w.heap.size 5 1 (.slice (some ⟨g, 0, none⟩) n n) n (intsV .u8 (List.replicate n 255)) ∧ Below w.heap.size w w' := by
  obtain ⟨i1, ji, jz0, jz1, jz2⟩ := info_parts u8_info
  have HM := Lib.hid (Mul_one n hn w)
  have hn5 : 73 ≤ n ∧ n ≤ 584 := by omega
  have hbk : i1.bytes * n ≤ 281474976710656 := by rw [jz2]; omega
  have HBk := Lib.hid hbk
  have HSd : Hid (Src (w.alloc (.cells (madeCells #[.int .u8 0] n) 5)) 1 A 1 [.int .u8 255]) := hs.keep (fun a v h => (World.cell?_alloc_lt _ _ _ (World.block_lt_of_cell? w a h)).trans h)
  have HR : Hid (Row (w.alloc (.cells (madeCells #[.int .u8 0] n) 5)) w.heap.size 5 (intsV .u8 (List.replicate n 0)).toArray) := by unfold Hid; rw [← made_zero]; exact Row.fresh _ _ _
  have HB0 : Hid (Below w.heap.size w (w.alloc (.cells (madeCells #[.int .u8 0] n) 5))) := (Below.refl _ _).alloc (Nat.le_refl _) _
  have H1 : Hid (∀ u ∈ [Value.int .u8 255], u.oneCell' = true) := by unfold Hid; simp [Value.oneCell']
  clear hs hn hbk
  go_enter Tryd.func64, Tryd.ntmps64
  go_wp2_with fail
  refine HM.out.mono ?_
  rintro e w' ⟨rfl, rfl⟩
  clear HM
  go_wp2_with (first | (with_reducible refine wpList_make_row _ (o := ⟨some 30, .makeSlice 46 (.tmp 29) (.tmp 29), _, _, _, _⟩) rfl (.tmp 29) (.tmp 29) 46 rfl 5 i1 _ Tryd.underlying46 ji jz0 jz1 rfl .i64 .i64 n rfl rfl HBk.out (by omega) ?_) | (with_reducible refine wpList_copy_grown (o := ⟨some 33, _, _, _, _, _⟩) rfl (.tmp 31) (.tmp 32) 46 46 rfl 5 Tryd.underlying46 u8_size1 _ n n 1 _ w.heap.size 0 rfl rfl _ 5 HR.out _ HSd.out H1.out ?c2 ?_))
  case c2 => simp [intsV]; omega
  intro w1 hr1 hg1
  have HR1 : Hid (Row w1 w.heap.size 5 (intsV .u8 (rp 1 n)).toArray) := by
    unfold Hid
    have := hr1.out
    rw [rp_zero n (by omega)] at this
    exact this
  have HB1 : Hid (Below w.heap.size w w1) := below_grown HB0.out hg1.out HB0.out.size (Nat.le_refl _)
  clear hr1 hg1 HR HB0 HSd HBk H1
  go_wp2
  go_loopw [8] (fun iv wr => ∃ (m : Nat), iv = .int .i64 m ∧ 1 ≤ m ∧ m ≤ n ∧ Row wr w.heap.size 5 (intsV .u8 (rp m n)).toArray ∧ Below w.heap.size w wr) (fun i _ => 600 - (intOf i).toNat)
  case atStart => exact ⟨1, by rw [Nat.min_eq_left (by omega)], by omega, by omega, HR1.out, HB1.out⟩
  case round =>
    obtain ⟨m, rfl, hm, hmn, hr, hb⟩ := hrel
    have HRr := Lib.hid hr
    have HBr := Lib.hid hb
    clear hr hb HR1 HB1
    by_cases hlt : m < n
    · have hlti : (m : Int) < n := by omega
      have HSr : Hid (Src wr.drew 1 (some ⟨w.heap.size, 0, none⟩) m (intsV .u8 (List.replicate m 255))) := ⟨by rw [intsV_length]; simp, fun _ => ⟨_, rfl, fun j u hu => by
        rw [addr_add, Nat.zero_add, show wr.drew.cell? ⟨w.heap.size, j, none⟩ = wr.cell? ⟨w.heap.size, j, none⟩ from rfl, HRr.out.cell j, List.getElem?_toArray]
        unfold rp
        rw [intsV_append, List.getElem?_append_left]
        · exact hu
        · exact (List.getElem?_eq_some_iff.1 hu).1⟩⟩
      go_wp2
      (refine region_kept ([w.heap.size]) [0, 1, 2, 3, 4, 5, 6] [7, 8, 9] (by kernel_rfl) (by kernel_rfl) (fun _ _ _ _ _ h => h) ?_; simp only [List.filterMap_cons, List.getElem?_cons_zero, List.getElem?_cons_succ, List.filterMap_nil]; (repeat ((show wpQuiet _ _ _ _ (_ :: _) _); go_big_quiet_step (fail))); refine wpQuiet_nil ?_)
      have hlen := rp_length m n hmn
      refine wpSeqS_step (wpList_copy_grown rfl (.tmp 41) (.tmp 44) 46 46 rfl 5 Tryd.underlying46 u8_size1 (some ⟨w.heap.size, 0, none⟩) (n - m) (n - m) m n w.heap.size m rfl rfl (intsV .u8 (rp m n)) 5 HRr.out _ HSr.out (intsV_one .u8 _) (by rw [intsV_length, hlen]; omega) ?_)
      intro w2 hr2 hg2
      have HT2 : Hid (Turns wr w2 [w.heap.size]) := Turns.of_grown (show wr.grownBy w2 (some w.heap.size) from ⟨hg2.out.os, hg2.out.tape, hg2.out.output, hg2.out.size, hg2.out.block⟩)
      refine wpList_nil (outQ_normal HT2.out ?_)
      obtain ⟨k, hk⟩ : ∃ k, k = min m (n - m) := ⟨_, rfl⟩
      rw [← hk]
      have HR2 : Hid (Row w2 w.heap.size 5 (intsV .u8 (rp (m + k) n)).toArray) := by
        unfold Hid
        have h := hr2.out
        rw [show (intsV .u8 (List.replicate m 255)).take (n - m) = intsV .u8 (List.replicate k 255) by simp [intsV, List.take_replicate, hk, Nat.min_comm], rp_splice m k n (by omega) (by omega)] at h
        exact h
      have HB2 : Hid (Below w.heap.size w w2) := below_grown HBr.out.drew hg2.out HBr.out.size (Nat.le_refl _)
      have hk1 : 1 ≤ k ∧ m + k ≤ n := by omega
      have hwk : IntKind.i64.wrap ((m : Int) + k) = ((m + k : Nat) : Int) := by rw [IntKind.wrap_i64]; omega
      clear hr2 hg2 HRr HBr HSr hlen hk
      refine wpSeqS_step ?_
      go_wp2_with fail
      refine outQ_normal HT2.out ?_
      refine wpSeqS_last ?_
      clear HT2
      go_wp2
      go_roundw
      case rel => exact ⟨m + k, by go_num, by omega, by omega, HR2.out, HB2.out⟩
      case measure => simp [intOf]; omega
    · obtain rfl : m = n := by omega
      have HO := Lib.hid (own_of_row (B := w.heap.size) HRr.out (rp_length _ _ hmn) (Nat.le_refl _) (by unfold maxLen; omega))
      rw [show rp m m = List.replicate m 255 by unfold rp; simp] at HO
      go_wp2
      go_ret
      exact ⟨_, rfl, HO.out, HBr.out⟩
end Go.Proofs.YtlidbkofjchnnaaDoor

namespace Go.Proofs.YtlidbkofjchnnaaDoor
open Go.RowKit
set_option linter.unusedVariables false
set_option linter.unusedSimpArgs false

theorem Add_any (b off : Nat) (x y : Int) (w : World) (hc : w.cell? ⟨b, off, none⟩ = some (.int .i64 x)) (hz : w.frozen? ⟨b, off, none⟩ = false) :
    Calls Tryd.prog 41 #[.pointer (some ⟨b, off, none⟩), .int .i64 y] w fun e w' => e = .returned (.int .i64 (IntKind.i64.wrap (x + y))) ∧ w' = w.setCell ⟨b, off, none⟩ (.int .i64 (IntKind.i64.wrap (x + y))) := by
  have hadd := run_call_add (P := Tryd.prog) Tryd.func57 (by kernel_rfl) (by kernel_rfl) (by kernel_rfl) .i64 (by kernel_rfl) (y := y) (s := IntKind.i64.wrap (x + y)) hc hz (by simp [go_sem])
  generalize IntKind.i64.wrap (x + y) = s at *
  go_enter Tryd.func41, Tryd.ntmps41
  go_wp2
  go_ret
  exact ⟨rfl, rfl⟩
theorem Load_any (b off : Nat) (x : Int) (w : World) (hc : w.cell? ⟨b, off, none⟩ = some (.int .i64 x)) :
    Calls Tryd.prog 48 #[.pointer (some ⟨b, off, none⟩)] w fun e w' => e = .returned (.int .i64 x) ∧ w = w' := by
  have hld := run_call_load (P := Tryd.prog) Tryd.func65 (by kernel_rfl) (by kernel_rfl) (by kernel_rfl) .i64 (by kernel_rfl) hc
  go_enter Tryd.func48, Tryd.ntmps48
  go_wp2
  go_ret
  exact ⟨rfl, rfl⟩
/-- A flash's nine cells. -/
def fcells (o : Bool) (a s : Int) (r : List Value) : Array Value := (.bool o :: .int .i64 a :: .int .i64 s :: r).toArray
theorem Off_any (F : Nat) (o : Bool) (a s : Int) (r : List Value) (w : World) (hr : Row w F 42 (fcells o a s r)) :
    Calls Tryd.prog 11 #[.pointer (some ⟨F, 0, none⟩)] w fun e w' => e = .returned (.bool o) ∧ w = w' := by
  have c0 : w.cell? ⟨F, 0, none⟩ = some (.bool o) := hr.cell 0
  clear hr
  go_enter Tryd.func11, Tryd.ntmps11
  go_wp2
  go_ret
  exact ⟨rfl, rfl⟩
theorem On_any (F : Nat) (o : Bool) (a s : Int) (r : List Value) (w : World) (hr : Row w F 42 (fcells o a s r)) :
    Calls Tryd.prog 13 #[.pointer (some ⟨F, 0, none⟩)] w fun e w' => e = .returned (.tuple #[]) ∧ Row w' F 42 (fcells false a s r) ∧ Turns w w' [F] := by
  have c0 : w.cell? ⟨F, 0, none⟩ = some (.bool o) := hr.cell 0
  have f0 := hr.frozen 0
  have HR : Hid (Row (w.setCell ⟨F, 0, none⟩ (.bool false)) F 42 (fcells false a s r)) := by
    have := hr.put 0 (.bool false)
    simpa [fcells, Hid] using this
  have HT : Hid (Turns w (w.setCell ⟨F, 0, none⟩ (.bool false)) [F]) := (Turns.refl _ _).setCell (by simp) _
  clear hr
  go_enter Tryd.func13, Tryd.ntmps13
  go_wp2
  go_end0
  exact ⟨rfl, HR.out, HT.out⟩
theorem Arm_any (F : Nat) (n : Int) (o : Bool) (a s : Int) (r : List Value) (w : World) (hr : Row w F 42 (fcells o a s r)) :
    Calls Tryd.prog 9 #[.pointer (some ⟨F, 0, none⟩), .int .i64 n] w fun e w' => e = .returned (.tuple #[]) ∧ Row w' F 42 (fcells o (max n 1) s r) ∧ Turns w w' [F] := by
  have c1 : w.cell? ⟨F, 1, none⟩ = some (.int .i64 a) := hr.cell 1
  have f1 := hr.frozen 1
  have HR : Hid (∀ m : Int, Row (w.setCell ⟨F, 1, none⟩ (.int .i64 m)) F 42 (fcells o m s r)) := fun m => by
    have := hr.put 1 (.int .i64 m)
    simpa [fcells] using this
  have HT : Hid (∀ m : Int, Turns w (w.setCell ⟨F, 1, none⟩ (.int .i64 m)) [F]) := fun m => (Turns.refl _ _).setCell (by simp) _
  clear hr
  by_cases hn : n < 1
  · have hm : max n 1 = 1 := by omega
    rw [hm]
    clear hm
    go_enter Tryd.func9, Tryd.ntmps9
    go_wp2
    go_end0
    exact ⟨rfl, HR.out _, HT.out _⟩
  · have hm : max n 1 = n := by omega
    rw [hm]
    clear hm
    go_enter Tryd.func9, Tryd.ntmps9
    go_wp2
    go_end0
    exact ⟨rfl, HR.out _, HT.out _⟩
theorem Cut_any (F : Nat) (o : Bool) (a s : Int) (r : List Value) (w : World) (hr : Row w F 42 (fcells o a s r)) :
    Calls Tryd.prog 113 #[.pointer (some ⟨F, 0, none⟩)] w fun e w' => e = .returned (.tuple #[]) ∧ Row w' F 42 (fcells true 0 s r) ∧ Turns w w' [F] := by
  have c0 : w.cell? ⟨F, 0, none⟩ = some (.bool o) := hr.cell 0
  have f0 := hr.frozen 0
  have c1 : w.cell? ⟨F, 1, none⟩ = some (.int .i64 a) := hr.cell 1
  have f1 := hr.frozen 1
  have HR : Hid (Row ((w.setCell ⟨F, 0, none⟩ (.bool true)).setCell ⟨F, 1, none⟩ (.int .i64 0)) F 42 (fcells true 0 s r)) := by
    have := (hr.put 0 (.bool true)).put 1 (.int .i64 0)
    simpa [fcells, Hid] using this
  have HT : Hid (Turns w ((w.setCell ⟨F, 0, none⟩ (.bool true)).setCell ⟨F, 1, none⟩ (.int .i64 0)) [F]) := ((Turns.refl _ _).setCell (by simp) _).setCell (by simp) _
  clear hr
  go_enter Tryd.func113, Tryd.ntmps113
  go_wp2
  go_end0
  exact ⟨rfl, HR.out, HT.out⟩
/-- A step that is done, or in whose place the power goes. -/
theorem step_cut (F : Nat) (o : Bool) (s : Int) (r : List Value) (w : World) (hr : Row w F 42 (fcells o 1 s r)) :
    Calls Tryd.prog 119 #[.pointer (some ⟨F, 0, none⟩)] w fun e w' => e = .returned (.bool false) ∧ Row w' F 42 (fcells true 0 s r) ∧ Turns w w' [F] := by
  have c1 : w.cell? ⟨F, 1, none⟩ = some (.int .i64 1) := hr.cell 1
  have HC := Lib.hid (Cut_any F o 1 s r w hr)
  clear hr
  go_enter Tryd.func119, Tryd.ntmps119
  go_wp2_with fail
  refine HC.out.mono ?_
  rintro e w' ⟨rfl, hr, ht⟩
  have HR := Lib.hid hr
  have HT := Lib.hid ht
  clear HC hr ht c1
  go_wp2
  go_ret
  exact ⟨rfl, HR.out, HT.out⟩
theorem step_done (F : Nat) (o : Bool) (a : Nat) (s : Int) (r : List Value) (ha : a ≠ 1) (ha2 : a < 9223372036854775808) (w : World) (hr : Row w F 42 (fcells o a s r)) :
    Calls Tryd.prog 119 #[.pointer (some ⟨F, 0, none⟩)] w fun e w' => e = .returned (.bool true) ∧ (∃ s', Row w' F 42 (fcells o (a - 1 : Nat) s' r)) ∧ Turns w w' [F] := by
  have c1 : w.cell? ⟨F, 1, none⟩ = some (.int .i64 a) := hr.cell 1
  have f1 := hr.frozen 1
  have hai : ¬ (a : Int) = 1 := by omega
  have HR : Hid (Row (w.setCell ⟨F, 1, none⟩ (.int .i64 (a - 1 : Nat))) F 42 (fcells o (a - 1 : Nat) s r)) := by
    have := hr.put 1 (.int .i64 (a - 1 : Nat))
    simpa [fcells, Hid] using this
  have HT : Hid (Turns w (w.setCell ⟨F, 1, none⟩ (.int .i64 (a - 1 : Nat))) [F]) := (Turns.refl _ _).setCell (by simp) _
  have HA := Lib.hid (Add_any F 2 s 1 _ (HR.out.cell 2) (HR.out.frozen 2))
  have hw1 : IntKind.i64.wrap ((a : Int) - 1) = (a : Int) - 1 := by rw [IntKind.wrap_i64]; omega
  obtain ⟨m, hm⟩ : ∃ m, m = a - 1 := ⟨_, rfl⟩
  have HM := Lib.hid hm
  rw [← hm] at HR HT HA
  rw [← hm]
  clear hr
  have HPost : Hid (∀ s', Row ((w.setCell ⟨F, 1, none⟩ (.int .i64 m)).setCell ⟨F, 2, none⟩ (.int .i64 s')) F 42 (fcells o m s' r) ∧ Turns w ((w.setCell ⟨F, 1, none⟩ (.int .i64 m)).setCell ⟨F, 2, none⟩ (.int .i64 s')) [F]) := fun s' => by
    refine ⟨?_, HT.out.setCell (by simp) _⟩
    have := HR.out.put 2 (.int .i64 s')
    simpa [fcells] using this
  by_cases h0 : a = 0
  · subst h0
    obtain rfl : m = 0 := hm
    clear HM
    go_enter Tryd.func119, Tryd.ntmps119
    go_wp2_with fail
    refine HA.out.mono ?_
    rintro e w' ⟨rfl, rfl⟩
    clear HA HR HT
    go_wp2
    go_ret
    exact ⟨rfl, ⟨_, (HPost.out _).1⟩, (HPost.out _).2⟩
  · have hlt : ¬ (a : Int) - 1 < 0 := by omega
    have hmi : (a : Int) - 1 = m := by omega
    clear hm
    go_enter Tryd.func119, Tryd.ntmps119
    go_wp2_with fail
    refine HA.out.mono ?_
    rintro e w' ⟨rfl, rfl⟩
    clear HA HR HT
    go_wp2
    go_ret
    exact ⟨rfl, ⟨_, (HPost.out _).1⟩, (HPost.out _).2⟩
end Go.Proofs.YtlidbkofjchnnaaDoor
