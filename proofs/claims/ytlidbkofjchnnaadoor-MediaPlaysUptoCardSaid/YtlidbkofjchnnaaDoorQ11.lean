/- What follows is laid together from several texts of mine, in their order. -/
import Derived.Test.YtlidbkofjchnnaaDoorQ3
import Derived.Test.YtlidbkofjchnnaaDoorQ10
import Derived.Test.YtlidbkofjchnnaaDoorQ5

namespace Go.Proofs.YtlidbkofjchnnaaDoor
open Go.RowKit
set_option linter.unusedVariables false
set_option linter.unusedSimpArgs false

theorem lay_split (l : List Nat) (k : Nat) : ∀ c, k < c → ∃ rest, lay l c = lay l k ++ (blk l k ++ (chks (blk l k) 8 ++ (0 :: rest)))
  | 0, h => by omega
  | c + 1, h => by
    by_cases e : k = c
    · subst e
      exact ⟨[], by simp [lay]⟩
    · obtain ⟨rest, hr⟩ := lay_split l k c (by omega)
      exact ⟨rest ++ (blk l c ++ chks (blk l c) 8 ++ [0]), by rw [lay, hr]; simp⟩
section
variable {l : List Nat} {c k : Nat} (hl : l.length = 64 * c) (hk : k < c)
include hl hk
theorem lay_cd : cd (lay l c) k = blk l k := by
  obtain ⟨rest, hr⟩ := lay_split l k c hk
  have h1 := lay_length l c hl k (by omega)
  have h2 := blk_length l k c hl hk
  unfold cd
  rw [hr, ← h1, List.drop_left, ← h2, List.take_left]
theorem lay_cc : cc (lay l c) k = chks (blk l k) 8 := by
  obtain ⟨rest, hr⟩ := lay_split l k c hk
  have h1 := lay_length l c hl k (by omega)
  have h2 := blk_length l k c hl hk
  have h3 := chks_length (blk l k) 8
  unfold cc
  rw [hr, ← List.append_assoc (lay l k), show 73 * k + 64 = (lay l k ++ blk l k).length by rw [List.length_append, h1, h2], List.drop_left]
  conv => lhs; rw [show (8 : Nat) = (chks (blk l k) 8).length from h3.symm]
  rw [h3, List.take_append_of_le_length (by rw [h3]; exact Nat.le_refl _), List.take_of_length_le (by rw [h3]; exact Nat.le_refl _)]
theorem lay_mark : (lay l c).getD (72 + 73 * k) 0 = 0 := by
  obtain ⟨rest, hr⟩ := lay_split l k c hk
  have h1 := lay_length l c hl k (by omega)
  have h2 := blk_length l k c hl hk
  have h3 := chks_length (blk l k) 8
  rw [hr, List.getD_eq_getElem?_getD, List.getElem?_append_right (by omega), List.getElem?_append_right (by omega), List.getElem?_append_right (by omega), h1, h2, h3, show 72 + 73 * k - 73 * k - 64 - 8 = 0 by omega]
  rfl
end
theorem marks_all {l : List Nat} : ∀ c, (∀ k, k < c → pop8 (l.getD (72 + 73 * k) 0) ≤ 4) → marks l c = c
  | 0, _ => rfl
  | c + 1, h => by
    rw [marks, marks_all c (fun k hk => h k (by omega)), if_pos (h c (by omega))]
theorem lay_state {l : List Nat} {c : Nat} (hl : l.length = 64 * c) (hc : 1 ≤ c) : stateOf (lay l c) c = 2 := by
  have hm := marks_all (l := lay l c) c (fun k hk => by rw [lay_mark hl hk]; decide)
  unfold stateOf
  rw [hm, if_neg (by omega), if_pos rfl]
end Go.Proofs.YtlidbkofjchnnaaDoor
namespace Go.Proofs.YtlidbkofjchnnaaDoor
open Go.RowKit
set_option linter.unusedVariables false
set_option linter.unusedSimpArgs false

theorem gw_add (l : List Nat) (h : ∀ j, l.getD j 0 < 256) (k : Nat) : gw l (k + 1) = 2 ^ (8 * k) * l.getD k 0 + gw l k := by
  rw [Nat.two_pow_add_eq_or_of_lt (gw_lt l h k), Nat.or_comm, Nat.mul_comm]
  rfl
theorem gw_byte (l : List Nat) (h : ∀ j, l.getD j 0 < 256) : ∀ k i, i < k → gw l k / 2 ^ (8 * i) % 256 = l.getD i 0
  | 0, i, hi => by omega
  | k + 1, i, hi => by
    rw [gw_add l h k]
    by_cases e : i = k
    · subst e
      rw [Nat.mul_add_div (Nat.two_pow_pos _), Nat.div_eq_of_lt (gw_lt l h i), Nat.add_zero, Nat.mod_eq_of_lt (h i)]
    · have hp : 2 ^ (8 * k) = 2 ^ (8 * i) * (256 * 2 ^ (8 * (k - i - 1))) := by
        rw [show (256 : Nat) = 2 ^ 8 by decide, ← Nat.pow_add, ← Nat.pow_add]
        congr 1
        omega
      rw [hp, Nat.mul_assoc, Nat.mul_add_div (Nat.two_pow_pos _), Nat.mul_assoc, Nat.mul_add_mod]
      exact gw_byte l h k i (by omega)
theorem pb_gw (l : List Nat) (h : ∀ j, l.getD j 0 < 256) (hl : 8 ≤ l.length) : pb (gw l 8) 8 = l.take 8 := by
  apply List.ext_getElem
  · rw [pb_length, List.length_take]; omega
  · intro i h1 h2
    have hi : i < 8 := by rw [pb_length] at h1; exact h1
    simp only [pb, List.getElem_map, List.getElem_range, if_pos hi, List.getElem_take]
    rw [gw_byte l h 8 i hi, List.getD_eq_getElem?_getD, List.getElem?_eq_getElem (by omega)]
    rfl
theorem mend_same (x : Nat) : mend x (chk x) = (x, chk x, 0) := by
  unfold mend
  rw [Nat.xor_self, if_pos rfl]
theorem chks_get (l : List Nat) (k i : Nat) (h : i < k) : (chks l k).getD i 0 = chk (gw (l.drop (8 * i)) 8) := by
  rw [List.getD_eq_getElem?_getD]
  simp [chks, h]
theorem mw_same (l : List Nat) (i : Nat) (h : i < 8) : mw l (chks l 8) i = (gw (l.drop (8 * i)) 8, chk (gw (l.drop (8 * i)) 8), 0) := by
  unfold mw
  rw [chks_get l 8 i h, mend_same]
theorem mBytes_same (l : List Nat) (hl : l.length = 64) (h : ∀ u ∈ l, u < 256) : ∀ k, k ≤ 8 → mBytes l (chks l 8) k = l.take (8 * k)
  | 0, _ => rfl
  | k + 1, hk => by
    rw [mBytes, mBytes_same l hl h k (by omega), mw_same l k (by omega), pb_gw _ (getD_lt (mem_drop h)) (by rw [List.length_drop]; omega), show 8 * (k + 1) = 8 * k + 8 by omega, List.take_add]
theorem mCnt_same (l : List Nat) : ∀ k, k ≤ 8 → mCnt l (chks l 8) k = 0
  | 0, _ => rfl
  | k + 1, hk => by rw [mCnt, mCnt_same l k (by omega), mw_same l k (by omega)]; rfl
theorem mBad_same (l : List Nat) : mBad l (chks l 8) = false := mBad_none _ _ fun i hi => by rw [mw_same l i hi]; simp
end Go.Proofs.YtlidbkofjchnnaaDoor

namespace Go.Proofs.YtlidbkofjchnnaaDoor
open Go.RowKit
set_option linter.unusedVariables false
set_option linter.unusedSimpArgs false

section
variable {l : List Nat} {c : Nat}
theorem blk_lt {k : Nat} (h : ∀ u ∈ l, u < 256) : ∀ u ∈ blk l k, u < 256 := mem_take (mem_drop h)
theorem rBytes_lay (hl : l.length = 64 * c) (h : ∀ u ∈ l, u < 256) : ∀ k, k ≤ c → rBytes (lay l c) k = l.take (64 * k)
  | 0, _ => by simp [rBytes]
  | k + 1, hk => by
    have hb := blk_length l k c hl (by omega)
    rw [rBytes, rBytes_lay hl h k (by omega), lay_cd hl (by omega), lay_cc hl (by omega), mBytes_same _ hb (blk_lt h) 8 (by omega), show (blk l k).take (8 * 8) = blk l k from List.take_of_length_le (by omega), show 64 * (k + 1) = 64 * k + 64 by omega, List.take_add]
    rfl
theorem rCnt_lay (hl : l.length = 64 * c) : ∀ k, k ≤ c → rCnt (lay l c) k = 0
  | 0, _ => by simp [rCnt]
  | k + 1, hk => by rw [rCnt, rCnt_lay hl k (by omega), lay_cd hl (by omega), lay_cc hl (by omega), mCnt_same _ 8 (by omega)]
theorem rBad_lay (hl : l.length = 64 * c) : rBad (lay l c) c = false := rBad_none _ _ fun i hi => by rw [lay_cd hl hi, lay_cc hl hi]; exact mBad_same _
end
theorem laid_how {d : List Nat} {c : Nat} (hc : 1 ≤ c) (hd : d.length ≤ 64 * c) : howOf (laid d c) c = 2 := by
  have hl := pad_length d c hd
  unfold howOf laid
  rw [if_pos (lay_state hl hc), rBad_lay hl]; rfl
theorem laid_cnt {d : List Nat} {c : Nat} (hd : d.length ≤ 64 * c) : cntOf (laid d c) c = 0 := by
  have hl := pad_length d c hd
  unfold cntOf laid
  rw [rCnt_lay hl c (Nat.le_refl _)]; simp
theorem laid_read {d : List Nat} {c : Nat} (hd : d.length ≤ 64 * c) (h : ∀ u ∈ d, u < 256) : (rBytes (laid d c) c).take d.length = d := by
  have hl := pad_length d c hd
  unfold laid
  rw [rBytes_lay hl (pad_lt h c) c (Nat.le_refl _), show (pad d c).take (64 * c) = pad d c from List.take_of_length_le (by omega)]
  exact List.take_left
theorem laid_raw {d : List Nat} {c : Nat} (hd : d.length ≤ 64 * c) (h : ∀ u ∈ d, u < 256) : Raw c (laid d c) :=
  ⟨lay_length (pad d c) c (pad_length d c hd) c (Nat.le_refl _), lay_lt (pad_lt h c) c⟩
end Go.Proofs.YtlidbkofjchnnaaDoor
namespace Go.Proofs.YtlidbkofjchnnaaDoor
open Go.RowKit
set_option linter.unusedVariables false
set_option linter.unusedSimpArgs false

theorem marks_at {l : List Nat} (j : Nat) (h1 : ∀ k, k < j → pop8 (l.getD (72 + 73 * k) 0) ≤ 4) : ∀ c, (∀ k, j ≤ k → k < c → ¬ pop8 (l.getD (72 + 73 * k) 0) ≤ 4) → marks l c = min c j
  | 0, _ => by simp [marks]
  | c + 1, h2 => by
    rw [marks, marks_at j h1 c (fun k hk hkc => h2 k hk (by omega))]
    by_cases hc : c < j
    · rw [if_pos (h1 c hc)]; omega
    · rw [if_neg (h2 c (by omega) (by omega))]; omega
theorem part_state {d : List Nat} {c j : Nat} (hd : d.length ≤ 64 * c) (hj : 0 < j) (hjc : j < c) : stateOf (part (laid d c) c j) c = 1 := by
  have hl := pad_length d c hd
  have hr : (laid d c).length = 73 * c := lay_length (pad d c) c hl c (Nat.le_refl _)
  have hm := marks_at (l := part (laid d c) c j) j (fun k hk => by
    have e : (part (laid d c) c j).getD (72 + 73 * k) 0 = (laid d c).getD (72 + 73 * k) 0 := by
      unfold part
      rw [List.getD_eq_getElem?_getD, List.getElem?_append_left (by rw [List.length_take]; omega), List.getElem?_take, if_pos (by omega), ← List.getD_eq_getElem?_getD]
    rw [e]
    unfold laid
    rw [lay_mark hl (by omega)]
    decide) c (fun k hk hkc => by
    have e : (part (laid d c) c j).getD (72 + 73 * k) 0 = 255 := by
      unfold part
      rw [List.getD_eq_getElem?_getD, List.getElem?_append_right (by rw [List.length_take]; omega), List.getElem?_replicate, if_pos (by rw [List.length_take]; omega)]
      rfl
    rw [e]; decide)
  unfold stateOf
  rw [hm, if_neg (by omega), if_neg (by omega)]
theorem laid_state {d : List Nat} {c : Nat} (hd : d.length ≤ 64 * c) (hc : 1 ≤ c) : stateOf (laid d c) c = 2 := lay_state (pad_length d c hd) hc
end Go.Proofs.YtlidbkofjchnnaaDoor

namespace Go.Proofs.YtlidbkofjchnnaaDoor
open Go.RowKit
set_option linter.unusedVariables false
set_option linter.unusedSimpArgs false

section
variable {w : World} {B M Q F L n : Nat} {P : Nat → Nat} {S : Fl} {bad : Nat → Bool} {md : Int}
theorem MWrite_out (h : MedIs w B M Q F L P S n bad md) (k : Int) (hk : k < 0 ∨ S.nb ≤ k) (A : Option Addr) (m c : Nat) : Calls Tryd.prog 10 #[.pointer (some ⟨M, 0, none⟩), .int .i64 k, .slice A m c] w fun e w' => e = .returned (.tuple #[.int .i64 0, .int .i64 1]) ∧ ∃ m', w' = w.drewN m' := by
  have ht := there_N h k 0
  rw [decide_eq_false (by omega)] at ht
  have HT := Lib.hid ht
  clear h ht hk
  go_enter Tryd.func10, Tryd.ntmps10
  go_wp2_with fail
  refine HT.out.mono ?_
  rintro e w1 ⟨rfl, m, rfl⟩
  clear HT
  go_wp2
  refine bodyPost_ret (v := .tuple #[.int .i64 0, .int .i64 1]) (by simp [results, Tryd.results10, go_sem]) rfl ⟨rfl, m, rfl⟩
theorem MWrite_len (h : MedIs w B M Q F L P S n bad md) (k : Nat) (hk : k < S.nb) (A : Option Addr) (m c : Nat) (hm : m ≠ n) : Calls Tryd.prog 10 #[.pointer (some ⟨M, 0, none⟩), .int .i64 k, .slice A m c] w fun e w' => e = .returned (.tuple #[.int .i64 0, .int .i64 1]) ∧ ∃ m', w' = w.drewN m' := by
  have ht := there_N h k 0
  rw [decide_eq_true (by omega)] at ht
  have HT := Lib.hid ht
  obtain ⟨c0, c2, c3, _⟩ := h.cells
  have hne : ¬ (m : Int) = n := by omega
  clear h ht hk hm
  go_enter Tryd.func10, Tryd.ntmps10
  go_wp2_with fail
  refine HT.out.mono ?_
  rintro e w1 ⟨rfl, m', rfl⟩
  clear HT
  go_wp2
  refine bodyPost_ret (v := .tuple #[.int .i64 0, .int .i64 1]) (by simp [results, Tryd.results10, go_sem]) rfl ⟨rfl, m', rfl⟩
theorem MWrite_bad (h : MedIs w B M Q F L P S n bad md) (k : Nat) (hk : k < S.nb) (A : Option Addr) (c : Nat) (hb : bad k = true) : Calls Tryd.prog 10 #[.pointer (some ⟨M, 0, none⟩), .int .i64 k, .slice A n c] w fun e w' => e = .returned (.tuple #[.int .i64 0, .int .i64 7]) ∧ ∃ m', w' = w.drewN m' := by
  have ht := there_N h k 0
  rw [decide_eq_true (by omega)] at ht
  have HT := Lib.hid ht
  obtain ⟨c0, c2, c3, _⟩ := h.cells
  have hl := h.lookN hk
  rw [hb] at hl
  clear h ht hk hb
  go_enter Tryd.func10, Tryd.ntmps10
  go_wp2_with fail
  refine HT.out.mono ?_
  rintro e w1 ⟨rfl, m', rfl⟩
  clear HT
  go_wp2
  refine bodyPost_ret (v := .tuple #[.int .i64 0, .int .i64 7]) (by simp [results, Tryd.results10, go_sem]) rfl ⟨rfl, m', rfl⟩
theorem MWrite_full (h : MedIs w B M Q F L P S n bad md) (k : Nat) (hk : k < S.nb) (A : Option Addr) (c : Nat) (hb : bad k = false) (hr : S.room bad k = 0) : Calls Tryd.prog 10 #[.pointer (some ⟨M, 0, none⟩), .int .i64 k, .slice A n c] w fun e w' => e = .returned (.tuple #[.int .i64 0, .int .i64 3]) ∧ ∃ m', w' = w.drewN m' := by
  have ht := there_N h k 0
  rw [decide_eq_true (by omega)] at ht
  have HT := Lib.hid ht
  obtain ⟨c0, c2, c3, _⟩ := h.cells
  have hl := h.lookN hk
  rw [hb] at hl
  have hR := Room_N h k hk
  rw [hr] at hR
  have HR := Lib.hid hR
  clear h ht hk hb hr hR
  go_enter Tryd.func10, Tryd.ntmps10
  go_wp2_with fail
  refine HT.out.mono ?_
  rintro e w1 ⟨rfl, m', rfl⟩
  clear HT
  go_wp2_with fail
  refine (HR.out _).mono ?_
  rintro e w1 ⟨rfl, m2, rfl⟩
  clear HR
  go_wp2
  refine bodyPost_ret (v := .tuple #[.int .i64 0, .int .i64 3]) (by simp [results, Tryd.results10, go_sem]) rfl ⟨rfl, m2, rfl⟩
theorem MWrite_off (h : MedIs w B M Q F L P S n bad md) (k : Nat) (hk : k < S.nb) (A : Option Addr) (c : Nat) (hr : S.room bad k ≠ 0) (ho : S.off = true) : Calls Tryd.prog 10 #[.pointer (some ⟨M, 0, none⟩), .int .i64 k, .slice A n c] w fun e w' => e = .returned (.tuple #[.int .i64 0, .int .i64 4]) ∧ ∃ m', w' = w.drewN m' := by
  have ht := there_N h k 0
  rw [decide_eq_true (by omega)] at ht
  have HT := Lib.hid ht
  obtain ⟨c0, c2, c3, _⟩ := h.cells
  have hl := h.lookN hk
  have hb : bad k = false := by
    cases hb : bad k with
    | false => rfl
    | true => unfold Fl.room at hr; rw [if_pos (by simp [hb])] at hr; exact absurd rfl hr
  rw [hb] at hl
  have hR := Room_N h k hk
  generalize S.room bad k = rm at *
  have hrm : ¬ (rm : Int) = 0 := by omega
  have HR := Lib.hid hR
  have hO := Off_N h
  rw [ho] at hO
  have HO := Lib.hid hO
  have hno := nil_off F
  have hmo := met_off F
  clear h ht hk hb hr hR hO ho
  go_enter Tryd.func10, Tryd.ntmps10
  go_wp2_with fail
  refine HT.out.mono ?_
  rintro e w1 ⟨rfl, m', rfl⟩
  clear HT
  go_wp2_with fail
  refine (HR.out _).mono ?_
  rintro e w1 ⟨rfl, m2, rfl⟩
  clear HR
  go_wp2_with fail
  refine (HO.out _).mono ?_
  rintro e w1 ⟨rfl, rfl⟩
  clear HO hno hmo
  go_wp2
  refine bodyPost_ret (v := .tuple #[.int .i64 0, .int .i64 4]) (by simp [results, Tryd.results10, go_sem]) rfl ⟨rfl, m2, rfl⟩
end
end Go.Proofs.YtlidbkofjchnnaaDoor
namespace Go.Proofs.YtlidbkofjchnnaaDoor
open Go.RowKit
set_option linter.unusedVariables false
set_option linter.unusedSimpArgs false

section
variable {w : World} {B M Q F L n : Nat} {P : Nat → Nat} {S : Fl} {bad : Nat → Bool} {md : Int}
theorem room_parts {k : Nat} (hr : S.room bad k ≠ 0) : bad k = false ∧ (S.b k).half = false ∧ (S.b k).next < S.has k := by
  unfold Fl.room at hr
  split at hr
  · exact absurd rfl hr
  · rename_i h
    rw [Bool.or_eq_true, not_or] at h
    exact ⟨by simpa using h.2, by simpa using h.1, by omega⟩
theorem Shape_N (h : MedIs w B M Q F L P S n bad md) (m : Nat) : Calls Tryd.prog 33 #[.pointer (some ⟨F, 0, none⟩)] (w.drewN m) fun e w' => e = .returned (.tuple #[.int .i64 S.nb, .int .i64 S.pages, .int .i64 S.chunks]) ∧ ∃ m', w' = w.drewN m' :=
  (Shape_any (h.drewN m).fl).mono fun e w' ⟨he, m', hw⟩ => ⟨he, m + m', by rw [hw, World.drewN_drewN]⟩
/-- Lay among a media's own calls. -/
theorem Lay_med (h : MedIs w B M Q F L P S n bad md) (A : Option Addr) (c : Nat) (d : List Nat) (hd : d.length = n) (h256 : ∀ u ∈ d, u < 256) (hc : Cells8 w A d) (m : Nat) :
    Calls Tryd.prog 29 #[.slice A n c, .int .i64 S.chunks] (w.drewN m) fun e w' => ∃ rb rc, e = .returned (.tuple #[.slice (some ⟨rb, 0, none⟩) (73 * S.chunks) rc, .int .i64 0]) ∧ 73 * S.chunks ≤ rc ∧ w'.ownsRow w.heap.size 5 1 (.slice (some ⟨rb, 0, none⟩) (73 * S.chunks) rc) (73 * S.chunks) (intsV .u8 (laid d S.chunks)) ∧ MedIs w' B M Q F L P S n bad md ∧ Below w.heap.size w w' := by
  have hch := h.fl.ok.chunks
  have hb := h.bytes
  subst hd
  refine (Lay_any A S.chunks c d hch.1 hch.2 hb.2 h256 (w.drewN m) hc (h.drewN m).tab).mono fun e w' ⟨Ao, co, he, ho, hbl⟩ => ?_
  obtain ⟨rb, rfl, hrc⟩ := own_addr ho (by omega)
  exact ⟨rb, co, he, hrc, ho, (h.drewN m).keep (Turns.of_below hbl []), (below_drewN0 (Below.refl _ _) m).trans (hbl.mono (Nat.le_refl _))⟩
set_option maxRecDepth 100000 in
set_option maxHeartbeats 1000000 in
theorem MWrite_failed (h : MedIs w B M Q F L P S n bad md) (k : Nat) (hk : k < S.nb) (A : Option Addr) (c : Nat) (d : List Nat) (hd : d.length = n) (h256 : ∀ u ∈ d, u < 256) (hc : Cells8 w A d) (hr : S.room bad k ≠ 0) (ho : S.off = false) (hf : (S.b k).failed = true) :
    Calls Tryd.prog 10 #[.pointer (some ⟨M, 0, none⟩), .int .i64 k, .slice A n c] w fun e w' => e = .returned (.tuple #[.int .i64 0, .int .i64 7]) ∧ MedIs w' B M Q F L P S n (setBad bad k) md ∧ Turns w w' [Q] := by
  have ht := there_N h k 0
  rw [decide_eq_true (by omega)] at ht
  have HT := Lib.hid ht
  obtain ⟨c0, c2, c3, _⟩ := h.cells
  have hl := h.lookN hk
  obtain ⟨hb, hh, hnx⟩ := room_parts hr
  rw [hb] at hl
  have hR := Room_N h k hk
  generalize S.room bad k = rm at *
  have hrm : ¬ (rm : Int) = 0 := by omega
  have HR := Lib.hid hR
  have hO := Off_N h
  rw [ho] at hO
  have HO := Lib.hid hO
  have HSh := Lib.hid (Shape_N h)
  have HLy := Lib.hid (Lay_med h A c d hd h256 hc)
  have HNx : Hid (∀ w1, MedIs w1 B M Q F L P S n bad md → Calls Tryd.prog 59 #[.pointer (some ⟨F, 0, none⟩), .int .i64 k] w1 fun e w' => e = .returned (.int .i64 (S.b k).next) ∧ w1 = w') := fun w1 h1 => by
    have := Next_in h1.fl k hk
    rw [hh, if_neg (by simp)] at this
    exact this
  have HPr : Hid (∀ w1 rb rc, MedIs w1 B M Q F L P S n bad md → Calls Tryd.prog 116 #[.pointer (some ⟨F, 0, none⟩), .int .i64 k, .int .i64 ((S.b k).next : Nat), .slice (some ⟨rb, 0, none⟩) (73 * S.chunks) rc] w1 fun e w' => e = .returned (.int .i64 7) ∧ w1 = w') := fun w1 rb rc h1 => Program_failed h1.fl k hk ho hf hnx _ rc
  have HFa : Hid (∀ w1, MedIs w1 B M Q F L P S n bad md → Calls Tryd.prog 30 #[.pointer (some ⟨M, 0, none⟩), .int .i64 k, .int .i64 7] w1 fun e w' => e = .returned (.int .i64 7) ∧ MedIs w' B M Q F L P S n (setBad bad k) md ∧ Turns w1 w' [Q]) := fun w1 h1 => fail_yes h1 k hk
  have hno := nil_off F
  have hmo := met_off F
  have hns := nil_shape F
  have hms := met_shape F
  have hnn := nil_next F
  have hmn := met_next F
  have hnp := nil_program F
  have hmp := met_program F
  generalize (S.b k).next = nx at *
  clear h ht hk hb hr hR hO ho hh hnx hf hd h256 hc
  generalize S.chunks = ch at *
  go_enter Tryd.func10, Tryd.ntmps10
  go_wp2_with fail
  refine HT.out.mono ?_
  rintro e w1 ⟨rfl, m', rfl⟩
  clear HT
  go_wp2_with fail
  refine (HR.out _).mono ?_
  rintro e w1 ⟨rfl, m2, rfl⟩
  clear HR
  go_wp2_with fail
  refine (HO.out _).mono ?_
  rintro e w1 ⟨rfl, rfl⟩
  clear HO hno hmo
  go_wp2_with fail
  refine (HSh.out _).mono ?_
  rintro e w1 ⟨rfl, m3, rfl⟩
  clear HSh hns hms hl
  go_wp2_with fail
  refine (HLy.out _).mono ?_
  rintro e w1 ⟨rb, rc, rfl, _, _, hm1, hbl⟩
  have HM1 := Lib.hid hm1
  have HBl := Lib.hid hbl
  have c1 := hm1.cells.1
  clear HLy hm1 hbl c0 c2 c3
  go_wp2_with fail
  refine (HNx.out w1 HM1.out).mono ?_
  rintro e w2 ⟨rfl, rfl⟩
  clear HNx hnn hmn
  go_wp2_with fail
  refine (HPr.out w1 rb rc HM1.out).mono ?_
  rintro e w2 ⟨rfl, rfl⟩
  clear HPr hnp hmp
  go_wp2_with fail
  refine (HFa.out w1 HM1.out).mono ?_
  rintro e w2 ⟨rfl, hm2, ht2⟩
  have HM2 := Lib.hid hm2
  have HT2 : Hid (Turns w w2 [Q]) := (Turns.of_below HBl.out [Q]).trans ht2 (fun g hg => .inl hg)
  clear hm2 ht2
  go_wp2
  refine bodyPost_ret (v := .tuple #[.int .i64 0, .int .i64 7]) (by simp [results, Tryd.results10, go_sem]) rfl ⟨rfl, HM2.out, HT2.out⟩
end
end Go.Proofs.YtlidbkofjchnnaaDoor
