/- What follows is laid together from several texts of mine, in their order. -/
import Derived.Test.YtlidbkofjchnnaaDoorQ11
import Derived.Test.YtlidbkofjchnnaaDoorQ15
import Derived.Test.YtlidbkofjchnnaaDoorQ1
import Derived.ProofKit
import Derived.OpenShut
import Derived.ShutString
import Derived.ChangeOld
import Derived.Lib.SmallJoins
import Derived.Test.YtlidbkofjchnnaaDoorQ17
import Derived.Test.YtlidbkofjchnnaaDoorRows

namespace Go.Proofs.YtlidbkofjchnnaaDoor
open Go.RowKit
set_option linter.unusedVariables false
set_option linter.unusedSimpArgs false

theorem and_pred_xor (t m : Nat) : (2 ^ t * (2 * m + 1)) &&& (2 ^ t * (2 * m + 1) - 1) = (2 ^ t * (2 * m + 1)) ^^^ 2 ^ t := by
  have hp := Nat.two_pow_pos t
  have e1 : 2 ^ t * (2 * m + 1) - 1 = 2 ^ t * (2 * m) + (2 ^ t - 1) := by rw [Nat.mul_add, Nat.mul_one]; omega
  rw [e1]
  have e2 : 2 ^ t * (2 * m + 1) = 2 ^ t * (2 * m + 1) + 0 := rfl
  apply Nat.eq_of_testBit_eq
  intro i
  rw [Nat.testBit_and, Nat.testBit_xor, Nat.testBit_two_pow, Nat.testBit_two_pow_mul_add _ (by omega)]
  rw [e2, Nat.testBit_two_pow_mul_add _ hp]
  by_cases h : i < t
  · rw [if_pos h, if_pos h]
    have : ¬ t = i := by omega
    simp [this]
  · rw [if_neg h, if_neg h]
    obtain ⟨d, rfl⟩ : ∃ d, i = t + d := ⟨i - t, by omega⟩
    rw [show t + d - t = d by omega]
    cases d with
    | zero =>
      have h1 : (2 * m).testBit 0 = false := by rw [Nat.testBit_zero]; simp
      have h2 : (2 * m + 1).testBit 0 = true := by rw [Nat.testBit_zero]; simp
      rw [h1, h2]; simp
    | succ d =>
      have h1 : (2 * m).testBit (d + 1) = m.testBit d := by rw [Nat.testBit_succ]; congr 1; omega
      have h2 : (2 * m + 1).testBit (d + 1) = m.testBit d := by rw [Nat.testBit_succ]; congr 1; omega
      have h3 : ¬ t = t + (d + 1) := by omega
      rw [h1, h2]; simp
/-- The check byte, bit by bit. -/
def chkB (x : Nat) : Nat → Nat
  | 0 => 0
  | n + 1 => chkB x n ^^^ (if x.testBit n then cols.getD n 0 else 0)
theorem chkB_xor (x y : Nat) : ∀ n, chkB (x ^^^ y) n = chkB x n ^^^ chkB y n
  | 0 => by simp [chkB]
  | n + 1 => by
    rw [chkB, chkB, chkB, chkB_xor x y n, Nat.testBit_xor]
    generalize cols.getD n 0 = c
    apply Nat.eq_of_testBit_eq
    intro i
    cases x.testBit n <;> cases y.testBit n <;> simp [Nat.testBit_xor] <;> cases (chkB x n).testBit i <;> cases (chkB y n).testBit i <;> cases c.testBit i <;> rfl
theorem chkB_zero : ∀ n, chkB 0 n = 0
  | 0 => rfl
  | n + 1 => by rw [chkB, chkB_zero n]; simp
theorem chkB_pow : ∀ b, b < 64 → chkB (2 ^ b) 64 = cols.getD b 0 := by decide +kernel
theorem chk_eq (x : Nat) : x < 18446744073709551616 → chk x = chkB x 64 := by
  induction x using Nat.strongRecOn with
  | _ x ih =>
    intro hx
    by_cases h0 : x = 0
    · subst h0; rw [chk_zero, chkB_zero]
    · obtain ⟨m, hm, ht⟩ := Lib.ctzFrom_spec 64 x (by omega) hx
      have hct : Lib.ctz 64 x = Lib.ctzFrom 64 x := by unfold Lib.ctz; rw [if_neg h0]
      rw [← hct] at hm ht
      have he : x &&& (x - 1) = x ^^^ 2 ^ Lib.ctz 64 x := by
        have := and_pred_xor (Lib.ctz 64 x) m
        rw [← hm] at this
        exact this
      have hlt := and_pred_lt x h0
      rw [chk_step x h0, ih _ hlt (by omega), he, chkB_xor, chkB_pow _ ht, Nat.xor_comm (chkB x 64), ← Nat.xor_assoc, Nat.xor_self, Nat.zero_xor]
theorem xor_lt64 {x y : Nat} (hx : x < 18446744073709551616) (hy : y < 18446744073709551616) : x ^^^ y < 18446744073709551616 := Nat.xor_lt_two_pow (n := 64) hx hy
theorem pow_lt64 {b : Nat} (h : b < 64) : 2 ^ b < 18446744073709551616 := Nat.pow_lt_pow_right (by omega) (show b < 64 from h)
theorem chk_flip {x b : Nat} (hx : x < 18446744073709551616) (hb : b < 64) : chk (x ^^^ 2 ^ b) = chk x ^^^ cols.getD b 0 := by
  rw [chk_eq _ (xor_lt64 hx (pow_lt64 hb)), chkB_xor, chkB_pow b hb, chk_eq x hx]
theorem colOf_cols : ∀ b, b < 64 → colOf (cols.getD b 0) = some b ∧ cols.getD b 0 ≠ 0 := by decide +kernel
theorem colOf_pow : ∀ j, j < 8 → colOf (2 ^ j) = none ∧ 2 ^ j ≠ 0 ∧ pop8 (2 ^ j) = 1 := by decide +kernel
theorem mend_data {x b : Nat} (hx : x < 18446744073709551616) (hb : b < 64) : mend (x ^^^ 2 ^ b) (chk x) = (x, chk x, 1) := by
  have hs : chk (x ^^^ 2 ^ b) ^^^ chk x = cols.getD b 0 := by rw [chk_flip hx hb, Nat.xor_comm (chk x), Nat.xor_assoc, Nat.xor_self, Nat.xor_zero]
  obtain ⟨h1, h2⟩ := colOf_cols b hb
  unfold mend
  rw [hs, if_neg h2, h1]
  simp only
  rw [Nat.xor_assoc, Nat.xor_self, Nat.xor_zero]
theorem mend_check (x : Nat) {j : Nat} (hj : j < 8) : mend x (chk x ^^^ 2 ^ j) = (x, chk x, 1) := by
  have hs : chk x ^^^ (chk x ^^^ 2 ^ j) = 2 ^ j := by rw [← Nat.xor_assoc, Nat.xor_self, Nat.zero_xor]
  obtain ⟨h1, h2, h3⟩ := colOf_pow j hj
  unfold mend
  rw [hs, if_neg h2, h1]
  simp only
  rw [if_pos h3, Nat.xor_assoc, Nat.xor_self, Nat.xor_zero]
theorem gw_congr (l l' : List Nat) : ∀ k, (∀ j, j < k → l.getD j 0 = l'.getD j 0) → gw l k = gw l' k
  | 0, _ => rfl
  | k + 1, h => by rw [gw, gw, gw_congr l l' k (fun j hj => h j (by omega)), h k (by omega)]
theorem gw_bit {l : List Nat} (h : ∀ j, l.getD j 0 < 256) (k t : Nat) (ht : t < 8 * k) : (gw l k).testBit t = (l.getD (t / 8) 0).testBit (t % 8) := by
  have h1 := gw_byte l h k (t / 8) (by omega)
  have h2 := Nat.testBit_mod_two_pow (gw l k / 2 ^ (8 * (t / 8))) 8 (t % 8)
  rw [show (2 : Nat) ^ 8 = 256 from rfl, h1, decide_eq_true (by omega), Bool.true_and, Nat.testBit_div_two_pow] at h2
  rw [h2]
  congr 1
  omega
/-- One bit of one byte turned: one bit of the word. -/
theorem gw_flip {l l' : List Nat} (h : ∀ j, l.getD j 0 < 256) (h' : ∀ j, l'.getD j 0 < 256) {q m : Nat} (hq : q < 8) (hm : m < 8) (he : ∀ j, j < 8 → l'.getD j 0 = if j = q then l.getD j 0 ^^^ 2 ^ m else l.getD j 0) : gw l' 8 = gw l 8 ^^^ 2 ^ (8 * q + m) := by
  apply Nat.eq_of_testBit_eq
  intro t
  rw [Nat.testBit_xor, Nat.testBit_two_pow]
  by_cases ht : t < 64
  · rw [gw_bit h' 8 t (by omega), gw_bit h 8 t (by omega), he (t / 8) (by omega)]
    by_cases e : t / 8 = q
    · rw [if_pos e, Nat.testBit_xor, Nat.testBit_two_pow]
      congr 1
      exact decide_eq_decide.2 (by omega)
    · rw [if_neg e, decide_eq_false (by omega), Bool.xor_false]
  · have h1 := gw_lt l h 8
    have h2 := gw_lt l' h' 8
    have hp : 2 ^ 64 ≤ 2 ^ t := Nat.pow_le_pow_right (by omega) (by omega)
    rw [Nat.testBit_lt_two_pow (Nat.lt_of_lt_of_le h2 hp), Nat.testBit_lt_two_pow (Nat.lt_of_lt_of_le h1 hp), decide_eq_false (by omega)]
    rfl
end Go.Proofs.YtlidbkofjchnnaaDoor

namespace Go.Proofs.YtlidbkofjchnnaaDoor
open Go.RowKit
set_option linter.unusedVariables false
set_option linter.unusedSimpArgs false

/-- Which word, or mark, a byte of a raw page belongs to. -/
def spotOf (pos : Nat) : Nat := 9 * (pos / 73) + (if pos % 73 < 64 then pos % 73 / 8 else if pos % 73 < 72 then pos % 73 - 64 else 8)
/-- r is L, but for one bit in each of the spots T. -/
structure Near (L r : List Nat) (T : Nat → Bool) : Prop where
  len : r.length = L.length
  no : ∀ pos, pos < L.length → T (spotOf pos) = false → r.getD pos 0 = L.getD pos 0
  yes : ∀ s, T s = true → ∃ q m, q < L.length ∧ m < 8 ∧ spotOf q = s ∧ ∀ pos, pos < L.length → spotOf pos = s → r.getD pos 0 = if pos = q then L.getD pos 0 ^^^ 2 ^ m else L.getD pos 0
theorem Near.refl (L : List Nat) : Near L L (fun _ => false) := ⟨rfl, fun _ _ _ => rfl, fun s h => by cases h⟩
theorem flip_getD (r : List Nat) (bit pos : Nat) (h : pos < r.length) : (flipBit r bit).getD pos 0 = if pos = bit / 8 then r.getD pos 0 ^^^ 2 ^ (bit % 8) else r.getD pos 0 := by
  unfold flipBit
  rw [List.getD_eq_getElem?_getD, List.getElem?_set]
  by_cases e : pos = bit / 8
  · subst e
    rw [if_pos rfl, if_pos h, if_pos rfl]; rfl
  · rw [if_neg (Ne.symm e), if_neg e, ← List.getD_eq_getElem?_getD]
theorem Near.flip {L r : List Nat} {T : Nat → Bool} (h : Near L r T) {bit : Nat} (hb : bit < 8 * L.length) (hT : T (spotOf (bit / 8)) = false) : Near L (flipBit r bit) (fun s => s == spotOf (bit / 8) || T s) := by
  have hl := h.len
  refine ⟨by unfold flipBit; rw [List.length_set]; exact hl, fun pos hp ht => ?_, fun s hs => ?_⟩
  · rw [Bool.or_eq_false_iff] at ht
    rw [flip_getD r bit pos (by omega)]
    have : pos ≠ bit / 8 := fun e => by
      have := ht.1
      rw [e] at this
      simp at this
    rw [if_neg this]
    exact h.no pos hp ht.2
  · by_cases e : s = spotOf (bit / 8)
    · subst e
      refine ⟨bit / 8, bit % 8, by omega, by omega, rfl, fun pos hp hsp => ?_⟩
      rw [flip_getD r bit pos (by omega), h.no pos hp (by rw [hsp]; exact hT)]
    · have hs' : T s = true := by
        rw [Bool.or_eq_true] at hs
        rcases hs with hs | hs
        · exact absurd (by simpa using hs) e
        · exact hs
      obtain ⟨q, m, hq, hm, hqs, hall⟩ := h.yes s hs'
      refine ⟨q, m, hq, hm, hqs, fun pos hp hsp => ?_⟩
      rw [flip_getD r bit pos (by omega), if_neg (fun e2 => e (by rw [← hsp, e2]))]
      exact hall pos hp hsp
theorem spot_data (k i j : Nat) (hi : i < 8) (hj : j < 8) : spotOf (73 * k + (8 * i + j)) = 9 * k + i := by
  unfold spotOf
  have h1 : (73 * k + (8 * i + j)) / 73 = k := by omega
  have h2 : (73 * k + (8 * i + j)) % 73 = 8 * i + j := by omega
  rw [h1, h2, if_pos (by omega)]
  omega
theorem spot_check (k i : Nat) (hi : i < 8) : spotOf (73 * k + (64 + i)) = 9 * k + i := by
  unfold spotOf
  have h1 : (73 * k + (64 + i)) / 73 = k := by omega
  have h2 : (73 * k + (64 + i)) % 73 = 64 + i := by omega
  rw [h1, h2, if_neg (by omega), if_pos (by omega)]
  omega
theorem spot_mark (k : Nat) : spotOf (73 * k + 72) = 9 * k + 8 := by
  unfold spotOf
  have h1 : (73 * k + 72) / 73 = k := by omega
  have h2 : (73 * k + 72) % 73 = 72 := by omega
  rw [h1, h2, if_neg (by omega), if_neg (by omega)]
theorem spot_inv (q k i : Nat) (hi : i < 8) (h : spotOf q = 9 * k + i) : (∃ j, j < 8 ∧ q = 73 * k + (8 * i + j)) ∨ q = 73 * k + (64 + i) := by
  unfold spotOf at h
  have h1 : q % 73 < 73 := Nat.mod_lt _ (by omega)
  have h2 := Nat.div_add_mod q 73
  split at h
  · left
    exact ⟨q % 73 % 8, by omega, by omega⟩
  · split at h
    · right; omega
    · omega
theorem cd_get (r : List Nat) (k t : Nat) (ht : t < 64) : (cd r k).getD t 0 = r.getD (73 * k + t) 0 := by
  unfold cd
  rw [List.getD_eq_getElem?_getD, List.getElem?_take, if_pos ht, List.getElem?_drop, ← List.getD_eq_getElem?_getD]
theorem cc_get (r : List Nat) (k t : Nat) (ht : t < 8) : (cc r k).getD t 0 = r.getD (73 * k + (64 + t)) 0 := by
  unfold cc
  rw [List.getD_eq_getElem?_getD, List.getElem?_take, if_pos ht, List.getElem?_drop, ← List.getD_eq_getElem?_getD, Nat.add_assoc]
theorem drop_get (r : List Nat) (k t : Nat) : (r.drop k).getD t 0 = r.getD (k + t) 0 := by
  rw [List.getD_eq_getElem?_getD, List.getElem?_drop, ← List.getD_eq_getElem?_getD]
section
variable {l r : List Nat} {c : Nat} {T : Nat → Bool} (hl : l.length = 64 * c) (h256 : ∀ u ∈ l, u < 256) (hr : ∀ u ∈ r, u < 256) (h : Near (lay l c) r T)
include hl h256 hr h
/-- Each word is read as it was. -/
theorem near_word {k i : Nat} (hk : k < c) (hi : i < 8) : (mw (cd r k) (cc r k) i).1 = gw ((blk l k).drop (8 * i)) 8 ∧ (mw (cd r k) (cc r k) i).2.2 ≠ 2 := by
  have hL := lay_length l c hl c (Nat.le_refl _)
  have hbl := blk_length l k c hl hk
  have hcd := lay_cd hl hk
  have hcc := lay_cc hl hk
  have eD : ∀ j, j < 8 → (lay l c).getD (73 * k + (8 * i + j)) 0 = ((blk l k).drop (8 * i)).getD j 0 := fun j hj => by
    rw [drop_get, ← hcd, cd_get _ _ _ (by omega)]
  have eC : (lay l c).getD (73 * k + (64 + i)) 0 = chk (gw ((blk l k).drop (8 * i)) 8) := by
    rw [← cc_get _ _ _ hi, hcc, chks_get _ _ _ hi]
  have rD : ∀ j, j < 8 → ((cd r k).drop (8 * i)).getD j 0 = r.getD (73 * k + (8 * i + j)) 0 := fun j hj => by
    rw [drop_get, cd_get _ _ _ (by omega)]
  have rC : (cc r k).getD i 0 = r.getD (73 * k + (64 + i)) 0 := cc_get _ _ _ hi
  have hx : gw ((blk l k).drop (8 * i)) 8 < 18446744073709551616 := gw_64 _ (mem_drop (mem_take (mem_drop h256)))
  have hb1 : ∀ j, ((blk l k).drop (8 * i)).getD j 0 < 256 := getD_lt (mem_drop (mem_take (mem_drop h256)))
  have hb2 : ∀ j, ((cd r k).drop (8 * i)).getD j 0 < 256 := getD_lt (mem_drop (mem_take (mem_drop hr)))
  have key : mw (cd r k) (cc r k) i = (gw ((blk l k).drop (8 * i)) 8, chk (gw ((blk l k).drop (8 * i)) 8), 0) ∨ mw (cd r k) (cc r k) i = (gw ((blk l k).drop (8 * i)) 8, chk (gw ((blk l k).drop (8 * i)) 8), 1) := by
    unfold mw
    rw [rC]
    cases hT : T (9 * k + i) with
    | false =>
      left
      have e1 : gw ((cd r k).drop (8 * i)) 8 = gw ((blk l k).drop (8 * i)) 8 := gw_congr _ _ 8 fun j hj => by
        rw [rD j hj, h.no _ (by rw [hL]; omega) (by rw [spot_data k i j hi hj]; exact hT), eD j hj]
      rw [e1, h.no _ (by rw [hL]; omega) (by rw [spot_check k i hi]; exact hT), eC, mend_same]
    | true =>
      right
      obtain ⟨q, m, hq, hm, hqs, hall⟩ := h.yes _ hT
      rcases spot_inv q k i hi hqs with ⟨j0, hj0, rfl⟩ | rfl
      · have e1 : gw ((cd r k).drop (8 * i)) 8 = gw ((blk l k).drop (8 * i)) 8 ^^^ 2 ^ (8 * j0 + m) := gw_flip hb1 hb2 hj0 hm fun j hj => by
          rw [rD j hj, hall _ (by rw [hL]; omega) (spot_data k i j hi hj), eD j hj]
          by_cases e : j = j0
          · subst e; rw [if_pos rfl, if_pos rfl]
          · rw [if_neg e, if_neg (by omega)]
        rw [e1, hall _ (by rw [hL]; omega) (spot_check k i hi), if_neg (by omega), eC, mend_data hx (by omega)]
      · have e1 : gw ((cd r k).drop (8 * i)) 8 = gw ((blk l k).drop (8 * i)) 8 := gw_congr _ _ 8 fun j hj => by
          rw [rD j hj, hall _ (by rw [hL]; omega) (spot_data k i j hi hj), if_neg (by omega), eD j hj]
        rw [e1, hall _ (by rw [hL]; omega) (spot_check k i hi), if_pos rfl, eC, mend_check _ hm]
  rcases key with e | e <;> rw [e] <;> exact ⟨rfl, by simp⟩
theorem near_bytes {k : Nat} (hk : k < c) : ∀ i, i ≤ 8 → mBytes (cd r k) (cc r k) i = (blk l k).take (8 * i)
  | 0, _ => rfl
  | i + 1, hi => by
    have hbl := blk_length l k c hl hk
    rw [mBytes, near_bytes hk i (by omega), (near_word hl h256 hr h hk (by omega)).1, pb_gw ((blk l k).drop (8 * i)) (getD_lt (mem_drop (mem_take (mem_drop h256)))) (by rw [List.length_drop]; omega), show 8 * (i + 1) = 8 * i + 8 by omega, List.take_add]
theorem near_rBytes : ∀ k, k ≤ c → rBytes r k = l.take (64 * k)
  | 0, _ => by simp [rBytes]
  | k + 1, hk => by
    have hbl := blk_length l k c hl (by omega)
    rw [rBytes, near_rBytes k (by omega), near_bytes hl h256 hr h (by omega) 8 (by omega), show (blk l k).take (8 * 8) = blk l k from List.take_of_length_le (by omega), show 64 * (k + 1) = 64 * k + 64 by omega, List.take_add]
    rfl
theorem near_rBad : rBad r c = false := rBad_none _ _ fun k hk => mBad_none _ _ fun i hi => (near_word hl h256 hr h hk hi).2
omit h256 hr in
theorem near_state (hc : 1 ≤ c) : stateOf r c = 2 := by
  have hL := lay_length l c hl c (Nat.le_refl _)
  have hm := marks_all (l := r) c (fun k hk => by
    have e0 : (lay l c).getD (73 * k + 72) 0 = 0 := by rw [Nat.add_comm]; exact lay_mark hl hk
    rw [Nat.add_comm 72]
    cases hT : T (9 * k + 8) with
    | false => rw [h.no _ (by rw [hL]; omega) (by rw [spot_mark]; exact hT), e0]; decide
    | true =>
      obtain ⟨q, m, hq, hm, hqs, hall⟩ := h.yes _ hT
      rw [hall _ (by rw [hL]; omega) (spot_mark k), e0]
      split
      · rw [Nat.zero_xor, (colOf_pow m hm).2.2]; decide
      · decide)
  unfold stateOf
  rw [hm, if_neg (by omega), if_pos rfl]
end
/-- **What was laid is read, one bit turned in each of its words, or marks.** -/
theorem near_read {d r : List Nat} {c : Nat} {T : Nat → Bool} (hc : 1 ≤ c) (hd : d.length ≤ 64 * c) (h256 : ∀ u ∈ d, u < 256) (hr : ∀ u ∈ r, u < 256) (h : Near (laid d c) r T) : howOf r c = 2 ∧ (rBytes r c).take d.length = d := by
  have hl := pad_length d c hd
  have hp := pad_lt h256 c
  refine ⟨?_, ?_⟩
  · unfold howOf
    rw [if_pos (near_state hl h hc), near_rBad hl hp hr h]; rfl
  · rw [near_rBytes hl hp hr h c (Nat.le_refl _), show (pad d c).take (64 * c) = pad d c from List.take_of_length_le (by omega)]
    exact List.take_left
end Go.Proofs.YtlidbkofjchnnaaDoor

namespace Go.Proofs.YtlidbkofjchnnaaDoor
open Go.ChangeShapes Go.WideShapes Go.ChangeAt Go.RowKit Go.Joins
set_option linter.unusedVariables false
set_option linter.unusedSimpArgs false

set_option maxRecDepth 10000 in
theorem bytes_view {H : Type} {enc : TypeId × Value → H} (W : World) {base : Nat} {v : Value} {d : DataW H} {p : List MemPlace}
    (o : Value.okWide Tryd.prog W .any base 46 v) (h : DataW.Trod enc Tryd.prog W 0 (fun _ => true) true 46 v d p) :
    ∃ (a : Option Addr) (l : List Nat) (cap : Nat), v = .slice a l.length cap ∧ l.length ≤ cap ∧ cap ≤ maxLen ∧ (∀ x ∈ l, x < 256) ∧ Cells8 W a l := by
  obtain ⟨a, len, cap, rfl⟩ := okWide_slice Tryd.underlying46 o
  obtain ⟨fuel, hf⟩ := h
  rcases open_ints Tryd.underlying46 Tryd.underlying5 (by kernel_rfl) hf with ⟨hcs, _⟩ | ⟨x, len', c, zs, hcs, _, hl, hm, hz, _, hcell, hwz⟩
  · simp [Value.cells] at hcs
    obtain ⟨rfl, rfl, rfl⟩ := hcs
    exact ⟨none, [], 0, rfl, Nat.le_refl _, by simp [maxLen], by simp, Cells8.nil⟩
  · simp [Value.cells] at hcs
    obtain ⟨rfl, rfl, rfl⟩ := hcs
    have hzl : zs.length = cap := by simpa using hz
    have hlen : ((zs.take len).map Int.toNat).length = len := by simp; omega
    have hw : ∀ z ∈ zs, 0 ≤ z ∧ z ≤ 255 := by
      intro z hzm
      have := hwz z hzm
      simpa [Lit.wf, IntKind.min, IntKind.max, IntKind.signed, IntKind.bits] using this
    refine ⟨some x, (zs.take len).map Int.toNat, cap, by rw [hlen], by omega, hm, ?_, ?_⟩
    · intro y hy
      rw [List.mem_map] at hy
      obtain ⟨z, hz1, rfl⟩ := hy
      have := hw z (List.mem_of_mem_take hz1)
      omega
    · intro i hi
      rw [hlen] at hi
      obtain ⟨b, off, spot⟩ := x
      have hc := hcell i (by omega)
      have hspot : spot = none := by
        have h0 := hcell 0 (by omega)
        simpa [Addr.add] using World.cell?_spot h0
      subst hspot
      refine ⟨b, off, rfl, ?_⟩
      rw [addr_add] at hc
      rw [hc]
      have h0 : 0 ≤ zs.getD i 0 := by
        have : zs.getD i 0 ∈ zs := by simp [List.getD, show i < zs.length by omega]
        exact (hw _ this).1
      have : ((zs.take len).map Int.toNat).getD i 0 = (zs.getD i 0).toNat := by
        simp [List.getD, List.getElem?_take, hi]
        rw [List.getElem?_eq_getElem (show i < zs.length by omega)]
        simp
      rw [this, Int.toNat_of_nonneg h0]
end Go.Proofs.YtlidbkofjchnnaaDoor

namespace Go.Proofs.YtlidbkofjchnnaaDoor
open Go.ChangeShapes Go.WideShapes Go.ChangeAt Go.RowKit Go.Joins Go.Deep
set_option linter.unusedVariables false
set_option linter.unusedSimpArgs false

/-- A slice of structs of m ints each: what its cells hold. -/
structure Acts (w : World) (a : Option Addr) (n m : Nat) (f : Nat → Nat → Int) : Prop where
  at0 : ∀ i, i < n → ∃ b off, a = some ⟨b, off, none⟩ ∧ ∀ j, j < m → w.cell? ⟨b, off + (i * m + j), none⟩ = some (.int .i64 (f i j))
  wf : ∀ i j, -9223372036854775808 ≤ f i j ∧ f i j ≤ 9223372036854775807
theorem Acts.cells {w : World} {b off n m : Nat} {f : Nat → Nat → Int} (h : Acts w (some ⟨b, off, none⟩) n m f) (i j : Nat) (hi : i < n) (hj : j < m) : w.cell? ⟨b, off + (i * m + j), none⟩ = some (.int .i64 (f i j)) := by
  obtain ⟨b', off', e, h⟩ := h.at0 i hi
  simp at e
  obtain ⟨rfl, rfl⟩ := e
  exact h j hj
theorem Acts.addr {w : World} {a : Option Addr} {n m : Nat} {f : Nat → Nat → Int} (h : Acts w a n m f) (hn : 0 < n) : ∃ b off, a = some ⟨b, off, none⟩ := by
  obtain ⟨b, off, e, _⟩ := h.at0 0 hn
  exact ⟨b, off, e⟩
theorem Acts.keep {w w' : World} {a : Option Addr} {n m : Nat} {f : Nat → Nat → Int} (h : Acts w a n m f) (hk : ∀ p v, w.cell? p = some v → w'.cell? p = some v) : Acts w' a n m f :=
  ⟨fun i hi => by obtain ⟨b, off, e, hc⟩ := h.at0 i hi; exact ⟨b, off, e, fun j hj => hk _ _ (hc j hj)⟩, h.wf⟩
theorem Acts.lt {w : World} {b off n m : Nat} {f : Nat → Nat → Int} (h : Acts w (some ⟨b, off, none⟩) n m f) (hn : 0 < n) (hm : 0 < m) : b < w.heap.size :=
  World.block_lt_of_cell? w ⟨b, off + (0 * m + 0), none⟩ (h.cells 0 0 hn hm)
theorem acts_view {H : Type} {enc : TypeId × Value → H} {P : Program} (W : World) {base : Nat} {t e : TypeId} {fs : Array Field} {v : Value} {d : DataW H} {p : List MemPlace}
    (ht : P.underlying t = some (.slice e)) (he : P.underlying e = some (.struct fs)) (hone : oneCellFields P fs = true) (hC : P.cellsOf e = fs.size) (tI : TypeId) (hI : P.underlying tI = some (.int .i64)) (hint : fs.all (fun f => f.type == tI) = true) (hp : 0 < fs.size)
    (o : Value.okWide P W .any base t v) (h : DataW.Trod enc P W 0 (fun _ => true) true t v d p) :
    ∃ (a : Option Addr) (n cap : Nat) (f : Nat → Nat → Int), v = .slice a n cap ∧ n ≤ cap ∧ cap ≤ maxLen ∧ Acts W a n fs.size f := by
  obtain ⟨a, len, cap, rfl⟩ := okWide_slice ht o
  obtain ⟨fuel, hf⟩ := h
  rcases open_slice ht hf with ⟨hcs, _⟩ | ⟨x, len', c, m, n, D, Pl, hcs, _, hl, hm, hmm, _, hi⟩
  · simp [Value.cells] at hcs
    obtain ⟨rfl, rfl, rfl⟩ := hcs
    exact ⟨none, 0, 0, fun _ _ => 0, rfl, Nat.le_refl _, by simp [maxLen], fun i hi => by omega, fun _ _ => by omega⟩
  · simp [Value.cells] at hcs
    obtain ⟨rfl, rfl, rfl⟩ := hcs
    simp only [if_true] at hmm
    subst hmm
    have key : ∀ i j, ∃ z : Int, (-9223372036854775808 ≤ z ∧ z ≤ 9223372036854775807) ∧ (i < len → j < fs.size → W.cell? (x.add (i * fs.size + j)) = some (.int .i64 z)) := by
      intro i j
      by_cases h : i < len ∧ j < fs.size
      · obtain ⟨row, hrow, htr⟩ := hi i (by omega)
        rw [hC] at hrow
        obtain ⟨_, hlen, hat⟩ := World.cells?_some hrow
        obtain ⟨xs, k, _, _, _, hxs, hfld⟩ := DataW.trod_struct he htr
        have hfj := Array.getElem?_eq_getElem h.2
        obtain ⟨e1, e2⟩ := hone_of hone j _ hfj
        have hz := hfld j _ hfj
        rw [e1, e2, List.getElem?_eq_getElem (show j < xs.length by omega)] at hz
        have hone1 : (row.drop j).take 1 = [row[j]'(by omega)] := by rw [List.drop_eq_getElem_cons (by omega)]; rfl
        rw [hone1] at hz
        obtain ⟨z, hz1, _, hw⟩ := DataW.trod_int (by have := Array.all_eq_true.1 hint j h.2; simp only [beq_iff_eq] at this; rw [this]; exact hI) hz
        simp at hz1
        refine ⟨z, by simpa [Lit.wf, IntKind.min, IntKind.max, IntKind.signed, IntKind.bits] using hw, fun _ _ => ?_⟩
        rw [← Go.Deep.add_add, hat j h.2, List.getElem?_eq_getElem (by omega), hz1]
      · exact ⟨0, by omega, fun h1 h2 => absurd ⟨h1, h2⟩ h⟩
    obtain ⟨f, hfw, hfc⟩ : ∃ f : Nat → Nat → Int, (∀ i j, -9223372036854775808 ≤ f i j ∧ f i j ≤ 9223372036854775807) ∧ ∀ i j, i < len → j < fs.size → W.cell? (x.add (i * fs.size + j)) = some (.int .i64 (f i j)) :=
      ⟨fun i j => (key i j).choose, fun i j => (key i j).choose_spec.1, fun i j => (key i j).choose_spec.2⟩
    refine ⟨some x, len, m, f, rfl, hl, hm, fun i hin => ?_, hfw⟩
    obtain ⟨b, off, spot⟩ := x
    have hspot : spot = none := by
      have h0 := hfc 0 0 (by omega) hp
      simpa [Addr.add] using World.cell?_spot h0
    subst hspot
    refine ⟨b, off, rfl, fun j hj => ?_⟩
    have := hfc i j hin hj
    rw [addr_add] at this
    exact this
end Go.Proofs.YtlidbkofjchnnaaDoor

namespace Go.Proofs.YtlidbkofjchnnaaDoor
open Go.RowKit
set_option linter.unusedVariables false
set_option linter.unusedSimpArgs false

theorem word_any (n : Nat) (hn : n < 9223372036854775808) (w : World) : Calls Tryd.prog 44 #[.int .i64 n] w fun e w' => e = .returned (.int .i64 (spotOf (n / 8) : Nat)) ∧ w = w' := by
  obtain ⟨q, hq⟩ : ∃ q, q = n / 584 := ⟨_, rfl⟩
  obtain ⟨r, hr⟩ : ∃ r, r = n % 584 := ⟨_, rfl⟩
  obtain ⟨t, ht⟩ : ∃ t, t = r / 8 := ⟨_, rfl⟩
  have e1 : n / 8 / 73 = q := by omega
  have e2 : n / 8 % 73 = t := by omega
  have hq1 : (n : Int) / 584 = (q : Int) := by omega
  have hq2 : (n : Int).tdiv 584 = (q : Int) := by rw [Int.tdiv_eq_ediv_of_nonneg (by omega)]; exact hq1
  have hr1 : (n : Int) % 584 = (r : Int) := by omega
  have hr2 : (n : Int).tmod 584 = (r : Int) := by rw [Int.tmod_eq_emod_of_nonneg (by omega)]; exact hr1
  have ht1 : (r : Int) / 8 = (t : Int) := by omega
  have ht2 : (r : Int).tdiv 8 = (t : Int) := by rw [Int.tdiv_eq_ediv_of_nonneg (by omega)]; exact ht1
  have hqb : q ≤ 15793787390161602 := by omega
  have htb : t < 73 := by omega
  have hrb : r < 584 := by omega
  unfold spotOf
  rw [e1, e2]
  by_cases h1 : t < 64
  · obtain ⟨d, hd⟩ : ∃ d, d = t / 8 := ⟨_, rfl⟩
    have hd1 : (t : Int) / 8 = (d : Int) := by omega
    have hdb : d < 8 := by omega
    rw [if_pos h1, ← hd]
    clear hq hr ht e1 e2 hd
    go_enter Tryd.func44, Tryd.ntmps44
    go_wp2
    go_ret
    exact ⟨by simp, rfl⟩
  · rw [if_neg h1]
    by_cases h2 : t < 72
    · rw [if_pos h2]
      obtain ⟨d, rfl⟩ : ∃ d, t = 64 + d := ⟨t - 64, by omega⟩
      rw [show 64 + d - 64 = d by omega]
      clear hq hr ht e1 e2
      go_enter Tryd.func44, Tryd.ntmps44
      go_wp2
      go_ret
      exact ⟨by simp; omega, rfl⟩
    · rw [if_neg h2]
      clear hq hr ht e1 e2
      go_enter Tryd.func44, Tryd.ntmps44
      go_wp2
      go_ret
      exact ⟨by simp, rfl⟩
theorem word_neg (n : Int) (w : World) : Calls Tryd.prog 44 #[.int .i64 n] w fun e w' => (∃ v : Int, e = .returned (.int .i64 v)) ∧ w = w' := by
  go_enter Tryd.func44, Tryd.ntmps44
  go_wp2
  all_goals
    go_ret
    exact ⟨⟨_, rfl⟩, rfl⟩
end Go.Proofs.YtlidbkofjchnnaaDoor

namespace Go.Proofs.YtlidbkofjchnnaaDoor
set_option linter.unusedVariables false
set_option linter.unusedSimpArgs false
theorem bulk_one {H : Type} (d : DataW H) : 1 ≤ Rows.uptoBulk d := by
  cases d with
  | lit l => cases l <;> simp [Rows.uptoBulk]
  | _ => simp [Rows.uptoBulk]
theorem bulk_part {H : Type} {d : DataW H} {l : List (DataW H)} (h : d ∈ l) : Rows.uptoBulk d ≤ Rows.uptoBulkAll l := by
  induction l with
  | nil => cases h
  | cons x r ih =>
    simp only [Rows.uptoBulkAll]
    rcases List.mem_cons.1 h with rfl | h
    · omega
    · have := ih h; omega
theorem bulk_append {H : Type} (l r : List (DataW H)) : Rows.uptoBulkAll (l ++ r) = Rows.uptoBulkAll l + Rows.uptoBulkAll r := by
  induction l with
  | nil => simp [Rows.uptoBulkAll]
  | cons x l ih => simp only [List.cons_append, Rows.uptoBulkAll, ih]; omega
theorem bulk_length {H : Type} (l : List (DataW H)) : l.length ≤ Rows.uptoBulkAll l := by
  induction l with
  | nil => simp [Rows.uptoBulkAll]
  | cons x r ih => have := bulk_one x; simp only [Rows.uptoBulkAll, List.length_cons]; omega
theorem bulk_slice {H : Type} (elems spare : List (DataW H)) : elems.length + spare.length + 1 ≤ Rows.uptoBulk (.slice elems spare) := by
  have h1 := bulk_length elems
  have h2 := bulk_length spare
  simp only [Rows.uptoBulk]
  omega
theorem bulk_elems {H : Type} (elems spare : List (DataW H)) : Rows.uptoBulkAll elems + 1 ≤ Rows.uptoBulk (.slice elems spare) := by
  simp only [Rows.uptoBulk]; omega
theorem bulk_agg {H : Type} (parts : List (DataW H)) : Rows.uptoBulkAll parts + 1 ≤ Rows.uptoBulk (.agg parts) := by
  simp only [Rows.uptoBulk]; omega
theorem bulk_bound {H : Type} {l : List (DataW H)} (hk : Rows.uptoSmall H l = true) : Rows.uptoBulkAll l ≤ 1048576 := by
  have h := of_decide_eq_true hk
  exact h
end Go.Proofs.YtlidbkofjchnnaaDoor

namespace Go.Proofs.YtlidbkofjchnnaaDoor
open Go.ChangeShapes Go.WideShapes Go.ChangeAt Go.RowKit Go.Deep
set_option linter.unusedVariables false
set_option linter.unusedSimpArgs false

/-- An act. -/
structure Ac where
  op : Int
  bl : Int
  pg : Int
  fill : Nat
  A : Option Addr
  c : Nat
  l : List Nat
  one : Bool
  n : Int
abbrev Ac.cells (x : Ac) : List Value := [.int .i64 x.op, .int .i64 x.bl, .int .i64 x.pg, .int .u8 x.fill, .slice x.A x.l.length x.c, .bool x.one, .int .i64 x.n]
def R64 (n : Int) : Prop := -9223372036854775808 ≤ n ∧ n ≤ 9223372036854775807
/-- An act that came in. -/
structure AcW (w : World) (x : Ac) : Prop where
  op : R64 x.op
  bl : R64 x.bl
  pg : R64 x.pg
  n : R64 x.n
  fill : x.fill < 256
  small : ∀ u ∈ x.l, u < 256
  lies : Cells8 w x.A x.l
  cap : x.l.length ≤ x.c
theorem AcW.keep {w w' : World} {x : Ac} (h : AcW w x) (hk : ∀ p v, w.cell? p = some v → w'.cell? p = some v) : AcW w' x :=
  ⟨h.op, h.bl, h.pg, h.n, h.fill, h.small, fun i hi => by obtain ⟨b, off, e, hc⟩ := h.lies i hi; exact ⟨b, off, e, hk _ _ hc⟩, h.cap⟩
theorem AcW.lt {w : World} {x : Ac} (h : AcW w x) (h0 : 0 < x.l.length) : ∀ a, x.A = some a → a.block < w.heap.size := fun a e => by
  obtain ⟨b, off, e2, hc⟩ := h.lies 0 h0
  rw [e2] at e; injection e with e; subst e
  exact World.block_lt_of_cell? w _ hc
structure ActsP (w : World) (a : Option Addr) (xs : List Ac) : Prop where
  at0 : ∀ i x, xs[i]? = some x → (∃ b off, a = some ⟨b, off, none⟩ ∧ ∀ j u, x.cells[j]? = some u → w.cell? ⟨b, off + (i * 7 + j), none⟩ = some u) ∧ AcW w x
theorem ActsP.keep {w w' : World} {a : Option Addr} {xs : List Ac} (h : ActsP w a xs) (hk : ∀ p v, w.cell? p = some v → w'.cell? p = some v) : ActsP w' a xs :=
  ⟨fun i x hx => by obtain ⟨⟨b, off, e, hc⟩, hA⟩ := h.at0 i x hx; exact ⟨⟨b, off, e, fun j u hu => hk _ _ (hc j u hu)⟩, hA.keep hk⟩⟩
theorem rows_of {α : Type} {Q : Nat → α → Prop} (n : Nat) (h : ∀ i, i < n → ∃ x, Q i x) : ∃ xs : List α, xs.length = n ∧ ∀ i x, xs[i]? = some x → Q i x := by
  induction n with
  | zero => exact ⟨[], rfl, by simp⟩
  | succ n ih =>
    obtain ⟨xs, hl, hq⟩ := ih (fun i hi => h i (by omega))
    obtain ⟨x, hx⟩ := h n (by omega)
    refine ⟨xs ++ [x], by simp [hl], fun i y hy => ?_⟩
    rcases Nat.lt_or_ge i xs.length with hi | hi
    · rw [List.getElem?_append_left hi] at hy; exact hq i y hy
    · rw [List.getElem?_append_right hi] at hy
      have : i = n := by
        have := (List.getElem?_eq_some_iff.1 hy).1
        simp at this; omega
      subst this
      rw [hl, Nat.sub_self] at hy
      simp at hy; subst hy; exact hx
theorem add_zero_spot7 (a : Addr) (w : World) (v : Value) (h : w.cell? ((a.add (0 * 7)).add 0) = some v) : a.spot = none := by
  have := World.cell?_spot h
  simpa [Addr.add] using this
def sumA (xs : List Ac) : Nat := (xs.map fun x => x.l.length).sum
theorem sumA_take (xs : List Ac) (k : Nat) (x : Ac) (hx : xs[k]? = some x) : sumA (xs.take (k + 1)) = sumA (xs.take k) + x.l.length := by
  rw [List.take_add_one, hx]; simp [sumA]
theorem sumA_le (xs : List Ac) (k : Nat) : sumA (xs.take k) ≤ sumA xs := by
  conv => rhs; rw [← List.take_append_drop k xs]
  simp only [sumA, List.map_append, List.sum_append]; omega
section
variable {H : Type} {enc : TypeId × Value → H} {W : World}
set_option maxRecDepth 100000 in
theorem bytes_trod {fuel : Nat} {cs : List Value} {x : DataW H × List MemPlace} (h : DataW.trod enc Tryd.prog W 0 (fun _ => true) true fuel 46 cs = some x) :
    ∃ (a : Option Addr) (l : List Nat) (cap : Nat), cs = [.slice a l.length cap] ∧ l.length ≤ cap ∧ cap ≤ maxLen ∧ (∀ x ∈ l, x < 256) ∧ Cells8 W a l ∧ l.length ≤ Rows.uptoBulk x.1 := by
  rcases open_ints Tryd.underlying46 Tryd.underlying5 (by kernel_rfl) h with ⟨rfl, rfl⟩ | ⟨ad, len, cap, zs, rfl, _, hl, hm, hz, rfl, hcell, hwz⟩
  · exact ⟨none, [], 0, rfl, Nat.le_refl _, by simp [maxLen], by simp, Cells8.nil, by simp⟩
  · have hzl : zs.length = cap := by simpa using hz
    have hlen : ((zs.take len).map Int.toNat).length = len := by simp; omega
    have hw : ∀ z ∈ zs, 0 ≤ z ∧ z ≤ 255 := by
      intro z hzm
      have := hwz z hzm
      simpa [Lit.wf, IntKind.min, IntKind.max, IntKind.signed, IntKind.bits] using this
    refine ⟨some ad, (zs.take len).map Int.toNat, cap, by rw [hlen], by omega, hm, ?_, ?_, ?_⟩
    · intro y hy
      rw [List.mem_map] at hy
      obtain ⟨z, hz1, rfl⟩ := hy
      have := hw z (List.mem_of_mem_take hz1)
      omega
    · intro i hi
      rw [hlen] at hi
      obtain ⟨b, off, spot⟩ := ad
      have hc := hcell i (by omega)
      have hspot : spot = none := by
        have h0 := hcell 0 (by omega)
        simpa [Addr.add] using World.cell?_spot h0
      subst hspot
      refine ⟨b, off, rfl, ?_⟩
      rw [addr_add] at hc
      rw [hc]
      have h0 : 0 ≤ zs.getD i 0 := by
        have : zs.getD i 0 ∈ zs := by simp [List.getD, show i < zs.length by omega]
        exact (hw _ this).1
      have : ((zs.take len).map Int.toNat).getD i 0 = (zs.getD i 0).toNat := by
        simp [List.getD, List.getElem?_take, hi]
        rw [List.getElem?_eq_getElem (show i < zs.length by omega)]
        simp
      rw [this, Int.toNat_of_nonneg h0]
    · rw [hlen]
      have := bulk_slice (lits .u8 (zs.take len) : List (DataW H)) (lits .u8 (zs.drop len))
      have e1 : (lits .u8 (zs.take len) : List (DataW H)).length = len := by simp [lits]; omega
      rw [e1] at this
      simp only at this ⊢
      omega
set_option maxRecDepth 100000 in
theorem act_trod {fuel : Nat} {cs : List Value} {x : DataW H × List MemPlace} (h : DataW.trod enc Tryd.prog W 0 (fun _ => true) true fuel 68 cs = some x) :
    ∃ y : Ac, cs = y.cells ∧ AcW W y ∧ y.l.length + 1 ≤ Rows.uptoBulk x.1 := by
  obtain ⟨xs, n, rfl, rfl, hcl, hxl, hf⟩ := DataW.trod_struct Tryd.underlying68 h
  have hc7 : Tryd.prog.cellsOf 68 = 7 := by kernel_rfl
  have hci : Tryd.prog.cellsOf 3 = 1 := by kernel_rfl
  have hcu : Tryd.prog.cellsOf 5 = 1 := by kernel_rfl
  have hcs : Tryd.prog.cellsOf 46 = 1 := by kernel_rfl
  have hcb : Tryd.prog.cellsOf 4 = 1 := by kernel_rfl
  rw [hc7] at hcl
  obtain ⟨c0, c1, c2, c3, c4, c5, c6, rfl⟩ : ∃ c0 c1 c2 c3 c4 c5 c6, cs = [c0, c1, c2, c3, c4, c5, c6] := by
    match cs, hcl with | [a, b, c, d, e, f, g], _ => exact ⟨a, b, c, d, e, f, g, rfl⟩
  obtain ⟨x0, x1, x2, x3, x4, x5, x6, rfl⟩ : ∃ x0 x1 x2 x3 x4 x5 x6, xs = [x0, x1, x2, x3, x4, x5, x6] := by
    have : xs.length = 7 := by simpa using hxl
    match xs, this with | [a, b, c, d, e, f, g], _ => exact ⟨a, b, c, d, e, f, g, rfl⟩
  have f0 := hf 0 _ rfl
  have f1 := hf 1 _ rfl
  have f2 := hf 2 _ rfl
  have f3 := hf 3 _ rfl
  have f4 := hf 4 _ rfl
  have f5 := hf 5 _ rfl
  have f6 := hf 6 _ rfl
  simp [hci, hcu, hcs, hcb] at f0 f1 f2 f3 f4 f5 f6
  obtain ⟨z0, e0, _, w0⟩ := DataW.trod_int Tryd.underlying3 f0
  obtain ⟨z1, e1, _, w1⟩ := DataW.trod_int Tryd.underlying3 f1
  obtain ⟨z2, e2, _, w2⟩ := DataW.trod_int Tryd.underlying3 f2
  obtain ⟨z3, e3, _, w3⟩ := DataW.trod_int Tryd.underlying5 f3
  obtain ⟨a, l, cap, e4, hcap, _, h256, hlies, hblk⟩ := bytes_trod f4
  obtain ⟨z5, e5, _⟩ := DataW.trod_bool Tryd.underlying4 f5
  obtain ⟨z6, e6, _, w6⟩ := DataW.trod_int Tryd.underlying3 f6
  simp at e0 e1 e2 e3 e4 e5 e6
  subst e0 e1 e2 e3 e4 e5 e6
  simp [Lit.wf, IntKind.min, IntKind.max, IntKind.signed, IntKind.bits] at w0 w1 w2 w3 w6
  obtain ⟨f, rfl⟩ := Int.eq_ofNat_of_zero_le w3.1
  refine ⟨⟨z0, z1, z2, f, a, cap, l, z5, z6⟩, rfl, ⟨w0, w1, w2, w6, by show f < 256; omega, h256, hlies, hcap⟩, ?_⟩
  have h1 := bulk_part (H := H) (d := x4.1) (l := [x0.1, x1.1, x2.1, x3.1, x4.1, x5.1, x6.1]) (by simp)
  have h2 := bulk_agg [x0.1, x1.1, x2.1, x3.1, x4.1, x5.1, x6.1]
  simp only [List.map_cons, List.map_nil] at *
  omega
theorem sum_bulk (D : Nat → DataW H) (xs : List Ac) (h : ∀ i x, xs[i]? = some x → x.l.length + 1 ≤ Rows.uptoBulk (D i)) : ∀ k, k ≤ xs.length → sumA (xs.take k) + k ≤ Rows.uptoBulkAll ((List.range k).map D)
  | 0, _ => by simp [sumA]
  | k + 1, hk => by
    have h1 := sum_bulk D xs h k (by omega)
    obtain ⟨x, hx⟩ : ∃ x, xs[k]? = some x := ⟨_, List.getElem?_eq_getElem (by omega)⟩
    have h2 := h k x hx
    rw [sumA_take xs k x hx, List.range_succ, List.map_append, bulk_append]
    simp only [List.map_cons, List.map_nil, Rows.uptoBulkAll]
    omega
set_option maxRecDepth 100000 in
theorem acts_view_p {base : Nat} {v : Value} {d : DataW H} {p : List MemPlace}
    (o : Value.okWide Tryd.prog W .any base 64 v) (h : DataW.Trod enc Tryd.prog W 0 (fun _ => true) true 64 v d p) :
    ∃ (a : Option Addr) (cap : Nat) (xs : List Ac), v = .slice a xs.length cap ∧ xs.length ≤ cap ∧ ActsP W a xs ∧ sumA xs + xs.length ≤ Rows.uptoBulk d := by
  obtain ⟨a, len, cap, rfl⟩ := okWide_slice Tryd.underlying64 o
  obtain ⟨fuel, hf⟩ := h
  rcases open_slice Tryd.underlying64 hf with ⟨hcs, e⟩ | ⟨x, len', c, m, n, D, Pl, hcs, _, hl, hm, hmm, e, hi⟩
  · simp [Value.cells] at hcs
    obtain ⟨rfl, rfl, rfl⟩ := hcs
    exact ⟨none, 0, [], rfl, Nat.le_refl _, ⟨by simp⟩, by simp [sumA]⟩
  · simp [Value.cells] at hcs
    obtain ⟨rfl, rfl, rfl⟩ := hcs
    simp only [if_true] at hmm
    subst hmm
    have hc7 : Tryd.prog.cellsOf 68 = 7 := by kernel_rfl
    rw [hc7] at hi
    simp only [Prod.mk.injEq] at e
    obtain ⟨rfl, _⟩ := e
    obtain ⟨xs, hlen, hits⟩ := rows_of (Q := fun i y => ((∃ b off, some x = some ⟨b, off, none⟩ ∧ ∀ j u, (y : Ac).cells[j]? = some u → W.cell? ⟨b, off + (i * 7 + j), none⟩ = some u) ∧ AcW W y) ∧ y.l.length + 1 ≤ Rows.uptoBulk (D i)) len (fun i hin => by
      obtain ⟨row, hrow, htr⟩ := hi i (by omega)
      obtain ⟨_, hlen, hat⟩ := World.cells?_some hrow
      obtain ⟨y, rfl, hA, hw⟩ := act_trod htr
      refine ⟨y, ⟨?_, hA⟩, hw⟩
      obtain ⟨b, off, spot⟩ := x
      have hspot : spot = none := by
        obtain ⟨row0, hrow0, htr0⟩ := hi 0 (by omega)
        obtain ⟨_, hlen0, hat0⟩ := World.cells?_some hrow0
        exact add_zero_spot7 ⟨b, off, spot⟩ W _ ((hat0 0 (by omega)).trans (List.getElem?_eq_getElem (by omega)))
      subst hspot
      refine ⟨b, off, rfl, fun j u hu => ?_⟩
      have hj : j < y.cells.length := by
        rcases Nat.lt_or_ge j y.cells.length with h1 | h1
        · exact h1
        · rw [List.getElem?_eq_none h1] at hu; cases hu
      have := hat j (by simpa using hj)
      rw [addr_add, addr_add, hu, Nat.add_assoc] at this
      exact this)
    refine ⟨some x, m, xs, by rw [hlen], by omega, ⟨fun i y hy => (hits i y hy).1⟩, ?_⟩
    have h1 := sum_bulk D xs (fun i x hx => (hits i x hx).2) xs.length (Nat.le_refl _)
    rw [List.take_length, hlen] at h1
    have h2 := bulk_elems ((List.range len).map D) ((List.range (m - len)).map fun j => D (len + j))
    rw [hlen]
    show sumA xs + len ≤ Rows.uptoBulk (DataW.slice ((List.range len).map D) ((List.range (m - len)).map fun j => D (len + j)))
    omega
end
end Go.Proofs.YtlidbkofjchnnaaDoor

namespace Go.Proofs.YtlidbkofjchnnaaDoor
open Go.RowKit
set_option linter.unusedVariables false
set_option linter.unusedSimpArgs false

def fewB (xs : List Ac) : Bool := decide (xs.length ≤ 150) && decide (sumA xs ≤ 16384)
set_option maxHeartbeats 1000000 in
theorem few_any (a : Option Addr) (cap : Nat) (xs : List Ac) (hn : xs.length ≤ 1048576) (hs : sumA xs ≤ 1048576) (w : World) (hW : ActsP w a xs) :
    Calls Tryd.prog 22 #[.slice a xs.length cap] w fun e w' => e = .returned (.bool (fewB xs)) ∧ w = w' := by
  obtain ⟨n, hnn⟩ : ∃ n, n = xs.length := ⟨_, rfl⟩
  have HN := Lib.hid hnn
  have HW := Lib.hid hW
  have HS := Lib.hid hs
  rw [← hnn] at hn ⊢
  clear hnn hW hs
  go_enter Tryd.func22, Tryd.ntmps22
  go_wp2
  go_loop [3, 4] (fun s i => ∃ k : Nat, k ≤ n ∧ i = .int .i64 k ∧ s = .int .i64 (sumA (xs.take k) : Nat)) (fun _ i => n - (intOf i).toNat)
  case atStart => exact ⟨0, by omega, rfl, by simp [sumA]⟩
  case round =>
    obtain ⟨k, hk, rfl, rfl⟩ := hrel
    by_cases hlt : k < n
    · obtain ⟨x, hx⟩ : ∃ x, xs[k]? = some x := ⟨_, List.getElem?_eq_getElem (by rw [← HN.out]; exact hlt)⟩
      obtain ⟨⟨b, off, e1, hc⟩, _⟩ := HW.out.at0 k x hx
      subst e1
      have c4 := hc 4 _ rfl
      rw [← Nat.add_assoc] at c4
      have HT := Lib.hid (sumA_take xs k x hx)
      have hle : sumA (xs.take k) + x.l.length ≤ 1048576 := by have := sumA_le xs (k + 1); have := HT.out; have := HS.out; omega
      obtain ⟨q, hq⟩ : ∃ q, q = sumA (xs.take k) := ⟨_, rfl⟩
      have HQ := Lib.hid hq
      obtain ⟨m, hm⟩ : ∃ m, m = x.l.length := ⟨_, rfl⟩
      have HM := Lib.hid hm
      rw [← hq, ← hm] at hle
      rw [← hm] at c4
      rw [← hq]
      have hwq : IntKind.i64.wrap ((q : Int) + (m : Int)) = (q : Int) + (m : Int) := by rw [IntKind.wrap_i64]; omega
      clear hx hc hq hm
      go_wp2
      go_round
      case rel => exact ⟨k + 1, by omega, by go_num, by rw [HT.out, ← HQ.out, ← HM.out]; go_num⟩
      case measure => simp [intOf]; omega
    · obtain rfl : k = n := by omega
      have hall : xs.take k = xs := by rw [HN.out]; exact List.take_length
      rw [hall]
      obtain ⟨q, hq⟩ : ∃ q, q = sumA xs := ⟨_, rfl⟩
      have HQ := Lib.hid hq
      have HF : Hid (fewB xs = (decide ((k : Int) ≤ 150) && decide ((q : Int) ≤ 16384))) := by
        unfold Hid fewB
        rw [← HN.out, ← HQ.out]
        congr 1
        · exact decide_eq_decide.2 (by omega)
        · exact decide_eq_decide.2 (by omega)
      rw [← hq]
      clear hq hall
      cases h1 : decide ((k : Int) ≤ 150) with
      | false =>
        rw [h1] at HF
        go_wp2
        go_ret
        exact ⟨by rw [HF.out]; rfl, rfl⟩
      | true =>
        rw [h1] at HF
        go_wp2
        go_ret
        exact ⟨by rw [HF.out]; rfl, rfl⟩
/-- What an act writes. -/
def Ac.data (x : Ac) (n : Nat) : List Nat := if 0 < x.l.length then x.l else (List.range n).map fun i => (x.fill + i * 3) % 256
def rowD (f n i : Nat) : List Nat := (List.range n).map fun k => if k < i then (f + k * 3) % 256 else 0
theorem rowD_length (f n i : Nat) : (rowD f n i).length = n := by simp [rowD]
theorem rowD_zero (f n : Nat) : rowD f n 0 = List.replicate n 0 := by
  unfold rowD
  apply List.ext_getElem?
  intro j
  by_cases h : j < n
  · simp [List.getElem?_replicate, h]
  · simp [List.getElem?_replicate, h]
theorem rowD_step (f n i : Nat) (h : i < n) : (rowD f n i).set i ((f + i * 3) % 256) = rowD f n (i + 1) := by
  unfold rowD
  apply List.ext_getElem?
  intro j
  rw [List.getElem?_set]
  by_cases e : i = j
  · subst e
    simp [h]
  · rw [if_neg e]
    by_cases hj : j < n
    · simp only [List.getElem?_map, List.getElem?_range hj, Option.map_some]
      congr 1
      by_cases h1 : j < i
      · rw [if_pos h1, if_pos (by omega)]
      · rw [if_neg h1, if_neg (by omega)]
    · simp [List.getElem?_eq_none (show (List.range n).length ≤ j by simp; omega)]
theorem rowD_all (f n : Nat) : rowD f n n = (List.range n).map fun i => (f + i * 3) % 256 := by
  unfold rowD
  apply List.map_congr_left
  intro i hi
  rw [if_pos (List.mem_range.1 hi)]
/-- A value of act's type. -/
abbrev Ac.val (x : Ac) : Value := .agg x.cells.toArray
theorem data_some (x : Ac) (W : Nat) (h0 : 0 < x.l.length) (w : World) : Calls Tryd.prog 58 #[.pointer (some ⟨W, 0, none⟩), x.val] w fun e w' => e = .returned (.slice x.A x.l.length x.c) ∧ Below w.heap.size w w' := by
  obtain ⟨op, bl, pg, fill, A, c, l, one, n⟩ := x
  simp only [Ac.val, Ac.cells] at h0 ⊢
  generalize l.length = m at *
  go_enter Tryd.func58, Tryd.ntmps58
  go_wp2
  go_ret
  exact ⟨rfl, (Below.refl _ _).alloc (Nat.le_refl _) _⟩
set_option maxRecDepth 100000 in
set_option maxHeartbeats 1000000 in
theorem data_none (x : Ac) (W n : Nat) (h0 : x.l.length = 0) (hn : 1 ≤ n ∧ n ≤ 512) (hf : x.fill < 256) (w : World) (hc : w.cell? ⟨W, 2, none⟩ = some (.int .i64 n)) : Calls Tryd.prog 58 #[.pointer (some ⟨W, 0, none⟩), x.val] w fun e w' => ∃ g, e = .returned (.slice (some ⟨g, 0, none⟩) n n) ∧ Row w' g 5 (intsV .u8 (x.data n)).toArray ∧ w.heap.size ≤ g ∧ Below w.heap.size w w' := by
  obtain ⟨i1, ji, jz0, jz1, jz2⟩ := info_parts u8_info
  have hbk : Hid (i1.bytes * n ≤ 281474976710656) := by unfold Hid; rw [jz2]; omega
  have hlt := World.block_lt_of_cell? w _ hc
  have HD : Hid (x.data n = rowD x.fill n n) := by unfold Hid Ac.data; rw [if_neg (by omega), rowD_all]
  generalize x.data n = dd at *
  obtain ⟨op, bl, pg, fill, A, c, l, one, nn⟩ := x
  simp only [Ac.val, Ac.cells] at h0 hf HD ⊢
  rw [h0]
  have HW := Lib.hid hlt
  clear h0 jz2
  go_enter Tryd.func58, Tryd.ntmps58
  have c3 : (w.alloc (.cells #[.int .i64 op, .int .i64 bl, .int .i64 pg, .int .u8 fill, .slice A 0 c, .bool one, .int .i64 nn] 68)).cell? ⟨W, 2, none⟩ = some (.int .i64 n) := (World.cell?_alloc_lt _ _ _ hlt).trans hc
  go_wp2_with (with_reducible refine wpList_make_row _ (o := ⟨some 17, .makeSlice 46 (.tmp 16) (.tmp 16), _, _, _, _⟩) rfl (.tmp 16) (.tmp 16) 46 rfl 5 i1 _ Tryd.underlying46 ji jz0 jz1 rfl .i64 .i64 n rfl rfl hbk.out (by omega) ?_)
  have HR0 : Hid (Row ((w.alloc (.cells #[.int .i64 op, .int .i64 bl, .int .i64 pg, .int .u8 fill, .slice A 0 c, .bool one, .int .i64 nn] 68)).alloc (.cells (madeCells #[.int .u8 0] n) 5)) (w.heap.size + 1) 5 (intsV .u8 (rowD fill n 0)).toArray) := by
    have := Row.fresh (w.alloc (.cells #[.int .i64 op, .int .i64 bl, .int .i64 pg, .int .u8 fill, .slice A 0 c, .bool one, .int .i64 nn] 68)) 5 (madeCells #[.int .u8 0] n)
    unfold Hid
    rw [rowD_zero, ← made_zero]
    simpa using this
  have HC0 : Hid (((w.alloc (.cells #[.int .i64 op, .int .i64 bl, .int .i64 pg, .int .u8 fill, .slice A 0 c, .bool one, .int .i64 nn] 68)).alloc (.cells (madeCells #[.int .u8 0] n) 5)).cell? ⟨w.heap.size, 3, none⟩ = some (.int .u8 fill)) :=
    (World.cell?_alloc_lt _ _ _ (by simp)).trans ((Row.fresh w 68 _).cell 3)
  have HB0 : Hid (Below w.heap.size w ((w.alloc (.cells #[.int .i64 op, .int .i64 bl, .int .i64 pg, .int .u8 fill, .slice A 0 c, .bool one, .int .i64 nn] 68)).alloc (.cells (madeCells #[.int .u8 0] n) 5))) := ((Below.refl _ _).alloc (Nat.le_refl _) _).alloc (by simp) _
  clear c3 hc hlt
  generalize ((w.alloc (.cells #[.int .i64 op, .int .i64 bl, .int .i64 pg, .int .u8 fill, .slice A 0 c, .bool one, .int .i64 nn] 68)).alloc (.cells (madeCells #[.int .u8 0] n) 5)) = wB at *
  have HG : Hid (w.heap.size + 1 ≠ w.heap.size ∧ w.heap.size ≤ w.heap.size + 1) := ⟨by omega, by omega⟩
  generalize w.heap.size + 1 = g at *
  generalize ha0 : w.heap.size = a0 at *
  have HA0 := Lib.hid ha0
  clear ha0
  go_loopw [6] (fun iv wr => ∃ i : Nat, iv = .int .i64 i ∧ i ≤ n ∧ Row wr g 5 (intsV .u8 (rowD fill n i)).toArray ∧ wr.cell? ⟨a0, 3, none⟩ = some (.int .u8 fill) ∧ Below a0 w wr) (fun i _ => n - (intOf i).toNat)
  case atStart => exact ⟨0, rfl, by omega, HR0.out, HC0.out, HB0.out⟩
  case round =>
    obtain ⟨i, rfl, hi, hr, hc3, hb⟩ := hrel
    have HR := Lib.hid hr
    have HC3 := Lib.hid hc3
    have HB := Lib.hid hb
    clear HR0 HC0 HB0
    by_cases hin : i < n
    · obtain ⟨v, hv⟩ := hr.some (i := i) (by simp [intsV, rowD_length]; exact hin)
      have hz := hr.frozen i
      have HPut : Hid (∀ z : Int, z = ((fill + i * 3) % 256 : Nat) → Row (wr.setCell ⟨g, i, none⟩ (.int .u8 z)) g 5 (intsV .u8 (rowD fill n (i + 1))).toArray ∧ (wr.setCell ⟨g, i, none⟩ (.int .u8 z)).cell? ⟨a0, 3, none⟩ = some (.int .u8 fill) ∧ Below a0 w (wr.setCell ⟨g, i, none⟩ (.int .u8 z))) := fun z hz2 => by
        subst hz2
        refine ⟨?_, ((Turns.refl wr [g]).setCell (p := ⟨g, i, none⟩) (by simp) _).cell hc3 (by simpa using Ne.symm HG.out.1), hb.setCell (p := ⟨g, i, none⟩) HG.out.2 _⟩
        rw [← rowD_step fill n i hin, intsV_set]
        have := hr.put i (.int .u8 ((fill + i * 3) % 256 : Nat))
        simpa using this
      clear hr hb
      go_wp2
      go_roundw
      case rel =>
        refine ⟨i + 1, by go_num, by omega, (HPut.out _ ?_).1, (HPut.out _ ?_).2.1, (HPut.out _ ?_).2.2⟩
        all_goals omega
      case measure => simp [intOf]; omega
    · obtain rfl : i = n := by omega
      clear hr hc3 hb
      go_wp2
      go_ret
      exact ⟨g, rfl, by rw [HD.out]; exact HR.out, by rw [HA0.out]; exact HG.out.2, by rw [HA0.out]; exact HB.out⟩
end Go.Proofs.YtlidbkofjchnnaaDoor

namespace Go.Proofs.YtlidbkofjchnnaaDoor
open Go.RowKit Go.MapKept Go.ChangeMaps
open Go.Maps (Keyed)
set_option linter.unusedVariables false
set_option linter.unusedSimpArgs false

/-- Block r of w goes over the map at b, which f tells; what it has told and what is still there is of K; cnt entries are still to come. -/
def SweepIs (P : Program) (k : TypeId) (w : World) (b r : Nat) (f : Value → Option Value) (K : Value → Prop) (cnt : Nat) : Prop :=
  ∃ es clock since seen c0, w.heap[b]? = some (.map es clock) ∧ Stamped es clock ∧ (∀ x ∈ es.toList, ∃ l, keyOf P k x.key = some l) ∧ (∀ key v, f key = some v ↔ ∃ x ∈ es.toList, x.key = key ∧ x.val = v) ∧
    w.heap[r]? = some (.mapIter (some b) since seen c0) ∧ (∀ x ∈ es.toList, x.born < since) ∧ (leftOf es seen).size = cnt ∧ since ≤ c0 ∧ since ≤ clock ∧ ∀ x ∈ es.toList, seen.contains x.born = true → K x.key
section
variable {P : Program} {k : TypeId} {w : World} {b r cnt : Nat} {f : Value → Option Value} {K : Value → Prop}
theorem SweepIs.isMap (h : SweepIs P k w b r f K cnt) : ∃ n, MapIs P k w b n f := by
  obtain ⟨es, clock, since, seen, c0, hb, hs, hk, hf, _⟩ := h
  exact ⟨_, es, clock, hb, hs, rfl, hk, hf⟩
theorem SweepIs.lt (h : SweepIs P k w b r f K cnt) : r < w.heap.size ∧ b < w.heap.size := by
  obtain ⟨es, clock, since, seen, c0, hb, hs, hk, hf, hr, _⟩ := h
  exact ⟨(Array.getElem?_eq_some_iff.1 hr).1, (Array.getElem?_eq_some_iff.1 hb).1⟩
theorem SweepIs.keep {w' : World} (h : SweepIs P k w b r f K cnt) (hb : w'.heap[b]? = w.heap[b]?) (hr : w'.heap[r]? = w.heap[r]?) : SweepIs P k w' b r f K cnt := by
  obtain ⟨es, clock, since, seen, c0, h1, hs, hk, hf, h2, rest⟩ := h
  exact ⟨es, clock, since, seen, c0, hb.trans h1, hs, hk, hf, hr.trans h2, rest⟩
theorem SweepIs.below {w' : World} (h : SweepIs P k w b r f K cnt) (hb : Below w.heap.size w w') : SweepIs P k w' b r f K cnt :=
  h.keep (hb.block b h.lt.2) (hb.block r h.lt.1)
theorem SweepIs.mono {K' : Value → Prop} (h : SweepIs P k w b r f K cnt) (hK : ∀ y v, f y = some v → K y → K' y) : SweepIs P k w b r f K' cnt := by
  obtain ⟨es, clock, since, seen, c0, h1, hs, hk, hf, h2, h3, h4, h5, h6, h7⟩ := h
  exact ⟨es, clock, since, seen, c0, h1, hs, hk, hf, h2, h3, h4, h5, h6, fun x hx hsn => hK _ _ ((hf x.key x.val).2 ⟨x, hx, rfl, rfl⟩) (h7 x hx hsn)⟩
theorem MapIs.sweep {n : Nat} {t e : TypeId} (h : MapIs P k w b n f) (ht : P.underlying t = some (.map k e)) :
    ∃ w', (Instr.range t (.map (some b))).run P w = .ok (.pointer (some ⟨w.heap.size, 0, none⟩)) w' ∧ SweepIs P k w' b w.heap.size f (fun _ => False) n ∧ Below w.heap.size w w' := by
  obtain ⟨es, clock, hb, hs, hn, hk, hf⟩ := h
  refine ⟨w.alloc (.mapIter (some b) clock #[] clock), ?_, ⟨es, clock, clock, #[], clock, ?_, hs, hk, hf, heap_alloc_new w _, ?_, ?_, Nat.le_refl _, Nat.le_refl _, ?_⟩, (Below.refl _ _).alloc (Nat.le_refl _) _⟩
  · simp [Instr.range, run_underlying ht, MapKept.run_getObj_map hb, Result.andThen]
  · exact (Below.heap_alloc w _ b (Array.getElem?_eq_some_iff.1 hb).1).trans hb
  · exact fun x hx => ((stamped_iff es clock).1 hs).1 x hx
  · rw [← hn]; simp [leftOf]
  · intro x _ h; simp at h
theorem left_none {es : Array MapEntry} {seen : Array Nat} (h : (leftOf es seen).size = 0) : ∀ x ∈ es.toList, seen.contains x.born = true := by
  intro x hx
  cases hc : seen.contains x.born with
  | true => rfl
  | false =>
    have : x ∈ (leftOf es seen).toList := by
      unfold leftOf
      have hx' : x ∈ es := by simpa using hx
      simp at hc
      simp [hx', hc]
    have h0 : (leftOf es seen).toList.length = 0 := by simpa using h
    rw [List.length_eq_zero_iff.1 h0] at this
    simp at this
theorem SweepIs.next (h : SweepIs P k w b r f K cnt) (ty : TypeId) :
    (cnt = 0 ∧ (Instr.next (.pointer (some ⟨r, 0, none⟩)) false ty).run P w = .ok (.tuple #[.bool false]) w ∧ ∀ key v, f key = some v → K key) ∨
    ∃ key v w' cnt', f key = some v ∧ (Instr.next (.pointer (some ⟨r, 0, none⟩)) false ty).run P w = .ok (.tuple #[.bool true, key, v]) w' ∧ SweepIs P k w' b r f (fun y => y = key ∨ K y) cnt' ∧ cnt' < cnt ∧ w.grownBy w' (some r) ∧
      (Instr.entry (.pointer (some ⟨r, 0, none⟩))).run P w' = .ok (.tuple #[key, v]) w' := by
  obtain ⟨es, clock, since, seen, c0, hb, hs, hk, hf, hr, hold, hcnt, hsc, hsk, hK⟩ := h
  have hne : r ≠ b := fun e => by rw [e, hb] at hr; cases hr
  rcases run_next_at (P := P) w ty r b since c0 seen es clock hr hb hold hsc with ⟨h0, hrun⟩ | ⟨e, he, w1, hal, hrun⟩
  · refine .inl ⟨by rw [← hcnt]; exact h0, hrun, fun key v hkv => ?_⟩
    obtain ⟨x, hx, rfl, _⟩ := (hf _ _).1 hkv
    exact hK x hx (left_none h0 x hx)
  · obtain ⟨hem, hes⟩ := mem_left he
    have hr1 : w1.heap[r]? = some (.mapIter (some b) since seen c0) := by rcases hal with rfl | rfl <;> exact hr
    have hb1 : w1.heap[b]? = some (.map es clock) := by rcases hal with rfl | rfl <;> exact hb
    have hset := heap_set (o' := .mapIter (some b) since (seen.push e.born) clock) hr1
    have hb' : (setBlock w1 r (.mapIter (some b) since (seen.push e.born) clock)).heap[b]? = some (.map es clock) := (hset.2 b (fun e1 => hne e1.symm)).trans hb1
    refine .inr ⟨e.key, e.val, _, _, (hf e.key e.val).2 ⟨e, hem, rfl, rfl⟩, hrun, ⟨es, clock, since, seen.push e.born, clock, hb', hs, hk, hf, hset.1, hold, rfl, hsk, hsk, fun x hx hsn => ?_⟩, by rw [← hcnt]; exact left_shrinks es seen e he, ?_,
      run_entry_at _ r b since seen es clock e hset.1 hb' hem ((stamped_iff es clock).1 hs).2.1⟩
    · by_cases hb2 : x.born = e.born
      · refine .inl ?_
        have hnd := ((stamped_iff es clock).1 hs).2.1
        obtain ⟨i, hi, ei⟩ := List.getElem_of_mem hx
        obtain ⟨j, hj, ej⟩ := List.getElem_of_mem hem
        have : i = j := by
          rcases Nat.lt_trichotomy i j with h | h | h
          · have := List.pairwise_iff_getElem.1 hnd i j (by simpa using hi) (by simpa using hj) h
            simp only [List.getElem_map] at this
            rw [ei, ej] at this; exact absurd hb2 this
          · exact h
          · have := List.pairwise_iff_getElem.1 hnd j i (by simpa using hj) (by simpa using hi) h
            simp only [List.getElem_map] at this
            rw [ei, ej] at this; exact absurd hb2.symm this
        subst this
        rw [← ei, ej]
      · refine .inr (hK x hx ?_)
        simp only [Array.contains_push, Bool.or_eq_true] at hsn
        rcases hsn with h | h
        · exact h
        · exact absurd (by simpa using h) hb2
    · rcases hal with rfl | rfl <;> exact ⟨rfl, rfl, rfl, by simp [setBlock], fun i _ hi => hset.2 i (fun e1 => hi (by rw [e1]))⟩
/-- A key that was told is deleted. -/
theorem SweepIs.delete (h : SweepIs P k w b r f K cnt) {t e ty : TypeId} (KK : Keyed P k) (ht : P.underlying t = some (.map k e)) {key : Value} {kl : Lit} (hkey : keyOf P k key = some kl) :
    ∃ w' cnt', (Builtin.delete_ #[t, k] ty #[.map (some b), key]).run P w = .ok (.tuple #[]) w' ∧ SweepIs P k w' b r (updK f key none) (fun y => K y ∧ y ≠ key) cnt' ∧ cnt' ≤ cnt ∧ w.grownBy w' (some b) := by
  obtain ⟨es, clock, since, seen, c0, hb, hs, hk, hf, hr, hold, hcnt, hsc, hsk, hK⟩ := h
  have hne : r ≠ b := fun e => by rw [e, hb] at hr; cases hr
  rcases MapIs.find KK hk hf hkey w with ⟨h0, h1, h2⟩ | ⟨j, e0, h0, h1, h2, h3⟩
  · refine ⟨setBlock w b (.map es clock), cnt, ?_, ⟨es, clock, since, seen, c0, heap_setBlock_same hb _, hs, hk, fun key' v => ?_, (heap_setBlock_other hb _ hne).trans hr, hold, hcnt, hsc, hsk, fun x hx hsn => ⟨hK x hx hsn, h2 x hx⟩⟩, Nat.le_refl _, grown_setBlock hb _⟩
    · simp [Builtin.delete_, run_underlying ht, MapKept.run_getObj_map hb, KK.check w _ hkey, h1, MapKept.run_setObj_map _ hb, Result.andThen, setBlock]
    · by_cases he : key' = key
      · subst he
        rw [updK_same]
        constructor
        · intro h; cases h
        · rintro ⟨x, hx, e1, _⟩; exact absurd e1 (h2 x hx)
      · rw [updK_ne _ _ _ he]; exact hf key' v
  · have hjl : j < es.toList.length := (List.getElem?_eq_some_iff.1 h2).1
    have hjs : j < es.size := by simpa using hjl
    have hsub : (es.eraseIdxIfInBounds j).toList = es.toList.eraseIdx j := by
      unfold Array.eraseIdxIfInBounds
      rw [dif_pos hjs]
      simp
    have hmem : ∀ x, x ∈ es.toList.eraseIdx j ↔ x ∈ es.toList ∧ x.key ≠ key := by
      intro x
      have hn' : es.toList.Pairwise (fun x y => x.key ≠ y.key) := ((stamped_iff es clock).1 hs).2.2
      obtain ⟨_, ej⟩ := List.getElem?_eq_some_iff.1 h2
      constructor
      · intro hx
        obtain ⟨i, hne, hi⟩ := List.mem_eraseIdx_iff_getElem?.1 hx
        obtain ⟨hi', ei⟩ := List.getElem?_eq_some_iff.1 hi
        refine ⟨List.mem_of_getElem? hi, ?_⟩
        rw [← h3, ← ei, ← ej]
        rcases Nat.lt_or_gt_of_ne hne with h | h
        · exact List.pairwise_iff_getElem.1 hn' i j hi' hjl h
        · exact (List.pairwise_iff_getElem.1 hn' j i hjl hi' h).symm
      · rintro ⟨hx, hne⟩
        obtain ⟨i, hi⟩ := List.mem_iff_getElem?.1 hx
        refine List.mem_eraseIdx_iff_getElem?.2 ⟨i, ?_, hi⟩
        rintro rfl
        rw [h2] at hi; injection hi with hi
        exact hne (by rw [← hi]; exact h3)
    refine ⟨setBlock w b (.map (es.eraseIdxIfInBounds j) clock), _, ?_, ⟨_, clock, since, seen, c0, heap_setBlock_same hb _, stamped_erase hs j, ?_, fun key' v => ?_, (heap_setBlock_other hb _ hne).trans hr, ?_, rfl, hsc, hsk, ?_⟩, ?_, grown_setBlock hb _⟩
    · simp [Builtin.delete_, run_underlying ht, MapKept.run_getObj_map hb, KK.check w _ hkey, h1, MapKept.run_setObj_map _ hb, Result.andThen, setBlock]
    · intro x hx
      rw [hsub, hmem] at hx
      exact hk x hx.1
    · rw [hsub]
      by_cases he : key' = key
      · subst he
        rw [updK_same]
        constructor
        · intro h; cases h
        · rintro ⟨x, hx, e1, _⟩
          exact absurd e1 ((hmem x).1 hx).2
      · rw [updK_ne _ _ _ he, hf]
        constructor
        · rintro ⟨x, hx, e1, e2⟩
          exact ⟨x, (hmem x).2 ⟨hx, by rw [e1]; exact he⟩, e1, e2⟩
        · rintro ⟨x, hx, e1, e2⟩
          exact ⟨x, ((hmem x).1 hx).1, e1, e2⟩
    · intro x hx
      rw [hsub, hmem] at hx
      exact hold x hx.1
    · intro x hx hsn
      rw [hsub, hmem] at hx
      exact ⟨hK x hx.1 hsn, hx.2⟩
    · rw [← hcnt]
      have e1 : ∀ a : Array MapEntry, (leftOf a seen).size = (a.toList.filter fun e => !seen.contains e.born).length := fun a => by
        unfold leftOf
        rw [← Array.length_toList, Array.toList_filter]
      rw [e1, e1, hsub]
      exact (List.Sublist.filter _ (List.eraseIdx_sublist _ _)).length_le
theorem SweepIs.left_eq (h : SweepIs P k w b r f K cnt) : w.rangeLeft b r = cnt := by
  obtain ⟨es, clock, since, seen, c0, h1, hs, hk, hf, h2, hold, hcnt, _⟩ := h
  unfold World.rangeLeft
  rw [h1, h2]; exact hcnt
variable {ops : Array Oper} {rest : List Oper} {o : Oper} {a : Act} {Q : Exit → Act → World → Prop}
/-- 'range m'. -/
theorem wpList_range_sweep (hg : o.guard = none) (m : Operand) (t : TypeId) (hop : o.op = Op.range t m) (k e : TypeId) (ht : P.underlying t = some (.map k e)) (b n : Nat) (f : Value → Option Value)
    (hm : a.eval m = .map (some b)) (h : MapIs P k w b n f)
    (hK : ∀ w', SweepIs P k w' b w.heap.size f (fun _ => False) n → Below w.heap.size w w' → wpList P ops Q rest (a.put o.dst (.pointer (some ⟨w.heap.size, 0, none⟩))) w') :
    wpList P ops Q (o :: rest) a w := by
  refine wpList_plain hg fun K' hK' => ?_
  obtain ⟨w', hrun, r1, r2⟩ := h.sweep ht
  unfold Oper.wp
  simp [execOp, hop, hm, hrun, Result.andThen]
  exact hK' _ _ (hK w' r1 r2)
/-- The step. -/
theorem wpList_next_sweep (hg : o.guard = none) (it : Operand) (hop : o.op = Op.next it false) (k : TypeId) (b r : Nat) (f : Value → Option Value) (K : Value → Prop) (cnt : Nat) (hit : a.eval it = .pointer (some ⟨r, 0, none⟩)) (h : SweepIs P k w b r f K cnt)
    (hDone : cnt = 0 → (∀ key v, f key = some v → K key) → wpList P ops Q rest (a.put o.dst (.tuple #[.bool false])) w)
    (hMore : ∀ (key v : Value) (w' : World) (cnt' : Nat), f key = some v → SweepIs P k w' b r f (fun y => y = key ∨ K y) cnt' → cnt' < cnt → w.grownBy w' (some r) →
      (Instr.entry (.pointer (some ⟨r, 0, none⟩))).run P w' = .ok (.tuple #[key, v]) w' → wpList P ops Q rest (a.put o.dst (.tuple #[.bool true, key, v])) w') :
    wpList P ops Q (o :: rest) a w := by
  refine wpList_plain hg fun K' hK' => ?_
  unfold Oper.wp
  rcases h.next o.type with ⟨h0, hrun, hall⟩ | ⟨key, v, w', cnt', hfk, hrun, hit', hlt, hgr, hen⟩
  · simp [execOp, hop, hit, hrun, Result.andThen]
    exact hK' _ _ (hDone h0 hall)
  · simp [execOp, hop, hit, hrun, Result.andThen]
    exact hK' _ _ (hMore key v w' cnt' hfk hit' hlt hgr hen)
end
end Go.Proofs.YtlidbkofjchnnaaDoor

namespace Go.Proofs.YtlidbkofjchnnaaDoor
open Go.RowKit Go.MapKept Go.ChangeMaps
open Go.Maps (Keyed)
set_option linter.unusedVariables false
set_option linter.unusedSimpArgs false

/-- What the law holds of a media: pages (none: it may be anything), what is half erased, has one page in two, is bad, fails; which words were turned. -/
structure Pm where
  b : Nat → List (Option (List Nat))
  half : Nat → Bool
  one : Nat → Bool
  bad : Nat → Bool
  fail : Nat → Bool
  tn : Nat → Nat → Nat → Bool
def spotV (k p s : Nat) : Value := .agg #[.int .i64 k, .int .i64 p, .int .i64 s]
/-- The words that were turned, as a map. -/
def TnIs (w : World) (g : Nat) (tn : Nat → Nat → Nat → Bool) : Prop :=
  ∃ n f, MapIs Tryd.prog 101 w g n f ∧ (∀ key v, f key = some v → ∃ k p s : Nat, key = spotV k p s ∧ v = .bool true ∧ tn k p s = true ∧ k < 1024 ∧ p < 1024 ∧ s < 1024) ∧ ∀ k p s : Nat, tn k p s = true → f (spotV k p s) = some (.bool true)
/-- A page's bytes; none: nil. Where they lie nothing is turned: they came in, or they are a row of bytes. -/
def PgV (w0 w : World) (v : Value) : Option (List Nat) → Prop
  | none => v = .slice none 0 0
  | some d => ∃ a c, v = .slice (some a) d.length c ∧ 0 < d.length ∧ Cells8 w (some a) d ∧ (a.block < w0.heap.size ∨ ∃ cs, Row w a.block 5 cs)
/-- A block's pages. -/
def PgsIs (w0 w : World) (v : Value) (l : List (Option (List Nat))) : Prop :=
  ∃ vs : List Value, w.ownsRow w0.heap.size 46 1 v l.length vs ∧ ∀ (p : Nat) (x : Option (List Nat)), l[p]? = some x → ∃ u, vs[p]? = some u ∧ PgV w0 w u x
def valsA (nb : Nat) (v : Nat → Value) : Array Value := ((List.range nb).map v).toArray
/-- The law's World in memory, beside its media. -/
structure PMem (w0 w : World) (W M F n pages nb : Nat) (g : Nat → Nat) (v : Nat → Value) (m : Pm) : Prop where
  row : Row w W 31 (wcells F M n pages nb g)
  b : Row w (g 5) 87 (valsA nb v)
  half : Row w (g 9) 4 (isA nb m.half)
  one : Row w (g 11) 4 (isA nb m.one)
  bad : Row w (g 13) 4 (isA nb m.bad)
  fail : Row w (g 15) 4 (isA nb m.fail)
  tn : TnIs w (g 16) m.tn
  pgs : ∀ k, k < nb → PgsIs w0 w (v k) (m.b k)
  apart : ∀ k k' x, k < nb → k' < nb → (v k).ownBlock = some x → (v k').ownBlock = some x → k = k'
  ne : g 9 ≠ g 11 ∧ g 9 ≠ g 13 ∧ g 9 ≠ g 15 ∧ g 11 ≠ g 13 ∧ g 11 ≠ g 15 ∧ g 13 ≠ g 15
  low : w0.heap.size ≤ W ∧ w0.heap.size ≤ g 5 ∧ w0.heap.size ≤ g 9 ∧ w0.heap.size ≤ g 11 ∧ w0.heap.size ≤ g 13 ∧ w0.heap.size ≤ g 15 ∧ w0.heap.size ≤ g 16
/-- The blocks that its own pages' lists lie in. -/
def ownB (nb : Nat) (v : Nat → Value) (x : Nat) : Prop := ∃ k, k < nb ∧ (v k).ownBlock = some x
section
variable {w0 w w' : World} {W M F n pages nb : Nat} {g : Nat → Nat} {v : Nat → Value} {m : Pm}
theorem PgV.turns {u : Value} {x : Option (List Nat)} {T : List Nat} (h : PgV w0 w u x) (ht : Turns w w' T) (hlow : ∀ t ∈ T, w0.heap.size ≤ t) (hb : ∀ t cs, Row w t 5 cs → t ∉ T) : PgV w0 w' u x := by
  cases x with
  | none => exact h
  | some d =>
    obtain ⟨a, c, e, h0, hc, hs⟩ := h
    have hn : a.block ∉ T := by
      rcases hs with hs | ⟨cs, hs⟩
      · exact fun hm => by have := hlow _ hm; omega
      · exact hb _ _ hs
    refine ⟨a, c, e, h0, hc.turns ht (fun a' ea => by injection ea with ea; subst ea; exact hn), hs.imp id (fun ⟨cs, hs⟩ => ⟨cs, ht.row hs hn⟩)⟩
theorem PgsIs.turns {u : Value} {l : List (Option (List Nat))} {T : List Nat} (h : PgsIs w0 w u l) (ht : Turns w w' T) (hlow : ∀ t ∈ T, w0.heap.size ≤ t) (hb : ∀ t cs, Row w t 5 cs → t ∉ T) (ho : ∀ x, u.ownBlock = some x → x ∉ T) : PgsIs w0 w' u l := by
  obtain ⟨vs, h1, h2⟩ := h
  exact ⟨vs, ht.own h1 ho, fun p x hx => by obtain ⟨y, hy, hp⟩ := h2 p x hx; exact ⟨y, hy, hp.turns ht hlow hb⟩⟩
theorem TnIs.turns {tn : Nat → Nat → Nat → Bool} {t : Nat} {T : List Nat} (h : TnIs w t tn) (ht : Turns w w' T) (hb : t ∉ T) : TnIs w' t tn := by
  obtain ⟨n, f, h1, h2⟩ := h
  exact ⟨n, f, h1.turns ht hb, h2⟩
theorem TnIs.not_row {tn : Nat → Nat → Nat → Bool} {t : Nat} (h : TnIs w t tn) (ty : TypeId) (cs : Array Value) : ¬ Row w t ty cs := by
  obtain ⟨n, f, ⟨es, clock, hb, _⟩, _⟩ := h
  intro hr
  unfold Row at hr
  rw [hr] at hb; cases hb
/-- Something else has turned. -/
theorem PMem.aside {T : List Nat} (h : PMem w0 w W M F n pages nb g v m) (ht : Turns w w' T) (hlow : ∀ t ∈ T, w0.heap.size ≤ t) (hb : ∀ t cs, Row w t 5 cs → t ∉ T) (hW : W ∉ T) (h5 : g 5 ∉ T) (h9 : g 9 ∉ T) (h11 : g 11 ∉ T) (h13 : g 13 ∉ T) (h15 : g 15 ∉ T) (h16 : g 16 ∉ T) (ho : ∀ x, ownB nb v x → x ∉ T) : PMem w0 w' W M F n pages nb g v m :=
  ⟨ht.row h.row hW, ht.row h.b h5, ht.row h.half h9, ht.row h.one h11, ht.row h.bad h13, ht.row h.fail h15, h.tn.turns ht h16, fun k hk => (h.pgs k hk).turns ht hlow hb (fun x hx => ho x ⟨k, hk, hx⟩), h.apart, h.ne, h.low⟩
theorem PgsIs.row {u : Value} {l : List (Option (List Nat))} (h : PgsIs w0 w u l) {x : Nat} (hx : u.ownBlock = some x) : w0.heap.size ≤ x ∧ x < w.heap.size ∧ ∃ cs, Row w x 46 cs := by
  obtain ⟨vs, h1, _⟩ := h
  refine ⟨(h1.lt x hx).1, (h1.lt x hx).2, ?_⟩
  rcases h1.2 with ⟨rfl, _⟩ | ⟨g, cap, cur, rfl, _, hr, _⟩
  · cases hx
  · injection hx with hx; subst hx; exact ⟨_, hr⟩
theorem PgsIs.shape {u : Value} {l : List (Option (List Nat))} (h : PgsIs w0 w u l) : ∃ A c, u = .slice A l.length c := by
  obtain ⟨vs, h1, _⟩ := h
  obtain ⟨A, c, e, _⟩ := own_shape h1
  exact ⟨A, c, e⟩
theorem PMem.own_row (h : PMem w0 w W M F n pages nb g v m) {x : Nat} (hx : ownB nb v x) : w0.heap.size ≤ x ∧ x < w.heap.size ∧ ∃ cs, Row w x 46 cs := by
  obtain ⟨k, hk, hx⟩ := hx
  exact (h.pgs k hk).row hx
def updB {α : Type} (f : Nat → α) (k : Nat) (b : α) : Nat → α := fun i => if i = k then b else f i
theorem updB_same {α : Type} (f : Nat → α) (k : Nat) (b : α) : updB f k b k = b := by simp [updB]
theorem updB_ne {α : Type} (f : Nat → α) {k i : Nat} (b : α) (h : i ≠ k) : updB f k b i = f i := by simp [updB, h]
theorem isA_put (nb : Nat) (f : Nat → Bool) (k : Nat) (h : k < nb) (b : Bool) : (isA nb f).setIfInBounds k (.bool b) = isA nb (updB f k b) := by
  apply Array.ext_getElem?
  intro i
  rw [Array.getElem?_setIfInBounds]
  by_cases hi : i < nb
  · rw [isA_get nb _ i hi, isA_get nb _ i hi]
    by_cases e : k = i
    · subst e; rw [if_pos rfl, if_pos (by rw [isA_size]; exact h), updB_same]
    · rw [if_neg e, updB_ne _ _ (Ne.symm e)]
  · have h1 : (isA nb f)[i]? = none := Array.getElem?_eq_none (by rw [isA_size]; omega)
    have h2 : (isA nb (updB f k b))[i]? = none := Array.getElem?_eq_none (by rw [isA_size]; omega)
    rw [h1, h2, if_neg (by omega)]
theorem valsA_get (nb : Nat) (v : Nat → Value) (k : Nat) (h : k < nb) : (valsA nb v)[k]? = some (v k) := by simp [valsA, h]
theorem valsA_put (nb : Nat) (v : Nat → Value) (k : Nat) (h : k < nb) (u : Value) : (valsA nb v).setIfInBounds k u = valsA nb (updB v k u) := by
  apply Array.ext_getElem?
  intro i
  rw [Array.getElem?_setIfInBounds]
  by_cases hi : i < nb
  · rw [valsA_get nb _ i hi, valsA_get nb _ i hi]
    by_cases e : k = i
    · subst e; rw [if_pos rfl, if_pos (by simpa [valsA] using h), updB_same]
    · rw [if_neg e, updB_ne _ _ (Ne.symm e)]
  · have h1 : (valsA nb v)[i]? = none := Array.getElem?_eq_none (by simp [valsA]; omega)
    have h2 : (valsA nb (updB v k u))[i]? = none := Array.getElem?_eq_none (by simp [valsA]; omega)
    rw [h1, h2, if_neg (by omega)]
/-- What the walk reads. -/
theorem PMem.cells (h : PMem w0 w W M F n pages nb g v m) : w.cell? ⟨W, 0, none⟩ = some (.pointer (some ⟨F, 0, none⟩)) ∧ w.cell? ⟨W, 1, none⟩ = some (.pointer (some ⟨M, 0, none⟩)) ∧ w.cell? ⟨W, 2, none⟩ = some (.int .i64 n) ∧ w.cell? ⟨W, 3, none⟩ = some (.int .i64 pages) ∧
    w.cell? ⟨W, 4, none⟩ = some (.slice (some ⟨g 5, 0, none⟩) nb nb) ∧ w.cell? ⟨W, 6, none⟩ = some (.slice (some ⟨g 9, 0, none⟩) nb nb) ∧ w.cell? ⟨W, 7, none⟩ = some (.slice (some ⟨g 11, 0, none⟩) nb nb) ∧ w.cell? ⟨W, 8, none⟩ = some (.slice (some ⟨g 13, 0, none⟩) nb nb) ∧
    w.cell? ⟨W, 9, none⟩ = some (.slice (some ⟨g 15, 0, none⟩) nb nb) ∧ w.cell? ⟨W, 10, none⟩ = some (.map (some (g 16))) :=
  ⟨h.row.cell 0, h.row.cell 1, h.row.cell 2, h.row.cell 3, h.row.cell 4, h.row.cell 6, h.row.cell 7, h.row.cell 8, h.row.cell 9, h.row.cell 10⟩
theorem PMem.at_k (h : PMem w0 w W M F n pages nb g v m) {k : Nat} (hk : k < nb) : w.cell? ⟨g 5, k, none⟩ = some (v k) ∧ w.cell? ⟨g 9, k, none⟩ = some (.bool (m.half k)) ∧ w.cell? ⟨g 11, k, none⟩ = some (.bool (m.one k)) ∧ w.cell? ⟨g 13, k, none⟩ = some (.bool (m.bad k)) ∧ w.cell? ⟨g 15, k, none⟩ = some (.bool (m.fail k)) :=
  ⟨(h.b.cell k).trans (valsA_get nb v k hk), (h.half.cell k).trans (isA_get nb _ k hk), (h.one.cell k).trans (isA_get nb _ k hk), (h.bad.cell k).trans (isA_get nb _ k hk), (h.fail.cell k).trans (isA_get nb _ k hk)⟩
theorem PMem.thaw (h : PMem w0 w W M F n pages nb g v m) (k : Nat) : w.frozen? ⟨g 5, k, none⟩ = false ∧ w.frozen? ⟨g 9, k, none⟩ = false ∧ w.frozen? ⟨g 11, k, none⟩ = false ∧ w.frozen? ⟨g 13, k, none⟩ = false ∧ w.frozen? ⟨g 15, k, none⟩ = false :=
  ⟨h.b.frozen k, h.half.frozen k, h.one.frozen k, h.bad.frozen k, h.fail.frozen k⟩
/-- One flag turned. -/
theorem PMem.flag (h : PMem w0 w W M F n pages nb g v m) {x : Nat} {cs : Array Value} (hx : Row w x 4 cs) (hlow : w0.heap.size ≤ x) (ht : Turns w w' [x]) (m' : Pm) (hb : m'.b = m.b) (htn : m'.tn = m.tn)
    (e9 : Row w' (g 9) 4 (isA nb m'.half)) (e11 : Row w' (g 11) 4 (isA nb m'.one)) (e13 : Row w' (g 13) 4 (isA nb m'.bad)) (e15 : Row w' (g 15) 4 (isA nb m'.fail)) : PMem w0 w' W M F n pages nb g v m' :=
  ⟨ht.row h.row (by simpa using Row.ne_type h.row hx (by decide)), ht.row h.b (by simpa using Row.ne_type h.b hx (by decide)), e9, e11, e13, e15, by rw [htn]; exact h.tn.turns ht (by simp; rintro rfl; exact h.tn.not_row _ _ hx),
    fun k hk => by
      rw [hb]
      exact (h.pgs k hk).turns ht (fun t ht => by simp at ht; subst ht; exact hlow) (fun t cs hr hm => by simp at hm; subst hm; exact Row.ne_type hr hx (by decide) rfl) (fun y hy hm => by
        simp at hm; subst hm
        obtain ⟨_, _, cs', hr⟩ := (h.pgs k hk).row hy
        exact Row.ne_type hr hx (by decide) rfl),
    h.apart, h.ne, h.low⟩
theorem PMem.put_half (h : PMem w0 w W M F n pages nb g v m) {k : Nat} (hk : k < nb) (b : Bool) : PMem w0 (w.setCell ⟨g 9, k, none⟩ (.bool b)) W M F n pages nb g v { m with half := updB m.half k b } := by
  have ht : Turns w (w.setCell ⟨g 9, k, none⟩ (.bool b)) [g 9] := (Turns.refl _ _).setCell (by simp) _
  have hl := h.low
  have hn := h.ne
  refine h.flag h.half (by omega) ht _ rfl rfl ?_ ?_ ?_ ?_
  · show Row _ _ _ (isA nb (updB m.half k b)); rw [← isA_put nb _ k hk]; exact h.half.put k (.bool b)
  · exact ht.row h.one (by simp; omega)
  · exact ht.row h.bad (by simp; omega)
  · exact ht.row h.fail (by simp; omega)
theorem PMem.put_one (h : PMem w0 w W M F n pages nb g v m) {k : Nat} (hk : k < nb) (b : Bool) : PMem w0 (w.setCell ⟨g 11, k, none⟩ (.bool b)) W M F n pages nb g v { m with one := updB m.one k b } := by
  have ht : Turns w (w.setCell ⟨g 11, k, none⟩ (.bool b)) [g 11] := (Turns.refl _ _).setCell (by simp) _
  have hl := h.low
  have hn := h.ne
  refine h.flag h.one (by omega) ht _ rfl rfl ?_ ?_ ?_ ?_
  · exact ht.row h.half (by simp; omega)
  · show Row _ _ _ (isA nb (updB m.one k b)); rw [← isA_put nb _ k hk]; exact h.one.put k (.bool b)
  · exact ht.row h.bad (by simp; omega)
  · exact ht.row h.fail (by simp; omega)
theorem PMem.put_bad (h : PMem w0 w W M F n pages nb g v m) {k : Nat} (hk : k < nb) (b : Bool) : PMem w0 (w.setCell ⟨g 13, k, none⟩ (.bool b)) W M F n pages nb g v { m with bad := updB m.bad k b } := by
  have ht : Turns w (w.setCell ⟨g 13, k, none⟩ (.bool b)) [g 13] := (Turns.refl _ _).setCell (by simp) _
  have hl := h.low
  have hn := h.ne
  refine h.flag h.bad (by omega) ht _ rfl rfl ?_ ?_ ?_ ?_
  · exact ht.row h.half (by simp; omega)
  · exact ht.row h.one (by simp; omega)
  · show Row _ _ _ (isA nb (updB m.bad k b)); rw [← isA_put nb _ k hk]; exact h.bad.put k (.bool b)
  · exact ht.row h.fail (by simp; omega)
theorem PMem.put_fail (h : PMem w0 w W M F n pages nb g v m) {k : Nat} (hk : k < nb) (b : Bool) : PMem w0 (w.setCell ⟨g 15, k, none⟩ (.bool b)) W M F n pages nb g v { m with fail := updB m.fail k b } := by
  have ht : Turns w (w.setCell ⟨g 15, k, none⟩ (.bool b)) [g 15] := (Turns.refl _ _).setCell (by simp) _
  have hl := h.low
  have hn := h.ne
  refine h.flag h.fail (by omega) ht _ rfl rfl ?_ ?_ ?_ ?_
  · exact ht.row h.half (by simp; omega)
  · exact ht.row h.one (by simp; omega)
  · exact ht.row h.bad (by simp; omega)
  · show Row _ _ _ (isA nb (updB m.fail k b)); rw [← isA_put nb _ k hk]; exact h.fail.put k (.bool b)
/-- A block's list of pages is another: its row may have been written behind its end. -/
theorem PMem.push (h : PMem w0 w W M F n pages nb g v m) {k : Nat} (hk : k < nb) {u : Value} {l : List (Option (List Nat))} {w1 : World} (hg : w.grownBy w1 (v k).ownBlock) (hat : ∀ x, u.ownBlock = some x → (v k).ownBlock = some x ∨ w.heap.size ≤ x) (hp : PgsIs w0 w1 u l) :
    PMem w0 (w1.setCell ⟨g 5, k, none⟩ u) W M F n pages nb g (updB v k u) { m with b := updB m.b k l } := by
  have ht1 : Turns w w1 (v k).ownBlock.toList := ⟨hg.os, hg.tape, hg.output, hg.size, fun i hi hn => hg.block i hi (fun e => hn (by rw [← e]; simp))⟩
  have hown : ∀ x ∈ (v k).ownBlock.toList, w0.heap.size ≤ x ∧ ∃ cs, Row w x 46 cs := fun x hx => by
    have := (h.pgs k hk).row (x := x) (by simpa using hx)
    exact ⟨this.1, this.2.2⟩
  have hnr : ∀ {t : Nat} {ty : TypeId} {cs : Array Value}, Row w t ty cs → ty ≠ 46 → t ∉ (v k).ownBlock.toList := fun hr hne hm => by
    obtain ⟨_, cs', hr'⟩ := hown _ hm
    exact Row.ne_type hr hr' hne rfl
  have ht2 : Turns w1 (w1.setCell ⟨g 5, k, none⟩ u) [g 5] := (Turns.refl _ _).setCell (by simp) _
  have hb1 : Row w1 (g 5) 87 (valsA nb v) := ht1.row h.b (hnr h.b (by decide))
  have hl := h.low
  have two : ∀ {t : Nat} {ty : TypeId} {cs : Array Value}, Row w t ty cs → ty ≠ 46 → ty ≠ 87 → Row (w1.setCell ⟨g 5, k, none⟩ u) t ty cs := fun hr h1 h2 => by
    have hr1 := ht1.row hr (hnr hr h1)
    exact ht2.row hr1 (by simpa using Row.ne_type hr1 hb1 h2)
  have hnb1 : ∀ t cs, Row w1 t 5 cs → t ∉ [g 5] := fun t cs hr hm => by simp at hm; subst hm; exact Row.ne_type hr hb1 (by decide) rfl
  have hlow2 : ∀ t ∈ [g 5], w0.heap.size ≤ t := fun t ht => by simp at ht; subst ht; omega
  refine ⟨two h.row (by decide) (by decide), ?_, two h.half (by decide) (by decide), two h.one (by decide) (by decide), two h.bad (by decide) (by decide), two h.fail (by decide) (by decide), ?_, ?_, ?_, h.ne, h.low⟩
  · rw [← valsA_put nb v k hk u]
    exact hb1.put k u
  · have h1 := h.tn.turns ht1 (fun hm => by obtain ⟨_, cs, hr⟩ := hown _ hm; exact h.tn.not_row _ _ hr)
    exact h1.turns ht2 (by simp; intro e; exact h1.not_row _ _ (e ▸ hb1))
  · intro i hi
    by_cases e : i = k
    · subst e
      rw [updB_same]
      show PgsIs w0 _ u (updB m.b i l i)
      rw [updB_same]
      exact hp.turns ht2 hlow2 hnb1 (fun x hx hm => by
        simp at hm; subst hm
        obtain ⟨_, _, cs, hr⟩ := hp.row hx
        exact Row.ne_type hr hb1 (by decide) rfl)
    · rw [updB_ne _ _ e]
      show PgsIs w0 _ (v i) (updB m.b k l i)
      rw [updB_ne _ _ e]
      have h1 := (h.pgs i hi).turns ht1 (fun t ht => (hown t ht).1) (fun t cs hr => hnr hr (by decide)) (fun x hx hm => e (h.apart i k x hi hk hx (by simpa using hm)))
      exact h1.turns ht2 hlow2 hnb1 (fun x hx hm => by
        simp at hm; subst hm
        obtain ⟨_, _, cs, hr⟩ := h1.row hx
        exact Row.ne_type hr hb1 (by decide) rfl)
  · have key : ∀ i x, i < nb → i ≠ k → (v i).ownBlock = some x → u.ownBlock ≠ some x := fun i x hi hik hx hu => by
      rcases hat x hu with h1 | h1
      · exact hik (h.apart i k x hi hk hx h1)
      · have := ((h.pgs i hi).row hx).2.1; omega
    intro i i' x hi hi' hx hx'
    by_cases e : i = k
    · by_cases e' : i' = k
      · rw [e, e']
      · subst e
        rw [updB_same] at hx
        rw [updB_ne _ _ e'] at hx'
        exact absurd hx (key i' x hi' e' hx')
    · by_cases e' : i' = k
      · subst e'
        rw [updB_same] at hx'
        rw [updB_ne _ _ e] at hx
        exact absurd hx' (key i x hi e hx)
      · rw [updB_ne _ _ e] at hx
        rw [updB_ne _ _ e'] at hx'
        exact h.apart i i' x hi hi' hx hx'
/-- The map of the words is another. -/
theorem PMem.put_tn (h : PMem w0 w W M F n pages nb g v m) {tn : Nat → Nat → Nat → Bool} (ht : Turns w w' [g 16]) (htn : TnIs w' (g 16) tn) : PMem w0 w' W M F n pages nb g v { m with tn := tn } := by
  have hnr : ∀ {t : Nat} {ty : TypeId} {cs : Array Value}, Row w t ty cs → t ∉ [g 16] := fun hr hm => by simp at hm; subst hm; exact h.tn.not_row _ _ hr
  refine ⟨ht.row h.row (hnr h.row), ht.row h.b (hnr h.b), ht.row h.half (hnr h.half), ht.row h.one (hnr h.one), ht.row h.bad (hnr h.bad), ht.row h.fail (hnr h.fail), htn, fun k hk => ?_, h.apart, h.ne, h.low⟩
  have hl := h.low
  exact (h.pgs k hk).turns ht (fun t ht => by simp at ht; subst ht; omega) (fun t cs hr => hnr hr) (fun x hx => by obtain ⟨_, _, cs, hr⟩ := (h.pgs k hk).row hx; exact hnr hr)
end
end Go.Proofs.YtlidbkofjchnnaaDoor
