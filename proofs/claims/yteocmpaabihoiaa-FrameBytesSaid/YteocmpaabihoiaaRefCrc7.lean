/- locketref1.remainder at seven bits, Seven: what they compute is crc.Seven's sum. -/
import Derived.Test.YteocmpaabihoiaaFrPlain
namespace Go.Proofs.Yteocmpaabihoiaa
open Go.RowKit
set_option linter.unusedVariables false
set_option linter.unusedSimpArgs false

/-- One bit more: c's bit number 7 - k comes in. -/
def rs (c k r : Nat) : Nat := (r * 2 % 128) ^^^ (if (r &&& 64 = 0) = (c / 2 ^ (7 - k) % 2 = 0) then 0 else 9)
def rr (c : Nat) : Nat → Nat → Nat
  | 0, r => r
  | k + 1, r => rs c k (rr c k r)
theorem rs_lt (c k r : Nat) : rs c k r < 128 := by
  unfold rs
  exact Nat.xor_lt_two_pow (n := 7) (by omega) (by split <;> omega)
theorem rr_lt (c k r : Nat) (h : r < 128) : rr c k r < 128 := by
  cases k with
  | zero => exact h
  | succ k => exact rs_lt _ _ _
theorem tb_and (a i : Nat) : a &&& 2 ^ i = 0 ↔ a.testBit i = false := by
  have h : ∀ j, (a &&& 2 ^ i).testBit j = (a.testBit j && decide (i = j)) := by
    intro j; rw [Nat.testBit_and, Nat.testBit_two_pow]
  constructor
  · intro e
    have := h i
    rw [e] at this
    simpa using this.symm
  · intro e
    apply Nat.eq_of_testBit_eq
    intro j
    rw [h]
    by_cases hij : i = j
    · subst hij; simp [e]
    · simp [hij]
theorem tb_div (a i : Nat) : a / 2 ^ i % 2 = 0 ↔ a.testBit i = false := by
  rw [Nat.testBit_eq_decide_div_mod_eq]; simp
theorem mul_mod_two_pow_tb (a i j : Nat) : (a * 2 ^ i % 256).testBit j = (decide (j < 8) && decide (i ≤ j) && a.testBit (j - i)) := by
  rw [show (256 : Nat) = 2 ^ 8 from rfl, Nat.testBit_mod_two_pow, ← Nat.shiftLeft_eq, Nat.testBit_shiftLeft, Bool.and_assoc]

theorem inv_step (c k r : Nat) (hk : k < 8) (hr : r < 128) : s7 ((r * 2) ^^^ (c * 2 ^ k % 256)) = (rs c k r * 2) ^^^ (c * 2 ^ (k + 1) % 256) := by
  rw [s7_form, xor_dbl]
  have e1 : c * 2 ^ k % 256 * 2 % 256 = c * 2 ^ (k + 1) % 256 := by rw [Nat.pow_succ, ← Nat.mul_assoc]; omega
  rw [e1]
  have htop : ((r * 2) ^^^ (c * 2 ^ k % 256)) &&& 128 = 0 ↔ ((r &&& 64 = 0) = (c / 2 ^ (7 - k) % 2 = 0)) := by
    rw [show (128 : Nat) = 2 ^ 7 from rfl, tb_and, show (64 : Nat) = 2 ^ 6 from rfl, tb_and, tb_div, Nat.testBit_xor, mul_mod_two_pow_tb]
    have e2 : (r * 2).testBit 7 = r.testBit 6 := by rw [show r * 2 = r * 2 ^ 1 from rfl, ← Nat.shiftLeft_eq, Nat.testBit_shiftLeft]; simp
    rw [e2]
    simp only [show (7 < 8) from by omega, show k ≤ 7 from by omega, decide_true, Bool.true_and]
    cases r.testBit 6 <;> cases c.testBit (7 - k) <;> simp
  have e3 : (rs c k r) * 2 = (r * 2 * 2 % 256) ^^^ (if (r &&& 64 = 0) = (c / 2 ^ (7 - k) % 2 = 0) then 0 else 18) := by
    unfold rs
    have hx : ∀ a b : Nat, a < 128 → b < 128 → (a ^^^ b) * 2 = (a * 2) ^^^ (b * 2) := by
      intro a b ha hb
      have h := xor_dbl a b
      have : a ^^^ b < 128 := Nat.xor_lt_two_pow (n := 7) ha hb
      rwa [Nat.mod_eq_of_lt (by omega), Nat.mod_eq_of_lt (by omega), Nat.mod_eq_of_lt (by omega)] at h
    rw [hx _ _ (by omega) (by split <;> omega)]
    congr 1
    · omega
    · split <;> rfl
  rw [e3]
  by_cases h : ((r * 2) ^^^ (c * 2 ^ k % 256)) &&& 128 = 0
  · rw [if_pos h, if_pos (htop.1 h)]; simp
  · rw [if_neg h, if_neg (fun e => h (htop.2 e))]
    rw [Nat.xor_assoc, Nat.xor_assoc, Nat.xor_comm (c * 2 ^ (k + 1) % 256)]
theorem inv_all (c r : Nat) (hc : c < 256) (hr : r < 128) (k : Nat) (hk : k ≤ 8) : r7 k ((r * 2 % 256) ^^^ c) = (rr c k r * 2) ^^^ (c * 2 ^ k % 256) := by
  induction k with
  | zero => simp only [r7, rr, Nat.pow_zero, Nat.mul_one]; rw [Nat.mod_eq_of_lt (by omega), Nat.mod_eq_of_lt hc]
  | succ k ih =>
    rw [r7, ih (by omega), rr]
    exact inv_step c k _ (by omega) (rr_lt c k r hr)
theorem rr_c7 (c r : Nat) (hc : c < 256) (hr : r < 128) : rr c 8 r = c7 r c := by
  have h := inv_all c r hc hr 8 (by omega)
  unfold c7
  rw [h, show c * 2 ^ 8 % 256 = 0 by omega, Nat.xor_zero]; omega

theorem u32_bit (a m : Nat) (ha : a < 4294967296) (hm : m < 4294967296) : bits .and .u32 (a : Int) (m : Int) = ((a &&& m : Nat) : Int) := u32_and_nat a m ha hm

set_option maxHeartbeats 1000000 in
theorem remainder_any (a : Option Addr) (l : List Nat) (len cap : Nat) (hlen : len = l.length) (hl : l.length ≤ maxLen) (h8 : ∀ x ∈ l, x < 256) (w : World) (hc : Cells8 w a l) :
    Calls Try.prog 35 #[.slice a len cap, .int .i64 7, .int .u32 9] w fun e w' => e = .returned (.int .u32 (C7 l : Nat)) ∧ w = w' := by
  subst hlen
  unfold maxLen at hl
  have Hc := Lib.hid hc
  have H8 := Lib.hid h8
  clear hc h8
  go_enter Try.func35, Try.ntmps35
  go_wp2
  go_loop [7, 10] (fun r i => ∃ k : Nat, k ≤ l.length ∧ i = .int .i64 k ∧ r = .int .u32 (C7 (l.take k) : Nat)) (fun _ i => l.length - (intOf i).toNat)
  case atStart => exact ⟨0, by omega, rfl, rfl⟩
  case round =>
    obtain ⟨k, hk, rfl, rfl⟩ := hrel
    have hr : C7 (l.take k) < 128 := C7_lt _ (fun x hx => H8.out x (List.mem_of_mem_take hx))
    by_cases hlt : k < l.length
    · obtain ⟨b, off, rfl, hcell⟩ := Hc.out k hlt
      have hx := H8.out _ (getD_mem l k hlt)
      have hs : C7 (l.take (k + 1)) = rr (l.getD k 0) 8 (C7 (l.take k)) := by rw [take_getD l k hlt, C7_snoc, rr_c7 _ _ hx hr]
      have Hs := Lib.hid hs; clear hs
      revert hcell hx Hs hr
      generalize l.getD k 0 = x
      generalize C7 (l.take k) = r0
      intro hr hcell hx Hs
      go_wp2_with fail
      go_loop [7, 11] (fun r kk => ∃ j : Nat, j ≤ 8 ∧ kk = .int .i64 (7 - (j : Int)) ∧ r = .int .u32 (rr x j r0 : Nat)) (fun _ kk => (intOf kk + 1).toNat)
      case atStart => exact ⟨0, by omega, rfl, rfl⟩
      case round =>
        obtain ⟨j, hj, rfl, rfl⟩ := hrel
        have hrj := rr_lt x j r0 hr
        by_cases hj8 : j < 8
        · have hst : rr x (j + 1) r0 = rs x j (rr x j r0) := rfl
          have Hst := Lib.hid hst; clear hst
          revert hrj Hst
          generalize rr x j r0 = r
          intro hrj Hst
          have e1 : bits .and .u32 (r : Int) 64 = ((r &&& 64 : Nat) : Int) := u32_and_nat r 64 (by omega) (by omega)
          have e2 : bits .and .u32 ((r : Int) * 2) 127 = (r : Int) * 2 % 128 := by
            have h := u32_and_nat (r * 2) 127 (by omega) (by omega)
            rw [show (r * 2) &&& 127 = r * 2 % 128 from Nat.and_two_pow_sub_one_eq_mod (r * 2) 7] at h
            simpa using h
          have e3 : bits .xor .u32 ((r : Int) * 2 % 128) 9 = (((r * 2 % 128) ^^^ 9 : Nat) : Int) := by
            have h := u32_xor_nat (r * 2 % 128) 9 (by omega) (by omega)
            simpa using h
          have e4 : (bits .and .u8 ((x : Int) / 2 ^ (7 - j)) 1 == 1) = decide (x / 2 ^ (7 - j) % 2 = 1) := by
            have h := u8_and_nat (x / 2 ^ (7 - j)) 1 (Nat.lt_of_le_of_lt (Nat.div_le_self _ _) hx) (by omega)
            rw [Nat.and_one_is_mod] at h
            have h' : bits .and .u8 (((x / 2 ^ (7 - j) : Nat) : Int)) 1 = ((x / 2 ^ (7 - j) % 2 : Nat) : Int) := h
            rw [show ((x : Int) / 2 ^ (7 - j)) = ((x / 2 ^ (7 - j) : Nat) : Int) from by simp, h']
            generalize x / 2 ^ (7 - j) % 2 = z
            rw [Bool.eq_iff_iff]
            simp; omega
          by_cases ha : r &&& 64 = 0
          · have t1 : (bits .and .u32 (r : Int) 64 != 0) = false := by rw [e1, ha]; rfl
            by_cases hb : x / 2 ^ (7 - j) % 2 = 1
            · have t2 : (bits .and .u8 ((x : Int) / 2 ^ (7 - j)) 1 == 1) = true := by rw [e4]; exact decide_eq_true hb
              have Hf : Hid (rs x j r = (r * 2 % 128) ^^^ 9) := by unfold Hid rs; rw [if_neg (by rw [eq_iff_iff]; omega)]
              clear e1 e4 ha hb
              go_wp2
              go_round
              case rel => exact ⟨j + 1, by omega, by go_num, by rw [Hst.out, Hf.out] <;> simp⟩
              case measure => simp [intOf]; omega
            · have t2 : (bits .and .u8 ((x : Int) / 2 ^ (7 - j)) 1 == 1) = false := by rw [e4]; exact decide_eq_false hb
              have Hf : Hid (rs x j r = (r * 2 % 128)) := by unfold Hid rs; rw [if_pos (by rw [eq_iff_iff]; omega), Nat.xor_zero]
              clear e1 e4 ha hb
              go_wp2
              go_round
              case rel => exact ⟨j + 1, by omega, by go_num, by rw [Hst.out, Hf.out] <;> simp⟩
              case measure => simp [intOf]; omega
          · have t1 : (bits .and .u32 (r : Int) 64 != 0) = true := by rw [e1]; simp; omega
            by_cases hb : x / 2 ^ (7 - j) % 2 = 1
            · have t2 : (bits .and .u8 ((x : Int) / 2 ^ (7 - j)) 1 == 1) = true := by rw [e4]; exact decide_eq_true hb
              have Hf : Hid (rs x j r = (r * 2 % 128)) := by unfold Hid rs; rw [if_pos (by rw [eq_iff_iff]; omega), Nat.xor_zero]
              clear e1 e4 ha hb
              go_wp2
              go_round
              case rel => exact ⟨j + 1, by omega, by go_num, by rw [Hst.out, Hf.out] <;> simp⟩
              case measure => simp [intOf]; omega
            · have t2 : (bits .and .u8 ((x : Int) / 2 ^ (7 - j)) 1 == 1) = false := by rw [e4]; exact decide_eq_false hb
              have Hf : Hid (rs x j r = (r * 2 % 128) ^^^ 9) := by unfold Hid rs; rw [if_neg (by rw [eq_iff_iff]; omega)]
              clear e1 e4 ha hb
              go_wp2
              go_round
              case rel => exact ⟨j + 1, by omega, by go_num, by rw [Hst.out, Hf.out] <;> simp⟩
              case measure => simp [intOf]; omega
        · have hj9 : j = 8 := by omega
          subst hj9
          go_wp2
          go_round
          case rel => exact ⟨k + 1, by omega, by go_num, by rw [Hs.out]⟩
          case measure => simp [intOf]; omega
    · have : k = l.length := by omega
      subst this
      go_wp2
      go_ret
      refine ⟨?_, rfl⟩
      simp

theorem RefSeven_any (a : Option Addr) (l : List Nat) (len cap : Nat) (hlen : len = l.length) (hl : l.length ≤ maxLen) (h8 : ∀ x ∈ l, x < 256) (w : World) (hc : Cells8 w a l) :
    Calls Try.prog 33 #[.slice a len cap] w fun e w' => e = .returned (.int .u8 (C7 l : Nat)) ∧ w = w' := by
  have hs := C7_lt l h8
  have HR := Lib.hid (remainder_any a l len cap hlen hl h8 w hc)
  clear hc h8 hl hlen
  revert hs HR
  generalize C7 l = s
  intro hs HR
  go_enter Try.func33, Try.ntmps33
  go_wp2_with fail
  refine (HR.out).mono ?_
  rintro e w1 ⟨rfl, rfl⟩
  go_wp2
  go_ret
  exact ⟨rfl, rfl⟩
end Go.Proofs.Yteocmpaabihoiaa
