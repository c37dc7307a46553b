/- frame.ReadLong: what it computes. -/
import Derived.Test.YteocmpaabihoiaaFrLong
namespace Go.Proofs.Yteocmpaabihoiaa
open Go.RowKit
set_option linter.unusedVariables false
set_option linter.unusedSimpArgs false

/-- What a long answer tells: the error, and the bytes. -/
def rlErr (l : List Nat) : Nat := if l.length < 17 then 23 else if 17 < l.length ∨ l.getD 0 0 ≠ 63 ∨ l.getD 16 0 &&& 1 = 0 then 24 else 0
def rlOut (l : List Nat) : List Nat := (l.drop 1).set 15 ((l.drop 1).getD 15 0 &&& 254)

theorem ReadLong_short (a : Option Addr) (len cap : Nat) (hl : len < 17) (w : World) :
    Calls Try.prog 14 #[.slice a len cap] w fun e w' => e = .returned (.tuple #[.slice none 0 0, .int .i64 23]) ∧ w = w' := by
  have h : (len : Int) < 17 := by omega
  go_enter Try.func14, Try.ntmps14
  go_wp2
  go_ret2
  exact ⟨rfl, rfl⟩
theorem ReadLong_long (a : Option Addr) (len cap : Nat) (hl : 17 < len) (w : World) :
    Calls Try.prog 14 #[.slice a len cap] w fun e w' => e = .returned (.tuple #[.slice none 0 0, .int .i64 24]) ∧ w = w' := by
  have h : (17 : Int) < (len : Int) := by omega
  go_enter Try.func14, Try.ntmps14
  go_wp2
  go_ret2
  exact ⟨rfl, rfl⟩
set_option maxHeartbeats 400000 in
theorem ReadLong_form (b off : Nat) (l : List Nat) (cap : Nat) (hl : l.length = 17) (h8 : ∀ x ∈ l, x < 256) (w : World) (hc : Cells8 w (some ⟨b, off, none⟩) l) (hbad : l.getD 0 0 ≠ 63 ∨ l.getD 16 0 &&& 1 = 0) :
    Calls Try.prog 14 #[.slice (some ⟨b, off, none⟩) 17 cap] w fun e w' => e = .returned (.tuple #[.slice none 0 0, .int .i64 24]) ∧ w = w' := by
  have k0 := hc.at0 0 (by omega)
  simp only [Nat.add_zero] at k0
  have k16 := hc.at0 16 (by omega)
  have b16 := h8 _ (getD_mem l 16 (by omega))
  clear hc hl h8
  revert k0 k16 b16 hbad
  generalize l.getD 0 0 = x0, l.getD 16 0 = x16
  intro hbad k0 k16 b16
  have e16 : bits .and .u8 (x16 : Int) 1 = ((x16 &&& 1 : Nat) : Int) := u8_and_nat x16 1 b16 (by omega)
  by_cases h0 : x0 = 63
  · have h1 : x16 &&& 1 = 0 := hbad.elim (fun h => absurd h0 h) id
    have t0 : ((x0 : Int) != 63) = false := by simp; omega
    have t1 : (bits .and .u8 (x16 : Int) 1 == 0) = true := by rw [e16, h1]; rfl
    clear e16 hbad h0 h1
    go_enter Try.func14, Try.ntmps14
    go_wp2
    go_ret2
    exact ⟨rfl, rfl⟩
  · have t0 : ((x0 : Int) != 63) = true := by simp; omega
    clear e16 hbad h0
    go_enter Try.func14, Try.ntmps14
    go_wp2
    go_ret2
    exact ⟨rfl, rfl⟩

set_option maxHeartbeats 400000 in
theorem ReadLong_ok (b off : Nat) (l : List Nat) (cap : Nat) (hl : l.length = 17) (hcap : 17 ≤ cap) (hcap' : cap ≤ maxLen) (h8 : ∀ x ∈ l, x < 256) (w : World) (hc : Cells8 w (some ⟨b, off, none⟩) l) (h0 : l.getD 0 0 = 63) (h1 : l.getD 16 0 &&& 1 ≠ 0) :
    Calls Try.prog 14 #[.slice (some ⟨b, off, none⟩) 17 cap] w fun e w' => ∃ v, e = .returned (.tuple #[v, .int .i64 0]) ∧ w'.ownsRow w.heap.size 5 1 v 16 (ints8 (rlOut l)) ∧ Below w.heap.size w w' := by
  have k0 := hc.at0 0 (by omega)
  simp only [Nat.add_zero] at k0
  have k16 := hc.at0 16 (by omega)
  have b16 := h8 _ (getD_mem l 16 (by omega))
  have hdl : (l.drop 1).length = 16 := by simp; omega
  have hd16 : (l.drop 1).getD 15 0 = l.getD 16 0 := by simp [List.getD]
  have hcd : Cells8 w (some ⟨b, off + 1, none⟩) (l.drop 1) := by
    intro i hi
    refine ⟨b, off + 1, rfl, ?_⟩
    have := hc.at0 (i + 1) (by omega)
    rw [show off + 1 + i = off + (i + 1) by omega, this]
    simp [List.getD, Nat.add_comm]
  have HC := Lib.hid (Clone_any b (off + 1) (l.drop 1) 16 (cap - 1) hdl.symm (by omega) w hcd)
  have Ho : Hid (rlOut l = (l.drop 1).set 15 (l.getD 16 0 &&& 254)) := by unfold Hid rlOut; rw [hd16]
  rw [hdl] at HC
  have Hd := Lib.hid hdl
  have Hd16 := Lib.hid hd16
  clear hc hcd h8 hl hdl hd16
  rw [h0] at k0
  clear h0
  revert k16 b16 h1 Ho Hd16
  generalize l.getD 16 0 = x16
  intro h1 k16 b16 Ho Hd16
  have e16 : bits .and .u8 (x16 : Int) 1 = ((x16 &&& 1 : Nat) : Int) := u8_and_nat x16 1 b16 (by omega)
  have t1 : (bits .and .u8 (x16 : Int) 1 == 0) = false := by rw [e16, beq_eq_false_iff_ne]; omega
  have en : bits .andNot .u8 (x16 : Int) 1 = ((x16 &&& 254 : Nat) : Int) := u8_andNot_nat x16 1 b16 (by omega)
  clear e16 h1
  unfold maxLen at hcap'
  go_enter Try.func14, Try.ntmps14
  go_wp2_with fail
  refine (HC.out).mono ?_
  rintro e w1 ⟨v1, rfl, own1, hb1⟩
  obtain ⟨g, c, rfl, hg0, hg1, hg2, hg3⟩ := own_at own1 (by omega)
  have hcell := own1.cellAt 15 (by omega)
  rw [ints8_get _ _ (by rw [Hd.out]; omega), Hd16.out] at hcell
  have hfroz := own1.frozenAt 15
  have Hown := Lib.hid own1
  clear own1
  unfold maxLen at hg3
  go_wp2
  go_ret2
  have hst := Hown.out.stored 15 (.int .u8 ((x16 &&& 254 : Nat) : Int))
  refine ⟨_, rfl, ?_, ?_⟩
  · rw [Ho.out]
    have e : ints8 ((l.drop 1).set 15 (x16 &&& 254)) = (ints8 (l.drop 1)).set 15 (.int .u8 ((x16 &&& 254 : Nat) : Int)) := by simp [ints8, List.map_set]
    rw [e]; exact hst.1
  · exact below_grown hb1 hst.2 (by have := hb1.size; omega) hg0

theorem readF_card (n v : Nat) (hn : n < 64) (hv : v < 4294967296) : readF (frameL n v) 0 = (n, v, 0) := by
  have hs := sum7_lt n v (by omega) hv
  have e0 : n &&& 192 = 0 := by
    have h1 : n &&& 192 = (n &&& 63) &&& 192 := by
      rw [show n &&& 63 = n % 64 from Nat.and_two_pow_sub_one_eq_mod n 6, Nat.mod_eq_of_lt hn]
    rw [h1, Nat.and_assoc]; simp
  have e1 : (sum7 n v * 2 + 1) &&& 1 ≠ 0 := by rw [Nat.and_one_is_mod]; omega
  have e2 : C7 ((frameL n v).take 5) = sum7 n v := rfl
  have e3 : n &&& 63 = n := by rw [show n &&& 63 = n % 64 from Nat.and_two_pow_sub_one_eq_mod n 6]; omega
  unfold readF
  rw [if_neg (by simp [frameL]), if_neg (by simp only [frameL, List.getD, List.length_cons, List.length_nil]; simp [e0]), e2, if_neg (by simp [frameL]; omega)]
  simp only [frameL, arg4, List.getD]
  simp [e3]
  omega
theorem readF_card_host (n v : Nat) (hn : n < 64) : readF (frameL n v) 64 = (0, 0, 24) := by
  have e0 : n &&& 192 = 0 := by
    have h1 : n &&& 192 = (n &&& 63) &&& 192 := by
      rw [show n &&& 63 = n % 64 from Nat.and_two_pow_sub_one_eq_mod n 6, Nat.mod_eq_of_lt hn]
    rw [h1, Nat.and_assoc]; simp
  unfold readF
  rw [if_neg (by simp [frameL]), if_pos (Or.inr (Or.inl (by show ¬ _; simp only [frameL, List.getD_cons_zero]; rw [e0]; decide)))]
theorem readF_host_card (n v : Nat) (hn : n < 64) (hv : v < 4294967296) : readF (frameL (n + 64) v) 0 = (0, 0, 24) := by
  have e0 : (n + 64) &&& 192 ≠ 0 := by
    have := (show (n + 64) &&& 192 = 64 from ?_)
    · omega
    · have h := Nat.two_pow_add_eq_or_of_lt (i := 6) (b := n) (by omega) 1
      have : n + 64 = 64 ||| n := by simp at h; omega
      rw [this, Nat.and_or_distrib_right]
      have : n &&& 192 = 0 := by
        have h1 : n &&& 192 = (n &&& 63) &&& 192 := by
          rw [show n &&& 63 = n % 64 from Nat.and_two_pow_sub_one_eq_mod n 6, Nat.mod_eq_of_lt hn]
        rw [h1, Nat.and_assoc]; simp
      rw [this]; decide
  unfold readF
  rw [if_neg (by simp [frameL]), if_pos (Or.inr (Or.inl (by simpa [frameL] using e0)))]
end Go.Proofs.Yteocmpaabihoiaa
