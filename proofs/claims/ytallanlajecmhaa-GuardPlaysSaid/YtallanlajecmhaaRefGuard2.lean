/- locketref14: PowerUp, Bits, Lasting. -/
import Derived.Test.YtallanlajecmhaaRefGuard
namespace Go.Proofs.Ytallanlajecmhaa
open Go.RowKit
set_option linter.unusedVariables false
set_option linter.unusedSimpArgs false

theorem lastTo_kinds {n : Nat} {ks : List Nat} (h : Kinds n ks) (k : Nat) : ∀ x ∈ lastTo ks k, x < 4 := by
  intro x hx
  unfold lastTo at hx
  rw [List.mem_append] at hx
  rcases hx with h1 | h1
  · simp only [lastK, List.mem_map] at h1
    obtain ⟨y, hy, rfl⟩ := h1
    have := h.2 y (List.mem_of_mem_take hy)
    split <;> omega
  · exact h.2 x (List.mem_of_mem_drop h1)
set_option maxHeartbeats 800000 in
theorem refPowerUp_any {n : Nat} (hn : n ≤ 256) (G L c : Nat) (ks : List Nat) (B : Nat) (w : World) (h : RHeld w B G L c ks) (hk : Kinds n ks) :
    Calls Try.prog 19 #[.pointer (some ⟨G, 0, none⟩)] w fun e w' => (∃ v, e = .returned v) ∧ RHeld w' B G L c (lastK ks) ∧ Turns w w' [L] := by
  have hlen : ks.length ≤ 256 := by rw [hk.1]; exact hn
  have H := Lib.hid h
  have HK := Lib.hid hk
  clear h hk
  go_enter Try.func19, Try.ntmps19
  go_wp2
  go_loopw [2] (fun i wr => ∃ k : Nat, k ≤ ks.length ∧ i = .int .i64 k ∧ RHeld wr B G L c (lastTo ks k) ∧ Turns w wr [L]) (fun i _ => ks.length - (intOf i).toNat)
  case atStart => exact ⟨0, by omega, rfl, by rw [lastTo_zero]; exact H.out, Turns.refl _ _⟩
  case round =>
    obtain ⟨k, hk, rfl, hh, ht⟩ := hrel
    have hgc := hh.cellG
    rw [lastTo_length] at hgc
    have HO := Lib.hid hh
    have HT := Lib.hid ht
    by_cases hkl : k < ks.length
    · have hc := hh.cell k (by rw [lastTo_length]; exact hkl)
      rw [lastTo_get ks k hkl] at hc
      have hf := hh.thaw k
      by_cases h2 : ks.getD k 0 = 2
      · rw [h2] at hc
        have HO2 : Hid (RHeld (wr.setCell ⟨L, k, none⟩ (.int .i64 ((0 : Nat) : Int))) B G L c (lastTo ks (k + 1))) := by
          rw [lastTo_succ ks k hkl, if_pos h2]; exact hh.put neR k 0 (by rw [lastTo_length]; exact hkl)
        have HT2 : Hid (Turns w (wr.setCell ⟨L, k, none⟩ (.int .i64 ((0 : Nat) : Int))) [L]) := ht.setCell (by simp) _
        clear hh ht h2 HO HT HK H
        generalize ks.length = m at *
        go_wp2
        go_roundw
        case rel => exact ⟨k + 1, by omega, by go_num, HO2.out, HT2.out⟩
        case measure => simp [intOf]; omega
      · have HO2 : Hid (RHeld wr B G L c (lastTo ks (k + 1))) := by rw [lastTo_same ks k hkl h2]; exact hh
        clear hh ht HO HK H
        generalize ks.getD k 0 = x at *
        generalize ks.length = m at *
        go_wp2
        go_roundw
        case rel => exact ⟨k + 1, by omega, by go_num, HO2.out, HT.out⟩
        case measure => simp [intOf]; omega
    · obtain rfl : k = ks.length := by omega
      rw [lastTo_all] at HO
      clear hh ht
      generalize ks.length = m at *
      go_wp2
      go_end0
      exact ⟨⟨_, rfl⟩, HO.out, HT.out⟩

theorem shr_step (b j : Nat) : b / 2 ^ j = b / 2 ^ (j + 1) * 2 + (b.testBit j).toNat := by
  have h1 : (b / 2 ^ j) % 2 = (b.testBit j).toNat := by
    have := Nat.testBit_eq_decide_div_mod_eq (x := b) (i := j)
    rw [this]
    by_cases h : b / 2 ^ j % 2 = 1 <;> simp [h]
    omega
  have h2 : b / 2 ^ (j + 1) = b / 2 ^ j / 2 := by rw [Nat.div_div_eq_div_mul, Nat.pow_succ]
  omega
set_option maxHeartbeats 800000 in
theorem refBits_any {n : Nat} (hn : n ≤ 256) (G L c : Nat) (ks : List Nat) (fr : Int) (B : Nat) (w : World) (h : RHeld w B G L c ks) (hk : Kinds n ks) :
    Calls Try.prog 32 #[.pointer (some ⟨G, 0, none⟩), .int .i64 fr] w fun e w' => e = .returned (.int .u32 (bitsK fr ks : Nat)) ∧ w = w' := by
  have hlen : ks.length ≤ 256 := by rw [hk.1]; exact hn
  have hgc := h.cellG
  by_cases h0 : fr < 0
  · rw [bitsK_neg fr ks h0]
    clear h hk
    go_enter Try.func32, Try.ntmps32
    go_wp2
    go_ret
    exact ⟨rfl, rfl⟩
  · obtain ⟨F, rfl⟩ := Int.eq_ofNat_of_zero_le (show 0 ≤ fr by omega)
    have HB : Hid (∀ i, (bitsK (F : Int) ks).testBit i = (decide (i < 32) && (decide (F + i < ks.length) && decide (ks.getD (F + i) 0 ≠ 0)))) := testBit_bitsK hk hn F
    have hlt := bitsK_lt (F : Int) ks
    have HC : Hid (∀ i, i < ks.length → w.cell? ⟨L, i, none⟩ = some (.int .i64 (ks.getD i 0 : Nat))) := h.cell
    clear h hk h0
    generalize bitsK (F : Int) ks = b at *
    go_enter Try.func32, Try.ntmps32
    go_wp2
    go_loop [5, 6] (fun v i => ∃ k : Nat, k ≤ 32 ∧ i = .int .i64 ((k : Int) - 1) ∧ v = .int .u32 ((b / 2 ^ k : Nat) : Int)) (fun _ i => (intOf i + 1).toNat)
    case atStart => exact ⟨32, by omega, rfl, by rw [Nat.div_eq_of_lt (by omega)]; rfl⟩
    case round =>
      obtain ⟨k, hk, rfl, rfl⟩ := hrel
      cases k with
      | zero =>
        simp only [Nat.pow_zero, Nat.div_one]
        go_wp2
        go_ret
        exact ⟨rfl, rfl⟩
      | succ k =>
        have hs := shr_step b k
        have hb31 : b / 2 ^ (k + 1) < 2147483648 := by
          have : b / 2 ^ (k + 1) ≤ b / 2 := Nat.div_le_div_left (by rw [Nat.pow_succ]; have := Nat.two_pow_pos k; omega) (by omega)
          omega
        have Hs := Lib.hid hs
        clear hs
        have hk1 : ((k + 1 : Nat) : Int) - 1 = (k : Int) := by omega
        rw [hk1]
        have ht := HB.out k
        have hg : ∀ (d : Nat), d < 2 → ((b.testBit k).toNat = d) → b / 2 ^ k = b / 2 ^ (k + 1) * 2 + d := fun d _ e => by rw [Hs.out, e]
        have Hg := Lib.hid hg
        clear hg Hs
        generalize b / 2 ^ (k + 1) = v at *
        have ew : (v : Int) * 2 % 4294967296 = (v : Int) * 2 := by omega
        have key : (ks.length ≤ F) ∨ (F < ks.length ∧ ks.length ≤ F + k) ∨ (F + k < ks.length ∧ ks.getD (F + k) 0 = 0) ∨ (F + k < ks.length ∧ ks.getD (F + k) 0 ≠ 0) := by omega
        have hk32 : k < 32 := by omega
        rcases key with k1 | ⟨k1, k2⟩ | ⟨k1, k2⟩ | ⟨k1, k2⟩
        · have hz : (b.testBit k).toNat = 0 := by rw [ht]; simp; omega
          have HF := Lib.hid (Hg.out 0 (by omega) hz)
          clear ht hz HB Hg HC
          generalize ks.length = m at *
          go_wp2
          go_round
          case rel => exact ⟨k, by omega, rfl, by rw [HF.out]; simp⟩
          case measure => simp [intOf]
        · have hz : (b.testBit k).toNat = 0 := by rw [ht]; simp; omega
          have HF := Lib.hid (Hg.out 0 (by omega) hz)
          clear ht hz HB Hg HC
          generalize ks.length = m at *
          have hw : IntKind.i64.wrap ((m : Int) - (F : Int)) = (m : Int) - F := by rw [IntKind.wrap_i64]; omega
          have hkk : ¬ ((k : Int) < (m : Int) - F) := by omega
          go_wp2
          go_round
          case rel => exact ⟨k, by omega, rfl, by rw [HF.out]; simp⟩
          case measure => simp [intOf]
        · have hz : (b.testBit k).toNat = 0 := by rw [ht, k2]; simp
          have HF := Lib.hid (Hg.out 0 (by omega) hz)
          have hc := HC.out _ k1
          rw [k2] at hc
          clear ht hz HB Hg HC k2
          generalize ks.length = m at *
          have hw : IntKind.i64.wrap ((m : Int) - (F : Int)) = (m : Int) - F := by rw [IntKind.wrap_i64]; omega
          have hkk : (k : Int) < (m : Int) - F := by omega
          have hw2 : IntKind.i64.wrap ((F : Int) + (k : Int)) = (F : Int) + k := by rw [IntKind.wrap_i64]; omega
          go_wp2
          go_round
          case rel => exact ⟨k, by omega, rfl, by rw [HF.out]; simp⟩
          case measure => simp [intOf]
        · have hz : (b.testBit k).toNat = 1 := by rw [ht]; simp [k1, k2, hk32]; simpa [List.getD, k1] using k2
          have HF := Lib.hid (Hg.out 1 (by omega) hz)
          have hc := HC.out _ k1
          clear ht hz HB Hg HC
          generalize ks.getD (F + k) 0 = x at *
          generalize ks.length = m at *
          have hw : IntKind.i64.wrap ((m : Int) - (F : Int)) = (m : Int) - F := by rw [IntKind.wrap_i64]; omega
          have hkk : (k : Int) < (m : Int) - F := by omega
          have hw2 : IntKind.i64.wrap ((F : Int) + (k : Int)) = (F : Int) + k := by rw [IntKind.wrap_i64]; omega
          have ho := u32_or_nat (v * 2) 1 (by omega) (by omega)
          have ho2 : (v * 2) ||| 1 = v * 2 + 1 := by
            have := Nat.two_pow_add_eq_or_of_lt (i := 1) (b := 1) (by omega) v
            rw [show v * 2 = 2 ^ 1 * v by omega, ← this]
          rw [ho2] at ho
          have ho3 : bits .or .u32 ((v : Int) * 2) 1 = (v : Int) * 2 + 1 := by simpa using ho
          clear ho ho2
          go_wp2
          go_round
          case rel => exact ⟨k, by omega, rfl, by rw [HF.out]; simp⟩
          case measure => simp [intOf]
end Go.Proofs.Ytallanlajecmhaa
