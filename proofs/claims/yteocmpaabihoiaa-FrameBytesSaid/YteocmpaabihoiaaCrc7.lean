/- crc.seven, crc.Seven: what they compute. -/
import Derived.Test.YteocmpaabihoiaaBase
namespace Go.Proofs.Yteocmpaabihoiaa
open Go.RowKit
set_option linter.unusedVariables false
set_option linter.unusedSimpArgs false

def s7 (v : Nat) : Nat := if v &&& 128 = 0 then v * 2 % 256 else (v * 2 % 256) ^^^ 18
def r7 : Nat → Nat → Nat
  | 0, v => v
  | k + 1, v => s7 (r7 k v)
def c7 (a b : Nat) : Nat := r7 8 ((a * 2 % 256) ^^^ b) / 2
def C7 (l : List Nat) : Nat := l.foldl c7 0
theorem s7_lt (v : Nat) : s7 v < 256 := by
  unfold s7; split
  · omega
  · exact Nat.xor_lt_two_pow (n := 8) (by omega) (by omega)
theorem r7_lt (k v : Nat) (h : v < 256) : r7 k v < 256 := by
  cases k with
  | zero => exact h
  | succ k => exact s7_lt _
theorem c7_lt (a b : Nat) (hb : b < 256) : c7 a b < 128 := by
  unfold c7; have := r7_lt 8 _ (Nat.xor_lt_two_pow (n := 8) (x := a * 2 % 256) (y := b) (by omega) hb); omega
theorem C7_snoc (l : List Nat) (x : Nat) : C7 (l ++ [x]) = c7 (C7 l) x := by simp [C7]
theorem C7_lt (l : List Nat) (h : ∀ x ∈ l, x < 256) : C7 l < 128 := by
  rcases List.eq_nil_or_concat l with rfl | ⟨L, x, rfl⟩
  · decide
  · rw [List.concat_eq_append, C7_snoc]; exact c7_lt _ _ (h _ (by simp))

set_option maxHeartbeats 400000 in
theorem seven_any (a b : Nat) (ha : a < 256) (hb : b < 256) (w : World) :
    Calls Try.prog 34 #[.int .u8 a, .int .u8 b] w fun e w' => e = .returned (.int .u8 (c7 a b : Nat)) ∧ w = w' := by
  go_enter Try.func34, Try.ntmps34
  go_wp2
  go_loop [5, 10] (fun v i => ∃ k : Nat, k ≤ 8 ∧ i = .int .i64 k ∧ v = .int .u8 (r7 k ((a * 2 % 256) ^^^ b) : Nat)) (fun _ i => 8 - (intOf i).toNat)
  case atStart =>
    refine ⟨0, by omega, rfl, ?_⟩
    have e : bits .xor .u8 ((a : Int) * 2 % 256) b = (((a * 2 % 256) ^^^ b : Nat) : Int) := by
      have := u8_xor_nat (a * 2 % 256) b (by omega) hb
      simpa using this
    rw [e]; rfl
  case round =>
    obtain ⟨k, hk, rfl, rfl⟩ := hrel
    have hlt := r7_lt k _ (Nat.xor_lt_two_pow (n := 8) (x := a * 2 % 256) (y := b) (by omega) hb)
    by_cases h8 : k < 8
    · have hs : r7 (k + 1) ((a * 2 % 256) ^^^ b) = s7 (r7 k ((a * 2 % 256) ^^^ b)) := rfl
      have Hs := Lib.hid hs; clear hs
      revert hlt Hs
      generalize r7 k ((a * 2 % 256) ^^^ b) = v
      intro hlt Hs
      have ea := u8_and_nat v 128 hlt (by omega)
      by_cases hz : v &&& 128 = 0
      · have e1 : (bits .and .u8 (v : Int) 128 != 0) = false := by
          have : bits .and .u8 (v : Int) 128 = ((v &&& 128 : Nat) : Int) := ea
          rw [this, hz]; rfl
        clear ea
        have Hz := Lib.hid hz; clear hz
        go_wp2
        go_round
        case rel => exact ⟨k + 1, by omega, by go_num, by rw [Hs.out]; unfold s7; rw [if_pos Hz.out]; simp⟩
        case measure => simp [intOf]; omega
      · have e1 : (bits .and .u8 (v : Int) 128 != 0) = true := by
          have : bits .and .u8 (v : Int) 128 = ((v &&& 128 : Nat) : Int) := ea
          rw [this]; simp; omega
        clear ea
        have Hz := Lib.hid hz; clear hz
        go_wp2
        go_round
        case rel =>
          refine ⟨k + 1, by omega, by go_num, ?_⟩
          rw [Hs.out]; unfold s7; rw [if_neg Hz.out]
          have := u8_xor_nat (v * 2 % 256) 18 (by omega) (by omega)
          simpa using this
        case measure => simp [intOf]; omega
    · have : k = 8 := by omega
      subst this
      go_wp2
      go_ret
      refine ⟨?_, rfl⟩
      simp [c7]

set_option maxHeartbeats 400000 in
theorem Seven_any (a : Option Addr) (l : List Nat) (len cap : Nat) (hlen : len = l.length) (hl : l.length ≤ maxLen) (h8 : ∀ x ∈ l, x < 256) (w : World) (hc : Cells8 w a l) :
    Calls Try.prog 31 #[.slice a len cap] w fun e w' => e = .returned (.int .u8 (C7 l : Nat)) ∧ w = w' := by
  subst hlen
  unfold maxLen at hl
  have Hc := Lib.hid hc; clear hc
  go_enter Try.func31, Try.ntmps31
  go_wp2
  go_loop [3, 8] (fun s i => ∃ k : Nat, k ≤ l.length ∧ i = .int .i64 k ∧ s = .int .u8 (C7 (l.take k) : Nat)) (fun _ i => l.length - (intOf i).toNat)
  case atStart => exact ⟨0, by omega, rfl, rfl⟩
  case round =>
    obtain ⟨k, hk, rfl, rfl⟩ := hrel
    have H8 := Lib.hid h8; clear h8
    have h1 : C7 (l.take k) < 128 := C7_lt _ (fun x hx => H8.out x (List.mem_of_mem_take hx))
    by_cases hlt : k < l.length
    · obtain ⟨b, off, rfl, hcell⟩ := Hc.out k hlt
      have h2 : l.getD k 0 < 256 := H8.out _ (getD_mem l k hlt)
      have hs : C7 (l.take (k + 1)) = c7 (C7 (l.take k)) (l.getD k 0) := by rw [take_getD l k hlt, C7_snoc]
      have Hs := Lib.hid hs; clear hs
      revert hcell h2 Hs
      generalize l.getD k 0 = x
      intro hcell h2 Hs
      go_wp2_with (go_at_call 34; refine (seven_any _ _ (by omega) h2 _).mono ?_; rintro e w' ⟨rfl, rfl⟩)
      go_round
      case rel => exact ⟨k + 1, by omega, by go_num, by rw [Hs.out]⟩
      case measure => simp [intOf]; omega
    · have : k = l.length := by omega
      subst this
      go_wp2
      go_ret
      refine ⟨?_, rfl⟩
      simp
end Go.Proofs.Yteocmpaabihoiaa
