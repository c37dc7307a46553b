/- ecc: the trailing zeros of a word, a word's check. -/
import Derived.Test.YtlidbkofjchnnaaDoorHeld
import Derived.Lib.TrailingZeros
import Derived.Laws.Bits64b
import Derived.Shelf.Spec.TrailingZeros
namespace Go.Proofs.YtlidbkofjchnnaaDoor
open Go.RowKit
set_option linter.unusedVariables false
set_option linter.unusedSimpArgs false

/-- The table of trailing zeros in its variable: block 0. -/
def Tab (w : World) : Prop := ∀ j, j < Lib.deBruijn64tab.length → w.cell? ⟨0, j, none⟩ = some (.int .u8 (Lib.deBruijn64tab.getD j 0 : Nat))
theorem Tab.lt {w : World} (h : Tab w) : 0 < w.heap.size := World.block_lt_of_cell? w _ (h 0 (by decide))
theorem Tab.keep {w w' : World} (h : Tab w) (hk : ∀ p v, w.cell? p = some v → w'.cell? p = some v) : Tab w' := fun j hj => hk _ _ (h j hj)
theorem Tab.below {w w' : World} (h : Tab w) (hb : Below w.heap.size w w') : Tab w' := h.keep (keep_below hb)
set_option maxHeartbeats 1000000 in
theorem tz_core (x k idx : Nat) (w : World) (hx0 : ((x : Int) == 0) = false)
    (key : IntKind.u64.wrap (bits BinOp.and IntKind.u64 (x : Int) (IntKind.u64.wrap (-(x : Int))) * 285870213051353865) / 288230376151711744 = (idx : Int))
    (hi : idx < 64) (hk : k < 64) (hcell : w.cell? ⟨0, idx, none⟩ = some (.int .u8 k)) :
    Calls Tryd.prog 76 #[.int .u64 x] w fun e w' => e = .returned (.int .i64 k) ∧ w = w' := by
  go_enter Tryd.func76, Tryd.ntmps76
  go_wp2_with (simp only [key])
  go_ret
  exact ⟨rfl, rfl⟩
theorem tz_any (x : Nat) (hx : x < 18446744073709551616) (hx0 : x ≠ 0) (w : World) (hT : Tab w) :
    Calls Tryd.prog 76 #[.int .u64 x] w fun e w' => e = .returned (.int .i64 (Lib.ctz 64 x : Nat)) ∧ w = w' := by
  obtain ⟨hlow, hk⟩ := Lib.lowest_bit 64 x hx0 hx
  obtain ⟨hi, htab⟩ := Lib.deBruijn64_at _ hk
  have hcell := hT _ hi
  rw [htab] at hcell
  exact tz_core x _ _ w (by simp; omega) (tz64_key x _ hx hx0 hlow) hi hk hcell
theorem ctz_lt (x : Nat) (hx : x < 18446744073709551616) (hx0 : x ≠ 0) : Lib.ctz 64 x < 64 := (Lib.lowest_bit 64 x hx0 hx).2

/-- The columns of a word's bits. -/
def cols : List Nat := [7, 11, 13, 14, 19, 21, 22, 25, 26, 28, 35, 37, 38, 41, 42, 44, 49, 50, 52, 56, 67, 69, 70, 73, 74, 76, 81, 82, 84, 88, 97, 98, 100, 104, 112, 131, 133, 134, 137, 138, 140, 145, 146, 148, 152, 161, 162, 164, 168, 176, 193, 194, 196, 200, 208, 224, 31, 47, 55, 59, 61, 62, 79, 87]
theorem cols_lt (i : Nat) : cols.getD i 0 < 256 := by
  by_cases h : i < 64
  · exact (by decide : ∀ i, i < 64 → cols.getD i 0 < 256) i h
  · have : cols.getD i 0 = 0 := by simp [List.getD, cols]; rw [List.getElem?_eq_none (by simp; omega)]; rfl
    omega
theorem u8_xor_nat (a b : Nat) (ha : a < 256) (hb : b < 256) : bits .xor .u8 (a : Int) (b : Int) = ((a ^^^ b : Nat) : Int) := by
  have hx : a ^^^ b < 2 ^ 8 := Nat.xor_lt_two_pow (by omega) (by omega)
  have h1 : (BitVec.ofInt 8 (a : Int)).toNat = a := by
    rw [BitVec.ofInt_natCast, BitVec.toNat_ofNat]; exact Nat.mod_eq_of_lt (by omega)
  have h2 : (BitVec.ofInt 8 (b : Int)).toNat = b := by
    rw [BitVec.ofInt_natCast, BitVec.toNat_ofNat]; exact Nat.mod_eq_of_lt (by omega)
  show IntKind.u8.wrap ((BitVec.ofInt 8 (a : Int) ^^^ BitVec.ofInt 8 (b : Int)).toNat : Int) = _
  rw [BitVec.toNat_xor, h1, h2, IntKind.wrap_u8]
  omega
theorem and_pred_lt (w : Nat) (h : w ≠ 0) : w &&& (w - 1) < w := Nat.lt_of_le_of_lt Nat.and_le_right (by omega)
/-- A word's check. -/
def chk (w : Nat) : Nat := if h : w = 0 then 0 else cols.getD (Lib.ctz 64 w) 0 ^^^ chk (w &&& (w - 1))
termination_by w
decreasing_by exact and_pred_lt w h
theorem chk_zero : chk 0 = 0 := by rw [chk]; simp
theorem chk_step (w : Nat) (h : w ≠ 0) : chk w = cols.getD (Lib.ctz 64 w) 0 ^^^ chk (w &&& (w - 1)) := by rw [chk]; simp [h]
theorem chk_lt (w : Nat) : chk w < 256 := by
  induction w using Nat.strongRecOn with
  | ind w ih =>
    by_cases h : w = 0
    · subst h; rw [chk_zero]; omega
    · rw [chk_step w h]
      exact Nat.xor_lt_two_pow (n := 8) (cols_lt _) (ih _ (and_pred_lt w h))
def colS : ByteArray := { data := #[7, 11, 13, 14, 19, 21, 22, 25, 26, 28, 35, 37, 38, 41, 42, 44, 49, 50, 52, 56, 67, 69, 70, 73, 74, 76, 81, 82, 84, 88, 97, 98, 100, 104, 112, 131, 133, 134, 137, 138, 140, 145, 146, 148, 152, 161, 162, 164, 168, 176, 193, 194, 196, 200, 208, 224, 31, 47, 55, 59, 61, 62, 79, 87] }
theorem colS_at : ∀ i, i < 64 → (colS[i]?).map (·.toNat) = some (cols.getD i 0) := by decide +kernel
theorem col_index (w : World) (i : Nat) (hi : i < 64) : (Instr.index 9 (.string colS) (.int .i64 i)).run Tryd.prog w = .ok (.int .u8 (cols.getD i 0 : Nat)) w := by
  have h := colS_at i hi
  cases hc : colS[i]? with
  | none => rw [hc] at h; cases h
  | some u =>
    rw [hc] at h
    simp at h
    simp [Instr.index, run_underlying Tryd.underlying9, hc, asInt, asIntOf, ← h]
set_option maxRecDepth 100000 in
set_option maxHeartbeats 1000000 in
theorem Check_any (x : Nat) (hx : x < 18446744073709551616) (w : World) (hT : Tab w) :
    Calls Tryd.prog 66 #[.int .u64 x] w fun e w' => e = .returned (.int .u8 (chk x : Nat)) ∧ w = w' := by
  have HT := Lib.hid hT
  obtain ⟨q, hq⟩ : ∃ q, q = chk x := ⟨_, rfl⟩
  have HQ := Lib.hid hq
  have hci := fun i hi => col_index w i hi
  unfold colS at hci
  have HCi := Lib.hid hci
  rw [← hq]
  clear hT hci hq
  go_enter Tryd.func66, Tryd.ntmps66
  go_wp2
  go_loop [0, 3] (fun vv cv => ∃ v c : Nat, v ≤ x ∧ c < 256 ∧ vv = .int .u64 v ∧ cv = .int .u8 c ∧ c ^^^ chk v = q) (fun vv _ => (intOf vv).toNat)
  case atStart => exact ⟨x, 0, Nat.le_refl _, by omega, rfl, rfl, by rw [HQ.out]; simp⟩
  case round =>
    obtain ⟨v, c, hv, hc, rfl, rfl, he⟩ := hrel
    have HE := Lib.hid he
    clear he
    by_cases h0 : v = 0
    · subst h0
      have hcq : c = q := by have := HE.out; rw [chk_zero] at this; simpa using this
      have HCq := Lib.hid hcq
      clear hcq
      go_wp2
      go_ret
      exact ⟨by rw [HCq.out]; rfl, rfl⟩
    · have hv64 : v < 18446744073709551616 := by omega
      have h00 : (v == 0) = false := by simp [h0]
      have h01 : ((v : Int) == 0) = false := by simp; exact h0
      have HTz := Lib.hid (tz_any v hv64 h0 w HT.out)
      have hk := ctz_lt v hv64 h0
      have HS := Lib.hid (chk_step v h0)
      generalize Lib.ctz 64 v = k at *
      have hci := HCi.out k hk
      have hcl := cols_lt k
      have hx1 := u8_xor_nat c (cols.getD k 0) hc hcl
      have hw : IntKind.u64.wrap ((v : Int) - 1) = ((v - 1 : Nat) : Int) := by rw [IntKind.wrap_u64]; omega
      have ha := bits_and_u64_nat v (v - 1) hv64 (by omega)
      have hlt := and_pred_lt v h0
      have hxl : c ^^^ cols.getD k 0 < 256 := Nat.xor_lt_two_pow (n := 8) hc hcl
      generalize cols.getD k 0 = m at *
      generalize hv2 : v &&& (v - 1) = v2 at *
      obtain ⟨c2, hc2⟩ : ∃ c2, c2 = c ^^^ m := ⟨_, rfl⟩
      rw [← hc2] at hx1 hxl
      have HC2 := Lib.hid hc2
      clear hc2 hv2
      go_wp2_with fail
      refine HTz.out.mono ?_
      rintro e w' ⟨rfl, rfl⟩
      clear HTz
      go_wp2
      go_round
      case rel => exact ⟨v2, c2, by omega, hxl, rfl, rfl, by rw [HC2.out, Nat.xor_assoc, ← HS.out]; exact HE.out⟩
      case measure => simp [intOf]; omega
end Go.Proofs.YtlidbkofjchnnaaDoor
