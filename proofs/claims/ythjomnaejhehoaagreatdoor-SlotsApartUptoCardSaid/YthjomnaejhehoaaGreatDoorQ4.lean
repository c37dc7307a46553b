/- What follows is laid together from several texts of mine, in their order. -/
import Derived.Test.YthjomnaejhehoaaGreatDoorQ3
import Derived.Lib.TrailingZeros
import Derived.Laws.Bits64b
import Derived.Shelf.Spec.TrailingZeros

namespace Go.Proofs.YthjomnaejhehoaaGreatDoor
open Go.RowKit
set_option linter.unusedVariables false
set_option linter.unusedSimpArgs false

/-- The table of trailing zeros in its variable: block 0. -/
def Tab (w : World) : Prop := ∀ j, j < Lib.deBruijn64tab.length → w.cell? ⟨0, j, none⟩ = some (.int .u8 (Lib.deBruijn64tab.getD j 0 : Nat))
theorem Tab.lt {w : World} (h : Tab w) : 0 < w.heap.size := World.block_lt_of_cell? w _ (h 0 (by decide))
theorem Tab.keep {w w' : World} (h : Tab w) (hk : ∀ p v, w.cell? p = some v → w'.cell? p = some v) : Tab w' := fun j hj => hk _ _ (h j hj)
theorem Tab.below {w w' : World} (h : Tab w) (hb : Below w.heap.size w w') : Tab w' := h.keep (keep_below hb)
set_option maxHeartbeats 1000000 in
theorem tz_core (x k idx : Nat) (w : World) (hx0 : ((x : Int) == 0) = false)
    (key : IntKind.u64.wrap (bits BinOp.and IntKind.u64 (x : Int) (IntKind.u64.wrap (-(x : Int))) * 285870213051353865) / 288230376151711744 = (idx : Int))
    (hi : idx < 64) (hk : k < 64) (hcell : w.cell? ⟨0, idx, none⟩ = some (.int .u8 k)) :
    Calls Tryz.prog 113 #[.int .u64 x] w fun e w' => e = .returned (.int .i64 k) ∧ w = w' := by
  go_enter Tryz.func113, Tryz.ntmps113
  go_wp2_with (simp only [key])
  go_ret
  exact ⟨rfl, rfl⟩
theorem tz_any (x : Nat) (hx : x < 18446744073709551616) (hx0 : x ≠ 0) (w : World) (hT : Tab w) :
    Calls Tryz.prog 113 #[.int .u64 x] w fun e w' => e = .returned (.int .i64 (Lib.ctz 64 x : Nat)) ∧ w = w' := by
  obtain ⟨hlow, hk⟩ := Lib.lowest_bit 64 x hx0 hx
  obtain ⟨hi, htab⟩ := Lib.deBruijn64_at _ hk
  have hcell := hT _ hi
  rw [htab] at hcell
  exact tz_core x _ _ w (by simp; omega) (tz64_key x _ hx hx0 hlow) hi hk hcell
theorem ctz_lt (x : Nat) (hx : x < 18446744073709551616) (hx0 : x ≠ 0) : Lib.ctz 64 x < 64 := (Lib.lowest_bit 64 x hx0 hx).2

/-- The columns of a word's bits. -/
def cols : List Nat := [7, 11, 13, 14, 19, 21, 22, 25, 26, 28, 35, 37, 38, 41, 42, 44, 49, 50, 52, 56, 67, 69, 70, 73, 74, 76, 81, 82, 84, 88, 97, 98, 100, 104, 112, 131, 133, 134, 137, 138, 140, 145, 146, 148, 152, 161, 162, 164, 168, 176, 193, 194, 196, 200, 208, 224, 31, 47, 55, 59, 61, 62, 79, 87]
theorem cols_lt (i : Nat) : cols.getD i 0 < 256 := by
  by_cases h : i < 64
  · exact (by decide : ∀ i, i < 64 → cols.getD i 0 < 256) i h
  · have : cols.getD i 0 = 0 := by simp [List.getD, cols]; rw [List.getElem?_eq_none (by simp; omega)]; rfl
    omega
theorem u8_xor_nat (a b : Nat) (ha : a < 256) (hb : b < 256) : bits .xor .u8 (a : Int) (b : Int) = ((a ^^^ b : Nat) : Int) := by
  have hx : a ^^^ b < 2 ^ 8 := Nat.xor_lt_two_pow (by omega) (by omega)
  have h1 : (BitVec.ofInt 8 (a : Int)).toNat = a := by
    rw [BitVec.ofInt_natCast, BitVec.toNat_ofNat]; exact Nat.mod_eq_of_lt (by omega)
  have h2 : (BitVec.ofInt 8 (b : Int)).toNat = b := by
    rw [BitVec.ofInt_natCast, BitVec.toNat_ofNat]; exact Nat.mod_eq_of_lt (by omega)
  show IntKind.u8.wrap ((BitVec.ofInt 8 (a : Int) ^^^ BitVec.ofInt 8 (b : Int)).toNat : Int) = _
  rw [BitVec.toNat_xor, h1, h2, IntKind.wrap_u8]
  omega
theorem and_pred_lt (w : Nat) (h : w ≠ 0) : w &&& (w - 1) < w := Nat.lt_of_le_of_lt Nat.and_le_right (by omega)
/-- A word's check. -/
def chk (w : Nat) : Nat := if h : w = 0 then 0 else cols.getD (Lib.ctz 64 w) 0 ^^^ chk (w &&& (w - 1))
termination_by w
decreasing_by exact and_pred_lt w h
theorem chk_zero : chk 0 = 0 := by rw [chk]; simp
theorem chk_step (w : Nat) (h : w ≠ 0) : chk w = cols.getD (Lib.ctz 64 w) 0 ^^^ chk (w &&& (w - 1)) := by rw [chk]; simp [h]
theorem chk_lt (w : Nat) : chk w < 256 := by
  induction w using Nat.strongRecOn with
  | ind w ih =>
    by_cases h : w = 0
    · subst h; rw [chk_zero]; omega
    · rw [chk_step w h]
      exact Nat.xor_lt_two_pow (n := 8) (cols_lt _) (ih _ (and_pred_lt w h))
def colS : ByteArray := { data := #[7, 11, 13, 14, 19, 21, 22, 25, 26, 28, 35, 37, 38, 41, 42, 44, 49, 50, 52, 56, 67, 69, 70, 73, 74, 76, 81, 82, 84, 88, 97, 98, 100, 104, 112, 131, 133, 134, 137, 138, 140, 145, 146, 148, 152, 161, 162, 164, 168, 176, 193, 194, 196, 200, 208, 224, 31, 47, 55, 59, 61, 62, 79, 87] }
theorem colS_at : ∀ i, i < 64 → (colS[i]?).map (·.toNat) = some (cols.getD i 0) := by decide +kernel
theorem col_index (w : World) (i : Nat) (hi : i < 64) : (Instr.index 9 (.string colS) (.int .i64 i)).run Tryz.prog w = .ok (.int .u8 (cols.getD i 0 : Nat)) w := by
  have h := colS_at i hi
  cases hc : colS[i]? with
  | none => rw [hc] at h; cases h
  | some u =>
    rw [hc] at h
    simp at h
    simp [Instr.index, run_underlying Tryz.underlying9, hc, asInt, asIntOf, ← h]
set_option maxRecDepth 100000 in
set_option maxHeartbeats 1000000 in
theorem Check_any (x : Nat) (hx : x < 18446744073709551616) (w : World) (hT : Tab w) :
    Calls Tryz.prog 100 #[.int .u64 x] w fun e w' => e = .returned (.int .u8 (chk x : Nat)) ∧ w = w' := by
  have HT := Lib.hid hT
  obtain ⟨q, hq⟩ : ∃ q, q = chk x := ⟨_, rfl⟩
  have HQ := Lib.hid hq
  have hci := fun i hi => col_index w i hi
  unfold colS at hci
  have HCi := Lib.hid hci
  rw [← hq]
  clear hT hci hq
  go_enter Tryz.func100, Tryz.ntmps100
  go_wp2
  go_loop [0, 3] (fun vv cv => ∃ v c : Nat, v ≤ x ∧ c < 256 ∧ vv = .int .u64 v ∧ cv = .int .u8 c ∧ c ^^^ chk v = q) (fun vv _ => (intOf vv).toNat)
  case atStart => exact ⟨x, 0, Nat.le_refl _, by omega, rfl, rfl, by rw [HQ.out]; simp⟩
  case round =>
    obtain ⟨v, c, hv, hc, rfl, rfl, he⟩ := hrel
    have HE := Lib.hid he
    clear he
    by_cases h0 : v = 0
    · subst h0
      have hcq : c = q := by have := HE.out; rw [chk_zero] at this; simpa using this
      have HCq := Lib.hid hcq
      clear hcq
      go_wp2
      go_ret
      exact ⟨by rw [HCq.out]; rfl, rfl⟩
    · have hv64 : v < 18446744073709551616 := by omega
      have h00 : (v == 0) = false := by simp [h0]
      have h01 : ((v : Int) == 0) = false := by simp; exact h0
      have HTz := Lib.hid (tz_any v hv64 h0 w HT.out)
      have hk := ctz_lt v hv64 h0
      have HS := Lib.hid (chk_step v h0)
      generalize Lib.ctz 64 v = k at *
      have hci := HCi.out k hk
      have hcl := cols_lt k
      have hx1 := u8_xor_nat c (cols.getD k 0) hc hcl
      have hw : IntKind.u64.wrap ((v : Int) - 1) = ((v - 1 : Nat) : Int) := by rw [IntKind.wrap_u64]; omega
      have ha := bits_and_u64_nat v (v - 1) hv64 (by omega)
      have hlt := and_pred_lt v h0
      have hxl : c ^^^ cols.getD k 0 < 256 := Nat.xor_lt_two_pow (n := 8) hc hcl
      generalize cols.getD k 0 = m at *
      generalize hv2 : v &&& (v - 1) = v2 at *
      obtain ⟨c2, hc2⟩ : ∃ c2, c2 = c ^^^ m := ⟨_, rfl⟩
      rw [← hc2] at hx1 hxl
      have HC2 := Lib.hid hc2
      clear hc2 hv2
      go_wp2_with fail
      refine HTz.out.mono ?_
      rintro e w' ⟨rfl, rfl⟩
      clear HTz
      go_wp2
      go_round
      case rel => exact ⟨v2, c2, by omega, hxl, rfl, rfl, by rw [HC2.out, Nat.xor_assoc, ← HS.out]; exact HE.out⟩
      case measure => simp [intOf]; omega
end Go.Proofs.YthjomnaejhehoaaGreatDoor

namespace Go.Proofs.YthjomnaejhehoaaGreatDoor
open Go.RowKit
set_option linter.unusedVariables false
set_option linter.unusedSimpArgs false

def popS : ByteArray := { data := #[0, 1, 1, 2, 1, 2, 2, 3, 1, 2, 2, 3, 2, 3, 3, 4, 1, 2, 2, 3, 2, 3, 3, 4, 2, 3, 3, 4, 3, 4, 4, 5, 1, 2, 2, 3, 2, 3, 3, 4, 2, 3, 3, 4, 3, 4, 4, 5, 2, 3, 3, 4, 3, 4, 4, 5, 3, 4, 4, 5, 4, 5, 5, 6, 1, 2, 2, 3, 2, 3, 3, 4, 2, 3, 3, 4, 3, 4, 4, 5, 2, 3, 3, 4, 3, 4, 4, 5, 3, 4, 4, 5, 4, 5, 5, 6, 2, 3, 3, 4, 3, 4, 4, 5, 3, 4, 4, 5, 4, 5, 5, 6, 3, 4, 4, 5, 4, 5, 5, 6, 4, 5, 5, 6, 5, 6, 6, 7, 1, 2, 2, 3, 2, 3, 3, 4, 2, 3, 3, 4, 3, 4, 4, 5, 2, 3, 3, 4, 3, 4, 4, 5, 3, 4, 4, 5, 4, 5, 5, 6, 2, 3, 3, 4, 3, 4, 4, 5, 3, 4, 4, 5, 4, 5, 5, 6, 3, 4, 4, 5, 4, 5, 5, 6, 4, 5, 5, 6, 5, 6, 6, 7, 2, 3, 3, 4, 3, 4, 4, 5, 3, 4, 4, 5, 4, 5, 5, 6, 3, 4, 4, 5, 4, 5, 5, 6, 4, 5, 5, 6, 5, 6, 6, 7, 3, 4, 4, 5, 4, 5, 5, 6, 4, 5, 5, 6, 5, 6, 6, 7, 4, 5, 5, 6, 5, 6, 6, 7, 5, 6, 6, 7, 6, 7, 7, 8] }
/-- How many bits of a byte are set. -/
def pop8 (x : Nat) : Nat := x % 2 + x / 2 % 2 + x / 4 % 2 + x / 8 % 2 + x / 16 % 2 + x / 32 % 2 + x / 64 % 2 + x / 128 % 2
theorem popS_at : ∀ x, x < 256 → (popS[x]?).map (·.toNat) = some (pop8 x) := by decide +kernel
theorem pop_index (w : World) (x : Nat) (hx : x < 256) : (Instr.index 9 (.string popS) (.int .u8 x)).run Tryz.prog w = .ok (.int .u8 (pop8 x : Nat)) w := by
  have h := popS_at x hx
  cases hc : popS[x]? with
  | none => rw [hc] at h; cases h
  | some u =>
    rw [hc] at h
    simp at h
    simp [Instr.index, run_underlying Tryz.underlying9, hc, asInt, asIntOf, ← h]
set_option maxRecDepth 100000 in
set_option maxHeartbeats 1000000 in
theorem pop_any (x : Nat) (hx : x < 256) (w : World) : Calls Tryz.prog 114 #[.int .u8 x] w fun e w' => e = .returned (.int .i64 (pop8 x : Nat)) ∧ w = w' := by
  have hi := pop_index w x hx
  have h8 : pop8 x < 256 := by unfold pop8; omega
  unfold popS at hi
  generalize pop8 x = p at *
  have hw : IntKind.i64.wrap (p : Int) = (p : Int) := by rw [IntKind.wrap_i64]; omega
  go_enter Tryz.func114, Tryz.ntmps114
  go_wp2
  go_ret
  exact ⟨rfl, rfl⟩
theorem Syndrome_any (x c : Nat) (hx : x < 18446744073709551616) (hc : c < 256) (w : World) (hT : Tab w) :
    Calls Tryz.prog 115 #[.int .u64 x, .int .u8 c] w fun e w' => e = .returned (.int .u8 (chk x ^^^ c : Nat)) ∧ w = w' := by
  have HC := Lib.hid (Check_any x hx w hT)
  have h := u8_xor_nat (chk x) c (chk_lt x) hc
  have hl := chk_lt x
  generalize chk x = q at *
  clear hT
  go_enter Tryz.func115, Tryz.ntmps115
  go_wp2_with fail
  refine HC.out.mono ?_
  rintro e w' ⟨rfl, rfl⟩
  clear HC
  go_wp2
  go_ret
  exact ⟨rfl, rfl⟩
/-- The first column that is s. -/
def colOf (s : Nat) : Option Nat := cols.findIdx? (· == s)
/-- A word and its check, put right; how. -/
def mend (x c : Nat) : Nat × Nat × Nat :=
  if chk x ^^^ c = 0 then (x, c, 0) else match colOf (chk x ^^^ c) with
    | some b => (x ^^^ 2 ^ b, c, 1)
    | none => if pop8 (chk x ^^^ c) = 1 then (x, c ^^^ (chk x ^^^ c), 1) else (x, c, 2)
theorem u64_xor_nat (a b : Nat) (ha : a < 18446744073709551616) (hb : b < 18446744073709551616) : bits .xor .u64 (a : Int) (b : Int) = ((a ^^^ b : Nat) : Int) := by
  have hx : a ^^^ b < 2 ^ 64 := Nat.xor_lt_two_pow (by omega) (by omega)
  have h1 : (BitVec.ofInt 64 (a : Int)).toNat = a := by
    rw [BitVec.ofInt_natCast, BitVec.toNat_ofNat]; exact Nat.mod_eq_of_lt (by omega)
  have h2 : (BitVec.ofInt 64 (b : Int)).toNat = b := by
    rw [BitVec.ofInt_natCast, BitVec.toNat_ofNat]; exact Nat.mod_eq_of_lt (by omega)
  show IntKind.u64.wrap ((BitVec.ofInt 64 (a : Int) ^^^ BitVec.ofInt 64 (b : Int)).toNat : Int) = _
  rw [BitVec.toNat_xor, h1, h2, IntKind.wrap_u64]
  omega
theorem colOf_some {s b : Nat} (h : colOf s = some b) : b < 64 ∧ cols.getD b 0 = s ∧ ∀ j, j < b → cols.getD j 0 ≠ s := by
  unfold colOf at h
  rw [List.findIdx?_eq_some_iff_getElem] at h
  obtain ⟨hb, h1, h2⟩ := h
  refine ⟨hb, ?_, fun j hj => ?_⟩
  · rw [List.getD_eq_getElem?_getD, List.getElem?_eq_getElem hb]; simpa using h1
  · have hjl : j < cols.length := by omega
    have h3 := h2 j hj
    intro e
    rw [show cols.getD j 0 = cols[j]'hjl by rw [List.getD_eq_getElem?_getD, List.getElem?_eq_getElem hjl]; rfl] at e
    rw [e] at h3; simp at h3
theorem colOf_none {s : Nat} (h : colOf s = none) : ∀ j, j < 64 → cols.getD j 0 ≠ s := by
  unfold colOf at h
  rw [List.findIdx?_eq_none_iff] at h
  intro j hj
  have h1 := h (cols[j]'hj) (List.getElem_mem _)
  intro e
  rw [show cols.getD j 0 = cols[j]'hj by rw [List.getD_eq_getElem?_getD, List.getElem?_eq_getElem hj]; rfl] at e
  rw [e] at h1; simp at h1
end Go.Proofs.YthjomnaejhehoaaGreatDoor
namespace Go.Proofs.YthjomnaejhehoaaGreatDoor
open Go.RowKit
set_option linter.unusedVariables false
set_option linter.unusedSimpArgs false

def MendPost (x c : Nat) (w : World) (e : Ending) (w' : World) : Prop := e = .returned (.tuple #[.int .u64 ((mend x c).1 : Nat), .int .u8 ((mend x c).2.1 : Nat), .int .i64 ((mend x c).2.2 : Nat)]) ∧ w = w'
set_option maxRecDepth 100000 in
set_option maxHeartbeats 2000000 in
theorem Mend_any (x c : Nat) (hx : x < 18446744073709551616) (hc : c < 256) (w : World) (hT : Tab w) :
    Calls Tryz.prog 104 #[.int .u64 x, .int .u8 c] w (MendPost x c w) := by
  have HS := Lib.hid (Syndrome_any x c hx hc w hT)
  have HD := Lib.hid (show mend x c = if chk x ^^^ c = 0 then (x, c, 0) else match colOf (chk x ^^^ c) with
    | some b => (x ^^^ 2 ^ b, c, 1)
    | none => if pop8 (chk x ^^^ c) = 1 then (x, c ^^^ (chk x ^^^ c), 1) else (x, c, 2) from rfl)
  have hs : chk x ^^^ c < 256 := Nat.xor_lt_two_pow (n := 8) (chk_lt x) hc
  have hci := fun i hi => col_index w i hi
  unfold colS at hci
  have HCi := Lib.hid hci
  clear hT hci
  generalize chk x ^^^ c = s at *
  by_cases h0 : s = 0
  · subst h0
    rw [if_pos rfl] at HD
    go_enter Tryz.func104, Tryz.ntmps104
    go_wp2_with fail
    refine HS.out.mono ?_
    rintro e w' ⟨rfl, rfl⟩
    clear HS
    go_wp2
    refine bodyPost_ret (v := .tuple #[.int .u64 x, .int .u8 c, .int .i64 0]) (by simp [results, Tryz.results104, go_sem]) rfl ⟨by rw [HD.out]; rfl, rfl⟩
  · rw [if_neg h0] at HD
    have b0 : (s == 0) = false := by simp [h0]
    have b1 : ((s : Int) == 0) = false := by simp; exact h0
    clear h0
    go_enter Tryz.func104, Tryz.ntmps104
    go_wp2_with fail
    refine HS.out.mono ?_
    rintro e w' ⟨rfl, rfl⟩
    clear HS
    go_wp2
    go_loop [16] (fun i => ∃ k : Nat, k ≤ 64 ∧ i = .int .i64 k ∧ ∀ j, j < k → cols.getD j 0 ≠ s) (fun i => 64 - (intOf i).toNat)
    case atStart => exact ⟨0, by omega, rfl, fun j hj => by omega⟩
    case round =>
      obtain ⟨k, hk, rfl, hno⟩ := hrel
      have HNo := Lib.hid hno
      clear hno
      by_cases hlt : k < 64
      · have hci := HCi.out k hlt
        have hcl := cols_lt k
        by_cases he : cols.getD k 0 = s
        · have hco : colOf s = some k := by
            cases hq : colOf s with
            | none => exact absurd he (colOf_none hq k hlt)
            | some b =>
              obtain ⟨hb, e1, e2⟩ := colOf_some hq
              rcases Nat.lt_trichotomy b k with h | h | h
              · exact absurd e1 (HNo.out b h)
              · rw [h]
              · exact absurd he (e2 k h)
          rw [hco] at HD
          have HD : Hid (mend x c = (x ^^^ 2 ^ k, c, 1)) := HD.out
          rw [he] at hci
          obtain ⟨p, hp⟩ : ∃ p : Nat, p = 2 ^ k := ⟨_, rfl⟩
          have hp64 : p < 18446744073709551616 := by rw [hp]; exact Nat.pow_lt_pow_right (n := 64) (by omega) hlt
          have hw2 : ((2 ^ k : Nat) : Int) = (2 : Int) ^ k := by simp
          have hw1 : IntKind.u64.wrap ((2 : Int) ^ k) = (p : Int) := by rw [IntKind.wrap_u64, ← hw2, ← hp]; omega
          have hxr := u64_xor_nat x p hx hp64
          rw [← hp] at HD
          clear hco he hp hw2 hcl
          go_wp2
          refine bodyPost_ret (v := .tuple #[.int .u64 (x ^^^ p : Nat), .int .u8 c, .int .i64 1]) (by simp [results, Tryz.results104, go_sem]) rfl ⟨by rw [HD.out]; rfl, rfl⟩
        · have bn : (cols.getD k 0 == s) = false := beq_eq_false_iff_ne.2 he
          have bn2 : (((cols.getD k 0 : Nat) : Int) == (s : Int)) = false := by simp only [beq_eq_false_iff_ne]; omega
          have HNo2 : Hid (∀ j, j < k + 1 → cols.getD j 0 ≠ s) := fun j hj => by
            rcases Nat.lt_or_ge j k with h | h
            · exact HNo.out j h
            · have : j = k := by omega
              rw [this]; exact he
          generalize cols.getD k 0 = m at *
          clear he
          go_wp2
          go_round
          case rel => exact ⟨k + 1, by omega, by go_num, HNo2.out⟩
          case measure => simp [intOf]; omega
      · have hco : colOf s = none := by
          cases hq : colOf s with
          | none => rfl
          | some b =>
            obtain ⟨hb, e1, _⟩ := colOf_some hq
            exact absurd e1 (HNo.out b (by omega))
        rw [hco] at HD
        have HD : Hid (mend x c = if pop8 s = 1 then (x, c ^^^ s, 1) else (x, c, 2)) := HD.out
        have HP := Lib.hid (pop_any s hs w)
        have hxr := u8_xor_nat c s hc hs
        generalize pop8 s = p at *
        clear hco
        by_cases hp1 : p = 1
        · subst hp1
          rw [if_pos rfl] at HD
          obtain rfl : k = 64 := by omega
          go_wp2_with fail
          refine HP.out.mono ?_
          rintro e w' ⟨rfl, rfl⟩
          clear HP
          go_wp2
          refine bodyPost_ret (v := .tuple #[.int .u64 x, .int .u8 (c ^^^ s : Nat), .int .i64 1]) (by simp [results, Tryz.results104, go_sem]) rfl ⟨by rw [HD.out]; rfl, rfl⟩
        · rw [if_neg hp1] at HD
          have bp : (p == 1) = false := by simp [hp1]
          have bp2 : ((p : Int) == 1) = false := by simp only [beq_eq_false_iff_ne]; omega
          obtain rfl : k = 64 := by omega
          clear hp1
          go_wp2_with fail
          refine HP.out.mono ?_
          rintro e w' ⟨rfl, rfl⟩
          clear HP
          go_wp2
          refine bodyPost_ret (v := .tuple #[.int .u64 x, .int .u8 c, .int .i64 2]) (by simp [results, Tryz.results104, go_sem]) rfl ⟨by rw [HD.out]; rfl, rfl⟩
end Go.Proofs.YthjomnaejhehoaaGreatDoor

namespace Go.Proofs.YthjomnaejhehoaaGreatDoor
open Go.RowKit
set_option linter.unusedVariables false
set_option linter.unusedSimpArgs false

theorem grown_setRow {w : World} {g : Nat} (cs : Array Value) : w.grownBy (w.setRow g cs) (some g) := ⟨rfl, rfl, rfl, by simp, fun k _ hk => setRow_other w g k _ (fun e => hk (by rw [e]))⟩
theorem grown_self (w : World) (r : Option Nat) : w.grownBy w r := ⟨rfl, rfl, rfl, Nat.le_refl _, fun _ _ _ => rfl⟩
theorem wpList_copy_grown {P : Program} {w : World} {ops : Array Oper} {rest : List Oper} {o : Oper} {a : Act} {Q : Exit → Act → World → Prop} (hgd : o.guard = none) (d s : Operand) (dT sT : TypeId)
    (ho : o.op = .call { callee := .builtin .copy, args := #[d, s], argTypes := #[dT, sT] }) (elem : TypeId) (hu : P.underlying dT = some (.slice elem)) (hsz : (P.info? elem).map (·.size) = some 1)
    (A : Option Addr) (dLen dCap m mc : Nat) (g off : Nat) (hd : a.eval d = .slice (some ⟨g, off, none⟩) dLen dCap) (hx : a.eval s = .slice A m mc)
    (cur : List Value) (t : TypeId) (hg : Row w g t cur.toArray) (news : List Value) (hs : Src w 1 A m news) (h1 : ∀ u ∈ news, u.oneCell' = true)
    (hfit : off + min m dLen ≤ cur.length)
    (h : ∀ w', Hid (Row w' g t (splice cur off (news.take dLen)).toArray) → Hid (w.grownBy w' (some g)) → wpList P ops Q rest (a.put o.dst (goInt ((min m dLen : Nat) : Int))) w') :
    wpList P ops Q (o :: rest) a w := by
  have hl : news.length = m := by simpa using hs.len
  have hcl : (news.take dLen).length = min m dLen := by rw [List.length_take, hl, Nat.min_comm]
  by_cases h0 : (news.take dLen).length = 0
  · have e0 := List.eq_nil_of_length_eq_zero h0
    refine wpList_copy_nothing hgd d s dT sT ho elem hu hsz (some ⟨g, off, none⟩) A dLen dCap m mc hd hx (by rw [← h0, hcl]) ?_
    have := h w (show _ = _ by rw [e0]; simpa [splice] using (show w.heap[g]? = _ from hg)) (grown_self w _)
    rw [← hcl, h0] at this
    exact this
  · obtain ⟨ad, rfl, hc⟩ := hs.lies (by omega)
    have := wpList_copy_own (P := P) (ops := ops) (rest := rest) (Q := Q) (a := a) (w := w) hgd d s dT sT ho elem hu hsz g off dLen dCap ad m mc hd hx cur.toArray t hg (news.take dLen) (by rw [hcl]) (fun j v hv => hc j v (by
      rw [List.getElem?_take] at hv
      split at hv
      · exact hv
      · cases hv)) (by rw [hcl]; simpa using hfit) (fun v hv => h1 v (List.mem_of_mem_take hv)) (by
      have := h _ (show _ = _ from setRow_heap w g cur.toArray (splice cur off (news.take dLen)).toArray t _ hg) (grown_setRow _)
      rw [← hcl] at this
      exact this)
    exact this
end Go.Proofs.YthjomnaejhehoaaGreatDoor
