/- ecc: a word's bytes, its mending. -/
import Derived.Test.YtlidbkofjchnnaaDoorEcc
namespace Go.Proofs.YtlidbkofjchnnaaDoor
open Go.RowKit
set_option linter.unusedVariables false
set_option linter.unusedSimpArgs false

def popS : ByteArray := { data := #[0, 1, 1, 2, 1, 2, 2, 3, 1, 2, 2, 3, 2, 3, 3, 4, 1, 2, 2, 3, 2, 3, 3, 4, 2, 3, 3, 4, 3, 4, 4, 5, 1, 2, 2, 3, 2, 3, 3, 4, 2, 3, 3, 4, 3, 4, 4, 5, 2, 3, 3, 4, 3, 4, 4, 5, 3, 4, 4, 5, 4, 5, 5, 6, 1, 2, 2, 3, 2, 3, 3, 4, 2, 3, 3, 4, 3, 4, 4, 5, 2, 3, 3, 4, 3, 4, 4, 5, 3, 4, 4, 5, 4, 5, 5, 6, 2, 3, 3, 4, 3, 4, 4, 5, 3, 4, 4, 5, 4, 5, 5, 6, 3, 4, 4, 5, 4, 5, 5, 6, 4, 5, 5, 6, 5, 6, 6, 7, 1, 2, 2, 3, 2, 3, 3, 4, 2, 3, 3, 4, 3, 4, 4, 5, 2, 3, 3, 4, 3, 4, 4, 5, 3, 4, 4, 5, 4, 5, 5, 6, 2, 3, 3, 4, 3, 4, 4, 5, 3, 4, 4, 5, 4, 5, 5, 6, 3, 4, 4, 5, 4, 5, 5, 6, 4, 5, 5, 6, 5, 6, 6, 7, 2, 3, 3, 4, 3, 4, 4, 5, 3, 4, 4, 5, 4, 5, 5, 6, 3, 4, 4, 5, 4, 5, 5, 6, 4, 5, 5, 6, 5, 6, 6, 7, 3, 4, 4, 5, 4, 5, 5, 6, 4, 5, 5, 6, 5, 6, 6, 7, 4, 5, 5, 6, 5, 6, 6, 7, 5, 6, 6, 7, 6, 7, 7, 8] }
/-- How many bits of a byte are set. -/
def pop8 (x : Nat) : Nat := x % 2 + x / 2 % 2 + x / 4 % 2 + x / 8 % 2 + x / 16 % 2 + x / 32 % 2 + x / 64 % 2 + x / 128 % 2
theorem popS_at : ∀ x, x < 256 → (popS[x]?).map (·.toNat) = some (pop8 x) := by decide +kernel
theorem pop_index (w : World) (x : Nat) (hx : x < 256) : (Instr.index 9 (.string popS) (.int .u8 x)).run Tryd.prog w = .ok (.int .u8 (pop8 x : Nat)) w := by
  have h := popS_at x hx
  cases hc : popS[x]? with
  | none => rw [hc] at h; cases h
  | some u =>
    rw [hc] at h
    simp at h
    simp [Instr.index, run_underlying Tryd.underlying9, hc, asInt, asIntOf, ← h]
set_option maxRecDepth 100000 in
set_option maxHeartbeats 1000000 in
theorem pop_any (x : Nat) (hx : x < 256) (w : World) : Calls Tryd.prog 68 #[.int .u8 x] w fun e w' => e = .returned (.int .i64 (pop8 x : Nat)) ∧ w = w' := by
  have hi := pop_index w x hx
  have h8 : pop8 x < 256 := by unfold pop8; omega
  unfold popS at hi
  generalize pop8 x = p at *
  have hw : IntKind.i64.wrap (p : Int) = (p : Int) := by rw [IntKind.wrap_i64]; omega
  go_enter Tryd.func68, Tryd.ntmps68
  go_wp2
  go_ret
  exact ⟨rfl, rfl⟩
theorem Syndrome_any (x c : Nat) (hx : x < 18446744073709551616) (hc : c < 256) (w : World) (hT : Tab w) :
    Calls Tryd.prog 88 #[.int .u64 x, .int .u8 c] w fun e w' => e = .returned (.int .u8 (chk x ^^^ c : Nat)) ∧ w = w' := by
  have HC := Lib.hid (Check_any x hx w hT)
  have h := u8_xor_nat (chk x) c (chk_lt x) hc
  have hl := chk_lt x
  generalize chk x = q at *
  clear hT
  go_enter Tryd.func88, Tryd.ntmps88
  go_wp2_with fail
  refine HC.out.mono ?_
  rintro e w' ⟨rfl, rfl⟩
  clear HC
  go_wp2
  go_ret
  exact ⟨rfl, rfl⟩
/-- The first column that is s. -/
def colOf (s : Nat) : Option Nat := cols.findIdx? (· == s)
/-- A word and its check, put right; how. -/
def mend (x c : Nat) : Nat × Nat × Nat :=
  if chk x ^^^ c = 0 then (x, c, 0) else match colOf (chk x ^^^ c) with
    | some b => (x ^^^ 2 ^ b, c, 1)
    | none => if pop8 (chk x ^^^ c) = 1 then (x, c ^^^ (chk x ^^^ c), 1) else (x, c, 2)
theorem u64_xor_nat (a b : Nat) (ha : a < 18446744073709551616) (hb : b < 18446744073709551616) : bits .xor .u64 (a : Int) (b : Int) = ((a ^^^ b : Nat) : Int) := by
  have hx : a ^^^ b < 2 ^ 64 := Nat.xor_lt_two_pow (by omega) (by omega)
  have h1 : (BitVec.ofInt 64 (a : Int)).toNat = a := by
    rw [BitVec.ofInt_natCast, BitVec.toNat_ofNat]; exact Nat.mod_eq_of_lt (by omega)
  have h2 : (BitVec.ofInt 64 (b : Int)).toNat = b := by
    rw [BitVec.ofInt_natCast, BitVec.toNat_ofNat]; exact Nat.mod_eq_of_lt (by omega)
  show IntKind.u64.wrap ((BitVec.ofInt 64 (a : Int) ^^^ BitVec.ofInt 64 (b : Int)).toNat : Int) = _
  rw [BitVec.toNat_xor, h1, h2, IntKind.wrap_u64]
  omega
theorem colOf_some {s b : Nat} (h : colOf s = some b) : b < 64 ∧ cols.getD b 0 = s ∧ ∀ j, j < b → cols.getD j 0 ≠ s := by
  unfold colOf at h
  rw [List.findIdx?_eq_some_iff_getElem] at h
  obtain ⟨hb, h1, h2⟩ := h
  refine ⟨hb, ?_, fun j hj => ?_⟩
  · rw [List.getD_eq_getElem?_getD, List.getElem?_eq_getElem hb]; simpa using h1
  · have hjl : j < cols.length := by omega
    have h3 := h2 j hj
    intro e
    rw [show cols.getD j 0 = cols[j]'hjl by rw [List.getD_eq_getElem?_getD, List.getElem?_eq_getElem hjl]; rfl] at e
    rw [e] at h3; simp at h3
theorem colOf_none {s : Nat} (h : colOf s = none) : ∀ j, j < 64 → cols.getD j 0 ≠ s := by
  unfold colOf at h
  rw [List.findIdx?_eq_none_iff] at h
  intro j hj
  have h1 := h (cols[j]'hj) (List.getElem_mem _)
  intro e
  rw [show cols.getD j 0 = cols[j]'hj by rw [List.getD_eq_getElem?_getD, List.getElem?_eq_getElem hj]; rfl] at e
  rw [e] at h1; simp at h1
end Go.Proofs.YtlidbkofjchnnaaDoor
namespace Go.Proofs.YtlidbkofjchnnaaDoor
open Go.RowKit
set_option linter.unusedVariables false
set_option linter.unusedSimpArgs false

def MendPost (x c : Nat) (w : World) (e : Ending) (w' : World) : Prop := e = .returned (.tuple #[.int .u64 ((mend x c).1 : Nat), .int .u8 ((mend x c).2.1 : Nat), .int .i64 ((mend x c).2.2 : Nat)]) ∧ w = w'
set_option maxRecDepth 100000 in
set_option maxHeartbeats 2000000 in
theorem Mend_any (x c : Nat) (hx : x < 18446744073709551616) (hc : c < 256) (w : World) (hT : Tab w) :
    Calls Tryd.prog 72 #[.int .u64 x, .int .u8 c] w (MendPost x c w) := by
  have HS := Lib.hid (Syndrome_any x c hx hc w hT)
  have HD := Lib.hid (show mend x c = if chk x ^^^ c = 0 then (x, c, 0) else match colOf (chk x ^^^ c) with
    | some b => (x ^^^ 2 ^ b, c, 1)
    | none => if pop8 (chk x ^^^ c) = 1 then (x, c ^^^ (chk x ^^^ c), 1) else (x, c, 2) from rfl)
  have hs : chk x ^^^ c < 256 := Nat.xor_lt_two_pow (n := 8) (chk_lt x) hc
  have hci := fun i hi => col_index w i hi
  unfold colS at hci
  have HCi := Lib.hid hci
  clear hT hci
  generalize chk x ^^^ c = s at *
  by_cases h0 : s = 0
  · subst h0
    rw [if_pos rfl] at HD
    go_enter Tryd.func72, Tryd.ntmps72
    go_wp2_with fail
    refine HS.out.mono ?_
    rintro e w' ⟨rfl, rfl⟩
    clear HS
    go_wp2
    refine bodyPost_ret (v := .tuple #[.int .u64 x, .int .u8 c, .int .i64 0]) (by simp [results, Tryd.results72, go_sem]) rfl ⟨by rw [HD.out]; rfl, rfl⟩
  · rw [if_neg h0] at HD
    have b0 : (s == 0) = false := by simp [h0]
    have b1 : ((s : Int) == 0) = false := by simp; exact h0
    clear h0
    go_enter Tryd.func72, Tryd.ntmps72
    go_wp2_with fail
    refine HS.out.mono ?_
    rintro e w' ⟨rfl, rfl⟩
    clear HS
    go_wp2
    go_loop [16] (fun i => ∃ k : Nat, k ≤ 64 ∧ i = .int .i64 k ∧ ∀ j, j < k → cols.getD j 0 ≠ s) (fun i => 64 - (intOf i).toNat)
    case atStart => exact ⟨0, by omega, rfl, fun j hj => by omega⟩
    case round =>
      obtain ⟨k, hk, rfl, hno⟩ := hrel
      have HNo := Lib.hid hno
      clear hno
      by_cases hlt : k < 64
      · have hci := HCi.out k hlt
        have hcl := cols_lt k
        by_cases he : cols.getD k 0 = s
        · have hco : colOf s = some k := by
            cases hq : colOf s with
            | none => exact absurd he (colOf_none hq k hlt)
            | some b =>
              obtain ⟨hb, e1, e2⟩ := colOf_some hq
              rcases Nat.lt_trichotomy b k with h | h | h
              · exact absurd e1 (HNo.out b h)
              · rw [h]
              · exact absurd he (e2 k h)
          rw [hco] at HD
          have HD : Hid (mend x c = (x ^^^ 2 ^ k, c, 1)) := HD.out
          rw [he] at hci
          obtain ⟨p, hp⟩ : ∃ p : Nat, p = 2 ^ k := ⟨_, rfl⟩
          have hp64 : p < 18446744073709551616 := by rw [hp]; exact Nat.pow_lt_pow_right (n := 64) (by omega) hlt
          have hw2 : ((2 ^ k : Nat) : Int) = (2 : Int) ^ k := by simp
          have hw1 : IntKind.u64.wrap ((2 : Int) ^ k) = (p : Int) := by rw [IntKind.wrap_u64, ← hw2, ← hp]; omega
          have hxr := u64_xor_nat x p hx hp64
          rw [← hp] at HD
          clear hco he hp hw2 hcl
          go_wp2
          refine bodyPost_ret (v := .tuple #[.int .u64 (x ^^^ p : Nat), .int .u8 c, .int .i64 1]) (by simp [results, Tryd.results72, go_sem]) rfl ⟨by rw [HD.out]; rfl, rfl⟩
        · have bn : (cols.getD k 0 == s) = false := beq_eq_false_iff_ne.2 he
          have bn2 : (((cols.getD k 0 : Nat) : Int) == (s : Int)) = false := by simp only [beq_eq_false_iff_ne]; omega
          have HNo2 : Hid (∀ j, j < k + 1 → cols.getD j 0 ≠ s) := fun j hj => by
            rcases Nat.lt_or_ge j k with h | h
            · exact HNo.out j h
            · have : j = k := by omega
              rw [this]; exact he
          generalize cols.getD k 0 = m at *
          clear he
          go_wp2
          go_round
          case rel => exact ⟨k + 1, by omega, by go_num, HNo2.out⟩
          case measure => simp [intOf]; omega
      · have hco : colOf s = none := by
          cases hq : colOf s with
          | none => rfl
          | some b =>
            obtain ⟨hb, e1, _⟩ := colOf_some hq
            exact absurd e1 (HNo.out b (by omega))
        rw [hco] at HD
        have HD : Hid (mend x c = if pop8 s = 1 then (x, c ^^^ s, 1) else (x, c, 2)) := HD.out
        have HP := Lib.hid (pop_any s hs w)
        have hxr := u8_xor_nat c s hc hs
        generalize pop8 s = p at *
        clear hco
        by_cases hp1 : p = 1
        · subst hp1
          rw [if_pos rfl] at HD
          obtain rfl : k = 64 := by omega
          go_wp2_with fail
          refine HP.out.mono ?_
          rintro e w' ⟨rfl, rfl⟩
          clear HP
          go_wp2
          refine bodyPost_ret (v := .tuple #[.int .u64 x, .int .u8 (c ^^^ s : Nat), .int .i64 1]) (by simp [results, Tryd.results72, go_sem]) rfl ⟨by rw [HD.out]; rfl, rfl⟩
        · rw [if_neg hp1] at HD
          have bp : (p == 1) = false := by simp [hp1]
          have bp2 : ((p : Int) == 1) = false := by simp only [beq_eq_false_iff_ne]; omega
          obtain rfl : k = 64 := by omega
          clear hp1
          go_wp2_with fail
          refine HP.out.mono ?_
          rintro e w' ⟨rfl, rfl⟩
          clear HP
          go_wp2
          refine bodyPost_ret (v := .tuple #[.int .u64 x, .int .u8 c, .int .i64 2]) (by simp [results, Tryd.results72, go_sem]) rfl ⟨by rw [HD.out]; rfl, rfl⟩
end Go.Proofs.YtlidbkofjchnnaaDoor
