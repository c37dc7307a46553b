/- frame.Find: where a frame could begin. -/
import Derived.Test.YteocmpaabihoiaaFrBursts
import Derived.Test.YteocmpaabihoiaaMem
namespace Go.Proofs.Yteocmpaabihoiaa
open Go.RowKit
set_option linter.unusedVariables false
set_option linter.unusedSimpArgs false

/-- The first place from where on a byte could begin a frame, else the length. -/
def findN : List Nat → Nat
  | [] => 0
  | x :: l => if x &&& 192 = 64 then 0 else findN l + 1
theorem findN_le (l : List Nat) : findN l ≤ l.length := by
  induction l with
  | nil => simp [findN]
  | cons x l ih => unfold findN; split <;> simp; omega
theorem drop_getD (l : List Nat) (k : Nat) (h : k < l.length) : l.drop k = l.getD k 0 :: l.drop (k + 1) := by
  rw [List.drop_eq_getElem_cons h]; simp [List.getD, h]
theorem findN_hit (l : List Nat) (k : Nat) (h : k < l.length) (hx : l.getD k 0 &&& 192 = 64) : findN (l.drop k) = 0 := by
  rw [drop_getD l k h]; unfold findN; rw [if_pos hx]
theorem findN_miss (l : List Nat) (k : Nat) (h : k < l.length) (hx : ¬ l.getD k 0 &&& 192 = 64) : findN (l.drop k) = findN (l.drop (k + 1)) + 1 := by
  rw [drop_getD l k h, findN, if_neg hx]

set_option maxHeartbeats 400000 in
theorem findF1_yes (x : Nat) (hx : x < 256) (h : x &&& 192 = 64) (w : World) :
    Calls Try.prog 27 #[.int .u8 x] w fun e w' => e = .returned (.bool true) ∧ w = w' := by
  have e : bits .and .u8 (x : Int) 192 = 64 := by have := u8_and_nat x 192 hx (by omega); rw [h] at this; exact this
  go_enter Try.func27, Try.ntmps27
  go_wp2
  go_ret
  exact ⟨rfl, rfl⟩
set_option maxHeartbeats 400000 in
theorem findF1_no (x : Nat) (hx : x < 256) (h : ¬ x &&& 192 = 64) (w : World) :
    Calls Try.prog 27 #[.int .u8 x] w fun e w' => e = .returned (.bool false) ∧ w = w' := by
  have e : (bits .and .u8 (x : Int) 192 == 64) = false := by
    have : bits .and .u8 (x : Int) 192 = ((x &&& 192 : Nat) : Int) := u8_and_nat x 192 hx (by omega)
    rw [this, beq_eq_false_iff_ne]; omega
  go_enter Try.func27, Try.ntmps27
  go_wp2
  go_ret
  exact ⟨rfl, rfl⟩

def indexI (l : List Nat) : Int := if findN l < l.length then (findN l : Nat) else -1

set_option maxHeartbeats 400000 in
theorem IndexFunc_any (a : Option Addr) (l : List Nat) (cap : Nat) (hl : l.length ≤ maxLen) (h8 : ∀ x ∈ l, x < 256) (w : World) (hc : Cells8 w a l) :
    Calls Try.prog 26 #[.slice a l.length cap, .func (Fn.func 27) #[] #[]] w fun e w' => e = .returned (.int .i64 (indexI l)) ∧ w = w' := by
  unfold maxLen at hl
  have Hc := Lib.hid hc
  have H8 := Lib.hid h8
  clear hc h8
  go_enter Try.func26, Try.ntmps26
  go_wp2_with fail
  go_loop [8] (fun i => ∃ k : Nat, k ≤ l.length ∧ i = .int .i64 k ∧ findN l = k + findN (l.drop k)) (fun i => l.length - (intOf i).toNat)
  case atStart => exact ⟨0, by omega, rfl, by simp⟩
  case round =>
    obtain ⟨k, hk, rfl, hf⟩ := hrel
    have Hf := Lib.hid hf
    clear hf
    by_cases hlt : k < l.length
    · obtain ⟨b, off, rfl, hcell⟩ := Hc.out k hlt
      have hx := H8.out _ (getD_mem l k hlt)
      have Hh := Lib.hid (findN_hit l k hlt)
      have Hm := Lib.hid (findN_miss l k hlt)
      revert hcell hx Hh Hm
      generalize l.getD k 0 = x
      intro hcell hx Hh Hm
      by_cases h : x &&& 192 = 64
      · have HC := Lib.hid (findF1_yes x hx h)
        have Hr := Lib.hid (Hh.out h)
        clear h
        go_wp2_with (go_at_call 27; refine (HC.out _).mono ?_; rintro e w' ⟨rfl, rfl⟩)
        go_ret
        refine ⟨?_, rfl⟩
        have hr := Hf.out
        rw [Hr.out] at hr
        simp only [indexI, hr, Nat.add_zero]
        rw [if_pos hlt]
        rfl
      · have HC := Lib.hid (findF1_no x hx h)
        have Hr := Lib.hid (Hm.out h)
        clear h
        go_wp2_with (go_at_call 27; refine (HC.out _).mono ?_; rintro e w' ⟨rfl, rfl⟩)
        go_round
        case rel => exact ⟨k + 1, by omega, by go_num, by rw [Hf.out, Hr.out]; omega⟩
        case measure => simp [intOf]; omega
    · have hkl : k = l.length := by omega
      have Hr : Hid (indexI l = -1) := by
        unfold Hid indexI
        have := Hf.out
        rw [if_neg (by omega)]
      clear hkl
      go_wp2_with fail
      go_ret
      exact ⟨by rw [Hr.out]; rfl, rfl⟩

set_option maxHeartbeats 400000 in
theorem Find_any (a : Option Addr) (l : List Nat) (len cap : Nat) (hlen : len = l.length) (hl : l.length ≤ maxLen) (h8 : ∀ x ∈ l, x < 256) (w : World) (hc : Cells8 w a l) :
    Calls Try.prog 10 #[.slice a len cap] w fun e w' => e = .returned (.int .i64 (findN l : Nat)) ∧ w = w' := by
  subst hlen
  have hle := findN_le l
  have HI := Lib.hid (IndexFunc_any a l cap hl h8 w hc)
  by_cases h : findN l < l.length
  · have Hi : Hid (indexI l = (findN l : Nat)) := by unfold Hid indexI; rw [if_pos h]
    rw [Hi.out] at HI
    revert hle HI h
    generalize findN l = f
    intro hle HI h
    clear Hi hc h8
    have hg : (0 : Int) ≤ f := by omega
    go_enter Try.func10, Try.ntmps10
    go_wp2_with (go_at_call 26; refine (HI.out).mono ?_; rintro e w' ⟨rfl, rfl⟩)
    go_ret
    exact ⟨rfl, rfl⟩
  · have Hi : Hid (indexI l = -1) := by unfold Hid indexI; rw [if_neg h]
    rw [Hi.out] at HI
    have Hf : Hid (findN l = l.length) := by unfold Hid; omega
    clear Hi hc h8 h hle
    go_enter Try.func10, Try.ntmps10
    go_wp2_with (go_at_call 26; refine (HI.out).mono ?_; rintro e w' ⟨rfl, rfl⟩)
    go_ret
    exact ⟨by rw [Hf.out]; rfl, rfl⟩

/-- What could not begin a frame, kept. -/
def quietL (l : List Nat) : List Nat := l.filter fun x => x / 64 != 1
theorem quietL_snoc (l : List Nat) (x : Nat) : quietL (l ++ [x]) = quietL l ++ (if x / 64 = 1 then [] else [x]) := by
  unfold quietL
  rw [List.filter_append]
  by_cases h : x / 64 = 1 <;> simp [List.filter_cons, h]
theorem quietL_le (l : List Nat) : (quietL l).length ≤ l.length := List.length_filter_le _ _
theorem and192 (x : Nat) (hx : x < 256) : x &&& 192 = 64 ↔ x / 64 = 1 := by
  have h : ∀ y : Fin 256, (y.val &&& 192 = 64 ↔ y.val / 64 = 1) := by decide +kernel
  exact h ⟨x, hx⟩
theorem findN_quiet (l m : List Nat) (h8 : ∀ x ∈ l, x < 256) : findN (quietL l ++ m) = (quietL l).length + findN m := by
  induction l with
  | nil => simp [quietL]
  | cons x l ih =>
    have ih := ih (fun y hy => h8 y (by simp [hy]))
    unfold quietL at *
    have hx := and192 x (h8 x (by simp))
    by_cases h : x / 64 = 1
    · simp only [List.filter_cons, h]; simpa using ih
    · simp only [List.filter_cons]
      have e : (x / 64 != 1) = true := by simpa using h
      rw [if_pos e, List.cons_append, findN, if_neg (by rw [hx]; exact h), ih]
      simp; omega
theorem findN_frame (n v : Nat) (hn : n < 64) (m : List Nat) : findN (frameL (n + 64) v ++ m) = 0 := by
  unfold frameL
  rw [List.cons_append, findN, if_pos]
  rw [and192 _ (by omega)]; omega
end Go.Proofs.Yteocmpaabihoiaa
