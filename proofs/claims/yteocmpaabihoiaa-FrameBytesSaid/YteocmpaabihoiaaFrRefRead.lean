/- locketref17: read, Decode, Read, Find. -/
import Derived.Test.YteocmpaabihoiaaFrRef
namespace Go.Proofs.Yteocmpaabihoiaa
open Go.RowKit
set_option linter.unusedVariables false
set_option linter.unusedSimpArgs false

theorem refRead_short (a : Option Addr) (len cap : Nat) (first : Int) (hl : len < 6) (w : World) :
    Calls Try.prog 30 #[.slice a len cap, .int .u8 first] w fun e w' => e = .returned (.tuple #[.int .i64 0, .int .u32 0, .int .i64 23]) ∧ w = w' := by
  have h : (len : Int) < 6 := by omega
  go_enter Try.func30, Try.ntmps30
  go_wp2
  go_ret3
  exact ⟨rfl, rfl⟩
theorem refRead_long (a : Option Addr) (len cap : Nat) (first : Int) (hl : 6 < len) (w : World) :
    Calls Try.prog 30 #[.slice a len cap, .int .u8 first] w fun e w' => e = .returned (.tuple #[.int .i64 0, .int .u32 0, .int .i64 24]) ∧ w = w' := by
  have h : (6 : Int) < (len : Int) := by omega
  go_enter Try.func30, Try.ntmps30
  go_wp2
  go_ret3
  exact ⟨rfl, rfl⟩
theorem top2 (x f : Nat) (hx : x < 256) (hf : f < 4) : x &&& 192 = f * 64 ↔ x / 64 = f := by
  have h : ∀ y : Fin 256, ∀ g : Fin 4, (y.val &&& 192 = g.val * 64 ↔ y.val / 64 = g.val) := by decide +kernel
  exact h ⟨x, hx⟩ ⟨f, hf⟩

set_option maxHeartbeats 1000000 in
theorem refRead_six (b off : Nat) (l : List Nat) (cap : Nat) (f : Nat) (hl : l.length = 6) (hcap : 6 ≤ cap) (hcap' : cap ≤ maxLen) (hf : f < 4) (h8 : ∀ x ∈ l, x < 256) (w : World) (hc : Cells8 w (some ⟨b, off, none⟩) l) :
    Calls Try.prog 30 #[.slice (some ⟨b, off, none⟩) 6 cap, .int .u8 f] w fun e w' => e = .returned (tripOf (readF l (f * 64))) ∧ ∃ n, w' = w.drewN n := by
  have k0 := hc.at0 0 (by omega)
  simp only [Nat.add_zero] at k0
  have k1 := hc.at0 1 (by omega)
  have k2 := hc.at0 2 (by omega)
  have k3 := hc.at0 3 (by omega)
  have k4 := hc.at0 4 (by omega)
  have k5 := hc.at0 5 (by omega)
  have b0 := h8 _ (getD_mem l 0 (by omega))
  have b1 := h8 _ (getD_mem l 1 (by omega))
  have b2 := h8 _ (getD_mem l 2 (by omega))
  have b3 := h8 _ (getD_mem l 3 (by omega))
  have b4 := h8 _ (getD_mem l 4 (by omega))
  have b5 := h8 _ (getD_mem l 5 (by omega))
  have HS := Lib.hid (fun w' hc' => RefSeven_any (some ⟨b, off, none⟩) (l.take 5) 5 cap (by simp; omega) (by simp [maxLen]; omega) (fun x hx => h8 x (List.mem_of_mem_take hx)) w' hc')
  have HC := Lib.hid hc
  have Hr : Hid (readF l (f * 64) = if l.getD 0 0 &&& 192 ≠ f * 64 ∨ l.getD 5 0 &&& 1 = 0 then (0, 0, 24) else if C7 (l.take 5) ≠ l.getD 5 0 / 2 then (0, 0, 25) else (l.getD 0 0 &&& 63, arg4 l, 0)) := by
    unfold Hid readF
    rw [if_neg (by omega)]
    simp [hl]
  have Ha : Hid (arg4 l = l.getD 1 0 * 16777216 + l.getD 2 0 * 65536 + l.getD 3 0 * 256 + l.getD 4 0) := rfl
  have hs := C7_lt (l.take 5) (fun x hx => h8 x (List.mem_of_mem_take hx))
  have Hl := Lib.hid hl
  unfold maxLen at hcap'
  clear hc hl h8
  revert k0 k1 k2 k3 k4 k5 b0 b1 b2 b3 b4 b5 Hr Ha HS hs
  generalize readF l (f * 64) = r, l.getD 0 0 = x0, l.getD 1 0 = x1, l.getD 2 0 = x2, l.getD 3 0 = x3, l.getD 4 0 = x4, l.getD 5 0 = x5, arg4 l = ar, C7 (l.take 5) = s
  intro k0 k1 k2 k3 k4 k5 b0 b1 b2 b3 b4 b5 HS Hr Ha hs
  have e5 : bits .and .u8 (x5 : Int) 1 = ((x5 &&& 1 : Nat) : Int) := u8_and_nat x5 1 b5 (by omega)
  have h51 : x5 &&& 1 = 0 ∨ x5 &&& 1 = 1 := by rw [Nat.and_one_is_mod]; omega
  have g0 : (0 : Int) < 6 := by omega
  by_cases h1 : x0 / 64 = f
  · have h1' : x0 &&& 192 = f * 64 := (top2 x0 f b0 hf).2 h1
    have t1 : ((x0 : Int) / 64 != (f : Int)) = false := by simp; omega
    by_cases h2 : x5 &&& 1 = 0
    · have t2 : (bits .and .u8 (x5 : Int) 1 != 1) = true := by rw [e5, h2]; rfl
      have Hf : Hid (r = (0, 0, 24)) := by unfold Hid; rw [Hr.out, if_pos (Or.inr h2)]
      clear e5 h1 h2 h51 h1'
      go_enter Try.func30, Try.ntmps30
      go_wp2
      go_ret3
      exact ⟨by rw [Hf.out]; rfl, 0, rfl⟩
    · have t2 : (bits .and .u8 (x5 : Int) 1 != 1) = false := by
        rw [e5, h51.resolve_left h2]; rfl
      by_cases h3 : s = x5 / 2
      · have t3 : ((s : Int) != (x5 : Int) / 2) = false := by simp; omega
        have Hf : Hid (r = (x0 &&& 63, ar, 0)) := by unfold Hid; rw [Hr.out, if_neg (fun h => h.elim (fun h => h h1') h2), if_neg (fun h => h h3)]
        have b6 : x0 &&& 63 < 64 := Nat.lt_of_le_of_lt (Nat.and_le_right) (by omega)
        have e6 : bits .and .u8 (x0 : Int) 63 = ((x0 &&& 63 : Nat) : Int) := u8_and_nat x0 63 b0 (by omega)
        have H6 := Lib.hid h3
        clear e5 h1 h2 h3 h51 h1'
        go_enter Try.func30, Try.ntmps30
        go_wp2
        go_quiet ((go_at_call 33; refine Calls.quiet_of_same ((HS.out _ ?_).mono fun e w' h => ⟨h.1, h.2.symm⟩); exact (Cells8.drewN HC.out _).take 5))
        go_wp2
        go_quiet (fail)
        go_wp2
        go_ret3
        refine ⟨?_, _, World.drewN_drewN _ _ _⟩
        rw [Hf.out, Ha.out]
        have e := argument_u32 x1 x2 x3 x4 b1 b2 b3 b4
        have e1 := u32_or_nat (x1 * 16777216) (x2 * 65536) (by omega) (by omega)
        have l1 : x1 * 16777216 ||| x2 * 65536 < 2 ^ 32 := Nat.or_lt_two_pow (by omega) (by omega)
        have e2 := u32_or_nat (x1 * 16777216 ||| x2 * 65536) (x3 * 256) (by omega) (by omega)
        have l2 : (x1 * 16777216 ||| x2 * 65536) ||| x3 * 256 < 2 ^ 32 := Nat.or_lt_two_pow (by omega) (by omega)
        have e3 := u32_or_nat ((x1 * 16777216 ||| x2 * 65536) ||| x3 * 256) x4 (by omega) (by omega)
        rw [e] at e3
        simp only [Int.natCast_mul, Int.cast_ofNat_Int] at e1 e2 e3
        simp [tripOf, e1, e2, e3, e6]
      · have t3 : ((s : Int) != (x5 : Int) / 2) = true := by simp; omega
        have Hf : Hid (r = (0, 0, 25)) := by unfold Hid; rw [Hr.out, if_neg (fun h => h.elim (fun h => h h1') h2), if_pos h3]
        clear e5 h1 h2 h3 h51 h1'
        go_enter Try.func30, Try.ntmps30
        go_wp2
        go_quiet ((go_at_call 33; refine Calls.quiet_of_same ((HS.out _ ?_).mono fun e w' h => ⟨h.1, h.2.symm⟩); exact (Cells8.drewN HC.out _).take 5))
        go_wp2
        go_ret3
        exact ⟨by rw [Hf.out]; rfl, _, rfl⟩
  · have h1' : ¬ x0 &&& 192 = f * 64 := fun h => h1 ((top2 x0 f b0 hf).1 h)
    have t1 : ((x0 : Int) / 64 != (f : Int)) = true := by simp; omega
    have Hf : Hid (r = (0, 0, 24)) := by unfold Hid; rw [Hr.out, if_pos (Or.inl h1')]
    clear e5 h1 h51 h1'
    go_enter Try.func30, Try.ntmps30
    go_wp2
    go_ret3
    exact ⟨by rw [Hf.out]; rfl, 0, rfl⟩

theorem readF_short (l : List Nat) (f : Nat) (h : l.length < 6) : readF l f = (0, 0, 23) := by unfold readF; rw [if_pos h]
theorem readF_long (l : List Nat) (f : Nat) (h : 6 < l.length) : readF l f = (0, 0, 24) := by unfold readF; rw [if_neg (by omega), if_pos (Or.inl h)]

theorem refRead_any (a : Option Addr) (l : List Nat) (len cap : Nat) (f : Nat) (hlen : len = l.length) (hcap : len ≤ cap) (hcap' : cap ≤ maxLen) (hf : f < 4) (h8 : ∀ x ∈ l, x < 256) (w : World) (hc : Cells8 w a l) :
    Calls Try.prog 30 #[.slice a len cap, .int .u8 f] w fun e w' => e = .returned (tripOf (readF l (f * 64))) ∧ ∃ n, w' = w.drewN n := by
  subst hlen
  by_cases h1 : l.length < 6
  · refine (refRead_short a l.length cap f h1 w).mono ?_
    rintro e w' ⟨rfl, rfl⟩
    exact ⟨by rw [readF_short l _ h1]; rfl, 0, rfl⟩
  · by_cases h2 : 6 < l.length
    · refine (refRead_long a l.length cap f h2 w).mono ?_
      rintro e w' ⟨rfl, rfl⟩
      exact ⟨by rw [readF_long l _ h2]; rfl, 0, rfl⟩
    · obtain ⟨b, off, rfl⟩ := hc.addr (by intro e; simp [e] at h1)
      have h6 : l.length = 6 := by omega
      rw [h6]
      exact refRead_six b off l cap f h6 (by omega) hcap' hf h8 w hc
theorem read_any (a : Option Addr) (l : List Nat) (len cap : Nat) (f : Nat) (hlen : len = l.length) (hcap : len ≤ cap) (hcap' : cap ≤ maxLen) (hf : f < 256) (h8 : ∀ x ∈ l, x < 256) (w : World) (hc : Cells8 w a l) :
    Calls Try.prog 25 #[.slice a len cap, .int .u8 f] w fun e w' => e = .returned (tripOf (readF l f)) ∧ ∃ n, w' = w.drewN n := by
  subst hlen
  by_cases h1 : l.length < 6
  · refine (read_short a l.length cap f h1 w).mono ?_
    rintro e w' ⟨rfl, rfl⟩
    exact ⟨by rw [readF_short l _ h1]; rfl, 0, rfl⟩
  · by_cases h2 : 6 < l.length
    · refine (read_long a l.length cap f h2 w).mono ?_
      rintro e w' ⟨rfl, rfl⟩
      exact ⟨by rw [readF_long l _ h2]; rfl, 0, rfl⟩
    · obtain ⟨b, off, rfl⟩ := hc.addr (by intro e; simp [e] at h1)
      have h6 : l.length = 6 := by omega
      rw [h6]
      exact read_six b off l cap f h6 (by omega) hcap' hf h8 w hc

theorem Decode_any (a : Option Addr) (l : List Nat) (len cap : Nat) (hlen : len = l.length) (hcap : len ≤ cap) (hcap' : cap ≤ maxLen) (h8 : ∀ x ∈ l, x < 256) (w : World) (hc : Cells8 w a l) :
    Calls Try.prog 9 #[.slice a len cap] w fun e w' => e = .returned (cmdOf (readF l 64)) ∧ Below w.heap.size w w' := by
  subst hlen
  have HC := Lib.hid hc
  clear hc
  go_enter Try.func9, Try.ntmps9
  go_wp2_with fail
  refine (read_any a l l.length cap 64 rfl hcap hcap' (by omega) h8 _ ?_).mono ?_
  · exact HC.out.keep (fun p v h => (World.cell?_alloc_lt _ _ _ (World.block_lt_of_cell? w p h)).trans h)
  rintro e w1 ⟨rfl, n, rfl⟩
  unfold tripOf
  go_wp2
  refine bodyPost_ret (v := cmdOf (readF l 64)) (by simp [results, Try.results9, go_sem, cmdOf]) rfl ⟨rfl, ?_⟩
  (repeat (first | (with_reducible refine Below.drew ?_) | (with_reducible refine below_drewN0 ?_ _) | ((with_reducible refine Below.setCell ?_ ?_ _); rotate_left; focus (first | omega | (simp; done) | (simp; omega) | (simp at *; omega))) | ((with_reducible refine Below.alloc ?_ ?_ _); rotate_left; focus (first | omega | (simp; done) | (simp; omega) | (simp at *; omega))) | (with_reducible exact Below.refl _ _)))
theorem refDecode_any (a : Option Addr) (l : List Nat) (len cap : Nat) (hlen : len = l.length) (hcap : len ≤ cap) (hcap' : cap ≤ maxLen) (h8 : ∀ x ∈ l, x < 256) (w : World) (hc : Cells8 w a l) :
    Calls Try.prog 16 #[.slice a len cap] w fun e w' => e = .returned (cmdOf (readF l 64)) ∧ Below w.heap.size w w' := by
  subst hlen
  have HC := Lib.hid hc
  clear hc
  go_enter Try.func16, Try.ntmps16
  go_wp2_with fail
  refine (refRead_any a l l.length cap 1 rfl hcap hcap' (by omega) h8 _ ?_).mono ?_
  · exact HC.out.keep (fun p v h => (World.cell?_alloc_lt _ _ _ (World.block_lt_of_cell? w p h)).trans h)
  rintro e w1 ⟨rfl, n, rfl⟩
  rw [Nat.one_mul]
  unfold tripOf
  go_wp2
  refine bodyPost_ret (v := cmdOf (readF l 64)) (by simp [results, Try.results16, go_sem, cmdOf]) rfl ⟨rfl, ?_⟩
  (repeat (first | (with_reducible refine Below.drew ?_) | (with_reducible refine below_drewN0 ?_ _) | ((with_reducible refine Below.setCell ?_ ?_ _); rotate_left; focus (first | omega | (simp; done) | (simp; omega) | (simp at *; omega))) | ((with_reducible refine Below.alloc ?_ ?_ _); rotate_left; focus (first | omega | (simp; done) | (simp; omega) | (simp at *; omega))) | (with_reducible exact Below.refl _ _)))
theorem refReadTop_any (a : Option Addr) (l : List Nat) (len cap : Nat) (hlen : len = l.length) (hcap : len ≤ cap) (hcap' : cap ≤ maxLen) (h8 : ∀ x ∈ l, x < 256) (w : World) (hc : Cells8 w a l) :
    Calls Try.prog 18 #[.slice a len cap] w fun e w' => e = .returned (tripOf (readF l 0)) ∧ ∃ n, w' = w.drewN n := by
  have HR := Lib.hid (refRead_any a l len cap 0 hlen hcap hcap' (by omega) h8 w hc)
  rw [Nat.zero_mul] at HR
  clear hc hlen
  go_enter Try.func18, Try.ntmps18
  go_wp2_with fail
  refine (HR.out).mono ?_
  rintro e w1 ⟨rfl, n, rfl⟩
  unfold tripOf
  go_wp2
  go_ret3
  exact ⟨rfl, n, rfl⟩

set_option maxHeartbeats 400000 in
theorem refFind_any (a : Option Addr) (l : List Nat) (len cap : Nat) (hlen : len = l.length) (hl : l.length ≤ maxLen) (h8 : ∀ x ∈ l, x < 256) (w : World) (hc : Cells8 w a l) :
    Calls Try.prog 17 #[.slice a len cap] w fun e w' => e = .returned (.int .i64 (findN l : Nat)) ∧ w = w' := by
  subst hlen
  unfold maxLen at hl
  have Hc := Lib.hid hc
  have H8 := Lib.hid h8
  clear hc h8
  go_enter Try.func17, Try.ntmps17
  go_wp2_with fail
  go_loop [3] (fun i => ∃ k : Nat, k ≤ l.length ∧ i = .int .i64 k ∧ findN l = k + findN (l.drop k)) (fun i => l.length - (intOf i).toNat)
  case atStart => exact ⟨0, by omega, rfl, by simp⟩
  case round =>
    obtain ⟨k, hk, rfl, hf⟩ := hrel
    have Hf := Lib.hid hf
    clear hf
    by_cases hlt : k < l.length
    · obtain ⟨b, off, rfl, hcell⟩ := Hc.out k hlt
      have hx := H8.out _ (getD_mem l k hlt)
      have Hh := Lib.hid (findN_hit l k hlt)
      have Hm := Lib.hid (findN_miss l k hlt)
      revert hcell hx Hh Hm
      generalize l.getD k 0 = x
      intro hcell hx Hh Hm
      by_cases h : x / 64 = 1
      · have ht : ((x : Int) / 64 == 1) = true := by simp; omega
        have Hr := Lib.hid (Hh.out ((and192 x hx).2 h))
        clear h
        go_wp2_with fail
        go_ret
        refine ⟨?_, rfl⟩
        have hr := Hf.out
        rw [Hr.out] at hr
        simp [hr]
      · have ht : ((x : Int) / 64 == 1) = false := by rw [beq_eq_false_iff_ne]; omega
        have Hr := Lib.hid (Hm.out (fun e => h ((and192 x hx).1 e)))
        clear h
        go_wp2_with fail
        go_round
        case rel => exact ⟨k + 1, by omega, by go_num, by rw [Hf.out, Hr.out]; omega⟩
        case measure => simp [intOf]; omega
    · have hkl : k = l.length := by omega
      have Hr : Hid (findN l = l.length) := by
        unfold Hid
        rw [Hf.out, hkl, List.drop_length]; rfl
      clear hkl
      go_wp2_with fail
      go_ret
      exact ⟨by rw [Hr.out]; rfl, rfl⟩

def readyV (v : Nat) : Value := .agg #[.int .u8 63, .int .u8 ((v : Int) / 16777216), .int .u8 ((v : Int) / 65536 % 256), .int .u8 ((v : Int) / 256 % 256), .int .u8 ((v : Int) % 256), .int .u8 255]
theorem Ready_any (v : Nat) (hv : v < 4294967296) (w : World) :
    Calls Try.prog 21 #[.int .u32 v] w fun e w' => e = .returned (readyV v) ∧ Below w.heap.size w w' := by
  go_enter Try.func21, Try.ntmps21
  go_wp2
  refine bodyPost_ret (v := readyV v) (by simp [results, Try.results21, go_sem, readyV]) rfl ⟨rfl, ?_⟩
  (repeat (first | (with_reducible refine Below.drew ?_) | (with_reducible refine below_drewN0 ?_ _) | ((with_reducible refine Below.setCell ?_ ?_ _); rotate_left; focus (first | omega | (simp; done) | (simp; omega) | (simp at *; omega))) | ((with_reducible refine Below.alloc ?_ ?_ _); rotate_left; focus (first | omega | (simp; done) | (simp; omega) | (simp at *; omega))) | (with_reducible exact Below.refl _ _)))
theorem refReady_any (v : Nat) (hv : v < 4294967296) (w : World) :
    Calls Try.prog 22 #[.int .u32 v] w fun e w' => e = .returned (readyV v) ∧ Below w.heap.size w w' := by
  go_enter Try.func22, Try.ntmps22
  go_wp2
  refine bodyPost_ret (v := readyV v) (by simp [results, Try.results22, go_sem, readyV]) rfl ⟨rfl, ?_⟩
  (repeat (first | (with_reducible refine Below.drew ?_) | (with_reducible refine below_drewN0 ?_ _) | ((with_reducible refine Below.setCell ?_ ?_ _); rotate_left; focus (first | omega | (simp; done) | (simp; omega) | (simp at *; omega))) | ((with_reducible refine Below.alloc ?_ ?_ _); rotate_left; focus (first | omega | (simp; done) | (simp; omega) | (simp at *; omega))) | (with_reducible exact Below.refl _ _)))
end Go.Proofs.Yteocmpaabihoiaa
