/- frame.lay, Encode, read, Argument, Decode: what they compute. -/
import Derived.Test.YteocmpaabihoiaaCrc7
namespace Go.Proofs.Yteocmpaabihoiaa
open Go.RowKit
set_option linter.unusedVariables false
set_option linter.unusedSimpArgs false

theorem or1 (s : Nat) (h : s < 128) : bits .or .u8 ((s : Int) * 2) 1 = (s : Int) * 2 + 1 := by
  have := u8_or_nat (s * 2) 1 (by omega) (by omega)
  have e : (s * 2) ||| 1 = s * 2 + 1 := by
    have := Nat.two_pow_add_eq_or_of_lt (i := 1) (b := 1) (by omega) s
    rw [show s * 2 = 2 ^ 1 * s by omega, ← this]
  rw [e] at this; simpa using this

def body (a v : Nat) : List Nat := [a, v / 16777216, v / 65536 % 256, v / 256 % 256, v % 256]
def sum7 (a v : Nat) : Nat := C7 (body a v)
theorem body_lt (a v : Nat) (ha : a < 256) (hv : v < 4294967296) : ∀ x ∈ body a v, x < 256 := by
  intro x hx; simp [body] at hx; omega
theorem sum7_lt (a v : Nat) (ha : a < 256) (hv : v < 4294967296) : sum7 a v < 128 := C7_lt _ (body_lt a v ha hv)
/-- A frame's value. -/
def laid (a v : Nat) : Value := .agg #[.int .u8 a, .int .u8 ((v : Int) / 16777216), .int .u8 ((v : Int) / 65536 % 256), .int .u8 ((v : Int) / 256 % 256), .int .u8 ((v : Int) % 256), .int .u8 ((sum7 a v : Int) * 2 + 1)]
def frameL (a v : Nat) : List Nat := [a, v / 16777216, v / 65536 % 256, v / 256 % 256, v % 256, sum7 a v * 2 + 1]
theorem t6_info : (Try.prog.info? 5).isSome = true := by kernel_rfl
theorem t6_plain : Try.prog.plainKey 5 = true := by kernel_rfl
theorem t6_cells : Try.prog.cellsOf 5 = 1 := by kernel_rfl
/-- '==' of two frames. -/
theorem eql6 (a b c d e f a' b' c' d' e' f' : Int) (w : World) :
    (binOp .eql 26 (.agg #[.int .u8 a, .int .u8 b, .int .u8 c, .int .u8 d, .int .u8 e, .int .u8 f]) (.agg #[.int .u8 a', .int .u8 b', .int .u8 c', .int .u8 d', .int .u8 e', .int .u8 f'])).run Try.prog w =
      .ok (.bool ([a, b, c, d, e, f] == [a', b', c', d', e', f'])) w := by
  obtain ⟨i, hi⟩ := Option.isSome_iff_exists.1 t6_info
  exact run_eql_ints (P := Try.prog) w .u8 Try.underlying26 hi Try.underlying5 t6_plain t6_cells [a, b, c, d, e, f] [a', b', c', d', e', f'] rfl rfl
theorem neq6 (a b c d e f a' b' c' d' e' f' : Int) (w : World) :
    (binOp .neq 26 (.agg #[.int .u8 a, .int .u8 b, .int .u8 c, .int .u8 d, .int .u8 e, .int .u8 f]) (.agg #[.int .u8 a', .int .u8 b', .int .u8 c', .int .u8 d', .int .u8 e', .int .u8 f'])).run Try.prog w =
      .ok (.bool ([a, b, c, d, e, f] != [a', b', c', d', e', f'])) w := by
  obtain ⟨i, hi⟩ := Option.isSome_iff_exists.1 t6_info
  exact run_neq_ints (P := Try.prog) w .u8 Try.underlying26 hi Try.underlying5 t6_plain t6_cells [a, b, c, d, e, f] [a', b', c', d', e', f'] rfl rfl
def six (l : List Nat) : Value := .agg #[.int .u8 (l.getD 0 0 : Nat), .int .u8 (l.getD 1 0 : Nat), .int .u8 (l.getD 2 0 : Nat), .int .u8 (l.getD 3 0 : Nat), .int .u8 (l.getD 4 0 : Nat), .int .u8 (l.getD 5 0 : Nat)]
theorem laid_six (a v : Nat) : laid a v = six (frameL a v) := by simp [laid, six, frameL]

set_option maxHeartbeats 400000 in
theorem lay_any (a v : Nat) (ha : a < 256) (hv : v < 4294967296) (w : World) :
    Calls Try.prog 24 #[.int .u8 a, .int .u32 v] w fun e w' => e = .returned (laid a v) ∧ Below w.heap.size w w' := by
  have hs := sum7_lt a v ha hv
  go_enter Try.func24, Try.ntmps24
  go_wp2_with fail
  refine (Seven_any (some ⟨w.heap.size + 1, 0, none⟩) (body a v) 5 5 rfl (by simp [body, maxLen]) (body_lt a v ha hv) _ ?_).mono ?_
  · intro i hi
    refine ⟨_, _, rfl, ?_⟩
    simp only [body, List.length_cons, List.length_nil] at hi
    have : i = 0 ∨ i = 1 ∨ i = 2 ∨ i = 3 ∨ i = 4 := by omega
    rcases this with rfl | rfl | rfl | rfl | rfl <;> simp [body, go_sem]
  rintro e w' ⟨rfl, rfl⟩
  rw [show C7 (body a v) = sum7 a v from rfl]
  have Hl : Hid (laid a v = .agg #[.int .u8 a, .int .u8 ((v : Int) / 16777216), .int .u8 ((v : Int) / 65536 % 256), .int .u8 ((v : Int) / 256 % 256), .int .u8 ((v : Int) % 256), .int .u8 ((sum7 a v : Int) * 2 + 1)]) := Lib.hid rfl
  revert hs Hl
  generalize sum7 a v = s
  intro hs Hl
  have e := or1 s hs
  go_wp2
  refine bodyPost_ret (v := laid a v) (by rw [Hl.out]; simp [results, Try.results24, go_sem]) rfl ⟨rfl, ?_⟩
  exact ((Below.refl _ _).alloc (Nat.le_refl _) _).alloc (by simp) _

theorem or64 (n : Nat) (h : n < 64) : bits .or .u8 64 (n : Int) = (n : Int) + 64 := by
  have h1 := u8_or_nat 64 n (by omega) (by omega)
  have e : 64 ||| n = n + 64 := by
    have := Nat.two_pow_add_eq_or_of_lt (i := 6) (b := n) (by omega) 1
    simp at this; omega
  rw [e] at h1; simpa using h1

set_option maxHeartbeats 400000 in
theorem Encode_no (n : Int) (v : Nat) (hn : n < 0 ∨ 63 < n) (w : World) :
    Calls Try.prog 8 #[.agg #[.int .i64 n, .int .u32 v]] w fun e w' =>
      e = .returned (.tuple #[.agg #[.int .u8 0, .int .u8 0, .int .u8 0, .int .u8 0, .int .u8 0, .int .u8 0], .int .i64 1]) ∧ Below w.heap.size w w' := by
  rcases hn with hn | hn
  · go_enter Try.func8, Try.ntmps8
    go_wp2
    refine bodyPost_ret (v := .tuple #[.agg #[.int .u8 0, .int .u8 0, .int .u8 0, .int .u8 0, .int .u8 0, .int .u8 0], .int .i64 1]) (by simp [results, Try.results8, go_sem]) rfl ⟨rfl, ?_⟩
    exact ((Below.refl _ _).alloc (Nat.le_refl _) _).alloc (by simp) _
  · have h0 : ¬ n < 0 := by omega
    go_enter Try.func8, Try.ntmps8
    go_wp2
    refine bodyPost_ret (v := .tuple #[.agg #[.int .u8 0, .int .u8 0, .int .u8 0, .int .u8 0, .int .u8 0, .int .u8 0], .int .i64 1]) (by simp [results, Try.results8, go_sem]) rfl ⟨rfl, ?_⟩
    exact ((Below.refl _ _).alloc (Nat.le_refl _) _).alloc (by simp) _

set_option maxHeartbeats 400000 in
theorem Encode_yes (n v : Nat) (hn : n < 64) (hv : v < 4294967296) (w : World) :
    Calls Try.prog 8 #[.agg #[.int .i64 n, .int .u32 v]] w fun e w' =>
      e = .returned (.tuple #[laid (n + 64) v, .int .i64 0]) ∧ Below w.heap.size w w' := by
  have e := or64 n hn
  go_enter Try.func8, Try.ntmps8
  go_wp2_with fail
  rw [show ((n : Int) + 64) = ((n + 64 : Nat) : Int) from by simp]
  refine (lay_any (n + 64) v (by omega) hv _).mono ?_
  rintro e w1 ⟨rfl, hb⟩
  obtain ⟨hc, hf⟩ := bcell hb
  have hz : w.heap.size + 1 < w1.heap.size := by have := hb.size; simp at this; omega
  unfold laid
  go_wp2
  refine bodyPost_ret (v := .tuple #[laid (n + 64) v, .int .i64 0]) (by simp [results, Try.results8, go_sem, laid, hc, hz]) rfl ⟨rfl, ?_⟩
  (have hsz0 := Below.size hb; repeat (first | (with_reducible refine Below.drew ?_) | (with_reducible refine below_drewN0 ?_ _) | ((with_reducible refine Below.setCell ?_ ?_ _); rotate_left; focus (first | omega | (simp; done) | (simp; omega) | (simp at *; omega))) | ((with_reducible refine Below.alloc ?_ ?_ _); rotate_left; focus (first | omega | (simp; done) | (simp; omega) | (simp at *; omega))) | ((with_reducible refine Below.trans ?_ (Below.mono hb ?_)); rotate_left; focus (first | omega | (simp; done) | (simp; omega) | (simp at *; omega))) | (with_reducible exact Below.refl _ _)))

theorem argument_u32 (b1 b2 b3 b4 : Nat) (h1 : b1 < 256) (h2 : b2 < 256) (h3 : b3 < 256) (h4 : b4 < 256) :
    ((b1 * 16777216 ||| b2 * 65536) ||| b3 * 256) ||| b4 = b1 * 16777216 + b2 * 65536 + b3 * 256 + b4 := by
  have e1 : b1 * 16777216 ||| b2 * 65536 = b1 * 16777216 + b2 * 65536 := by
    have := Nat.two_pow_add_eq_or_of_lt (i := 24) (b := b2 * 65536) (by omega) b1
    rw [show b1 * 16777216 = 2 ^ 24 * b1 by omega, ← this]
  rw [e1]
  have e2 : (b1 * 16777216 + b2 * 65536) ||| b3 * 256 = b1 * 16777216 + b2 * 65536 + b3 * 256 := by
    have := Nat.two_pow_add_eq_or_of_lt (i := 16) (b := b3 * 256) (by omega) (b1 * 256 + b2)
    rw [show b1 * 16777216 + b2 * 65536 = 2 ^ 16 * (b1 * 256 + b2) by omega, ← this]
  rw [e2]
  have := Nat.two_pow_add_eq_or_of_lt (i := 8) (b := b4) (by omega) (b1 * 65536 + b2 * 256 + b3)
  rw [show b1 * 16777216 + b2 * 65536 + b3 * 256 = 2 ^ 8 * (b1 * 65536 + b2 * 256 + b3) by omega, ← this]

def arg4 (l : List Nat) : Nat := l.getD 1 0 * 16777216 + l.getD 2 0 * 65536 + l.getD 3 0 * 256 + l.getD 4 0

set_option maxHeartbeats 400000 in
theorem Argument_any (b off : Nat) (l : List Nat) (len cap : Nat) (hlen : len = l.length) (hl : 5 ≤ l.length) (h8 : ∀ x ∈ l, x < 256) (w : World) (hc : Cells8 w (some ⟨b, off, none⟩) l) :
    Calls Try.prog 32 #[.slice (some ⟨b, off, none⟩) len cap] w fun e w' => e = .returned (.int .u32 (arg4 l : Nat)) ∧ ∃ n, w' = w.drewN n := by
  have k1 := hc.at0 1 (by omega)
  have k2 := hc.at0 2 (by omega)
  have k3 := hc.at0 3 (by omega)
  have k4 := hc.at0 4 (by omega)
  have b1 := h8 _ (getD_mem l 1 (by omega))
  have b2 := h8 _ (getD_mem l 2 (by omega))
  have b3 := h8 _ (getD_mem l 3 (by omega))
  have b4 := h8 _ (getD_mem l 4 (by omega))
  unfold arg4
  revert k1 k2 k3 k4 b1 b2 b3 b4
  generalize l.getD 1 0 = x1, l.getD 2 0 = x2, l.getD 3 0 = x3, l.getD 4 0 = x4
  intro k1 k2 k3 k4 b1 b2 b3 b4
  have g : (1 : Int) < len ∧ (2 : Int) < len ∧ (3 : Int) < len ∧ (4 : Int) < len := by omega
  clear hc hlen h8
  go_enter Try.func32, Try.ntmps32
  go_wp2
  go_quiet (fail)
  go_wp2
  go_ret
  refine ⟨?_, _, rfl⟩
  have e := argument_u32 x1 x2 x3 x4 b1 b2 b3 b4
  have e1 := u32_or_nat (x1 * 16777216) (x2 * 65536) (by omega) (by omega)
  have l1 : x1 * 16777216 ||| x2 * 65536 < 2 ^ 32 := Nat.or_lt_two_pow (by omega) (by omega)
  have e2 := u32_or_nat (x1 * 16777216 ||| x2 * 65536) (x3 * 256) (by omega) (by omega)
  have l2 : (x1 * 16777216 ||| x2 * 65536) ||| x3 * 256 < 2 ^ 32 := Nat.or_lt_two_pow (by omega) (by omega)
  have e3 := u32_or_nat ((x1 * 16777216 ||| x2 * 65536) ||| x3 * 256) x4 (by omega) (by omega)
  rw [e] at e3
  simp only [Int.natCast_mul, Int.cast_ofNat_Int] at e1 e2 e3
  simp only [List.getD, Array.getD]
  simp [e1, e2, e3]

/-- What a frame that begins with some bits tells. -/
def readF (l : List Nat) (first : Nat) : Nat × Nat × Nat :=
  if l.length < 6 then (0, 0, 23)
  else if 6 < l.length ∨ l.getD 0 0 &&& 192 ≠ first ∨ l.getD 5 0 &&& 1 = 0 then (0, 0, 24)
  else if C7 (l.take 5) ≠ l.getD 5 0 / 2 then (0, 0, 25)
  else (l.getD 0 0 &&& 63, arg4 l, 0)

theorem Cells8.take {w : World} {a : Option Addr} {l : List Nat} (h : Cells8 w a l) (k : Nat) : Cells8 w a (l.take k) := by
  intro i hi
  obtain ⟨b, off, e, hc⟩ := h i (by simp at hi; omega)
  refine ⟨b, off, e, ?_⟩
  rw [hc]
  simp at hi
  have : i < k := by omega
  simp [List.getD, List.getElem?_take, this]

theorem Cells8.drewN {w : World} {a : Option Addr} {l : List Nat} (h : Cells8 w a l) (n : Nat) : Cells8 (w.drewN n) a l := by
  intro i hi
  obtain ⟨b, off, e, hc⟩ := h i hi
  exact ⟨b, off, e, by simpa [go_sem] using hc⟩

set_option maxHeartbeats 400000 in
theorem read_short (a : Option Addr) (len cap : Nat) (first : Int) (hl : len < 6) (w : World) :
    Calls Try.prog 25 #[.slice a len cap, .int .u8 first] w fun e w' => e = .returned (.tuple #[.int .i64 0, .int .u32 0, .int .i64 23]) ∧ w = w' := by
  have h : (len : Int) < 6 := by omega
  go_enter Try.func25, Try.ntmps25
  go_wp2
  go_ret3
  exact ⟨rfl, rfl⟩

set_option maxHeartbeats 400000 in
theorem read_long (a : Option Addr) (len cap : Nat) (first : Int) (hl : 6 < len) (w : World) :
    Calls Try.prog 25 #[.slice a len cap, .int .u8 first] w fun e w' => e = .returned (.tuple #[.int .i64 0, .int .u32 0, .int .i64 24]) ∧ w = w' := by
  have h : (6 : Int) < (len : Int) := by omega
  go_enter Try.func25, Try.ntmps25
  go_wp2
  go_ret3
  exact ⟨rfl, rfl⟩

set_option maxHeartbeats 400000 in
theorem read_six (b off : Nat) (l : List Nat) (cap : Nat) (first : Nat) (hl : l.length = 6) (hcap : 6 ≤ cap) (hcap' : cap ≤ maxLen) (hf : first < 256) (h8 : ∀ x ∈ l, x < 256) (w : World) (hc : Cells8 w (some ⟨b, off, none⟩) l) :
    Calls Try.prog 25 #[.slice (some ⟨b, off, none⟩) 6 cap, .int .u8 first] w fun e w' =>
      e = .returned (.tuple #[.int .i64 (readF l first).1, .int .u32 (readF l first).2.1, .int .i64 (readF l first).2.2]) ∧ ∃ n, w' = w.drewN n := by
  have k0 := hc.at0 0 (by omega)
  simp only [Nat.add_zero] at k0
  have k5 := hc.at0 5 (by omega)
  have b0 := h8 _ (getD_mem l 0 (by omega))
  have b5 := h8 _ (getD_mem l 5 (by omega))
  have HA := Lib.hid (fun w' hc' => Argument_any b off l 6 cap hl.symm (by omega) h8 w' hc')
  have HS := Lib.hid (fun w' hc' => Seven_any (some ⟨b, off, none⟩) (l.take 5) 5 5 (by simp; omega) (by simp [maxLen]; omega) (fun x hx => h8 x (List.mem_of_mem_take hx)) w' hc')
  have HC := Lib.hid hc
  have Hr : Hid (readF l first = if l.getD 0 0 &&& 192 ≠ first ∨ l.getD 5 0 &&& 1 = 0 then (0, 0, 24) else if C7 (l.take 5) ≠ l.getD 5 0 / 2 then (0, 0, 25) else (l.getD 0 0 &&& 63, arg4 l, 0)) := by
    unfold Hid readF
    rw [if_neg (by omega)]
    simp [hl]
  have hs := C7_lt (l.take 5) (fun x hx => h8 x (List.mem_of_mem_take hx))
  have Hl := Lib.hid hl
  clear hc hl
  revert k0 k5 b0 b5 Hr HA HS hs
  generalize readF l first = r, l.getD 0 0 = x0, l.getD 5 0 = x5, arg4 l = ar, C7 (l.take 5) = s
  intro k0 k5 b0 b5 HA HS Hr hs
  have e0 : bits .and .u8 (x0 : Int) 192 = ((x0 &&& 192 : Nat) : Int) := u8_and_nat x0 192 b0 (by omega)
  have e5 : bits .and .u8 (x5 : Int) 1 = ((x5 &&& 1 : Nat) : Int) := u8_and_nat x5 1 b5 (by omega)
  have g0 : (0 : Int) < 6 := by omega
  by_cases h1 : x0 &&& 192 = first
  · by_cases h2 : x5 &&& 1 = 0
    · have t1 : (bits .and .u8 (x0 : Int) 192 != (first : Int)) = false := by rw [e0, h1]; simp
      have t2 : (bits .and .u8 (x5 : Int) 1 == 0) = true := by rw [e5, h2]; simp
      have Hf : Hid (r = (0, 0, 24)) := by unfold Hid; rw [Hr.out, if_pos (Or.inr h2)]
      clear e0 e5 h1 h2
      go_enter Try.func25, Try.ntmps25
      go_wp2
      go_ret3
      exact ⟨by rw [Hf.out]; rfl, 0, rfl⟩
    · have t1 : (bits .and .u8 (x0 : Int) 192 != (first : Int)) = false := by rw [e0, h1]; simp
      have t2 : (bits .and .u8 (x5 : Int) 1 == 0) = false := by rw [e5]; rw [beq_eq_false_iff_ne]; omega
      by_cases h3 : s = x5 / 2
      · have t3 : ((s : Int) != (x5 : Int) / 2) = false := by simp; omega
        have Hf : Hid (r = (x0 &&& 63, ar, 0)) := by unfold Hid; rw [Hr.out, if_neg (fun h => h.elim (fun h => h h1) h2), if_neg (fun h => h h3)]
        have b6 : x0 &&& 63 < 64 := Nat.lt_of_le_of_lt (Nat.and_le_right) (by omega)
        have e6 : bits .and .u8 (x0 : Int) 63 = ((x0 &&& 63 : Nat) : Int) := u8_and_nat x0 63 b0 (by omega)
        have H6 := Lib.hid h3
        clear e0 e5 h1 h2 h3
        go_enter Try.func25, Try.ntmps25
        go_wp2
        go_quiet ((go_at_call 31; refine Calls.quiet_of_same ((HS.out _ ?_).mono fun e w' h => ⟨h.1, h.2.symm⟩); exact (Cells8.drewN HC.out _).take 5))
        go_wp2
        have k0' : (w.drewN nq).cell? ⟨b, off, none⟩ = some (Value.int IntKind.u8 ↑x0) := by simpa [go_sem] using k0
        have HC' := Lib.hid (Cells8.drewN HC.out nq)
        have Hw : Hid (∃ n, w.drewN nq = w.drewN n) := ⟨nq, rfl⟩
        clear k0 k5 HC HS
        revert k0' HC' Hw
        generalize w.drewN nq = w1
        intro k0' HC' Hw
        go_quiet ((go_at_call 32; refine Calls.quiet_of (HA.out _ ?_); exact (Cells8.drewN HC'.out _)))
        go_wp2
        go_ret3
        refine ⟨?_, ?_⟩
        · rw [Hf.out]; simp [e6]
        · obtain ⟨n, h⟩ := Hw.out
          rw [h]; exact ⟨_, World.drewN_drewN _ _ _⟩
      · have t3 : ((s : Int) != (x5 : Int) / 2) = true := by simp; omega
        have Hf : Hid (r = (0, 0, 25)) := by unfold Hid; rw [Hr.out, if_neg (fun h => h.elim (fun h => h h1) h2), if_pos h3]
        clear e0 e5 h1 h2 h3
        go_enter Try.func25, Try.ntmps25
        go_wp2
        go_quiet ((go_at_call 31; refine Calls.quiet_of_same ((HS.out _ ?_).mono fun e w' h => ⟨h.1, h.2.symm⟩); exact (Cells8.drewN HC.out _).take 5))
        go_wp2
        go_ret3
        exact ⟨by rw [Hf.out]; rfl, _, rfl⟩
  · have t1 : (bits .and .u8 (x0 : Int) 192 != (first : Int)) = true := by rw [e0]; simp; omega
    have Hf : Hid (r = (0, 0, 24)) := by unfold Hid; rw [Hr.out, if_pos (Or.inl h1)]
    clear e0 e5 h1
    go_enter Try.func25, Try.ntmps25
    go_wp2
    go_ret3
    exact ⟨by rw [Hf.out]; rfl, 0, rfl⟩

/-- What a command's frame tells: index, argument, error. -/
def cmdOf (r : Nat × Nat × Nat) : Value := .tuple #[.agg #[.int .i64 r.1, .int .u32 r.2.1], .int .i64 r.2.2]

set_option maxHeartbeats 400000 in
theorem Decode_six (b off : Nat) (l : List Nat) (cap : Nat) (hl : l.length = 6) (hcap : 6 ≤ cap) (hcap' : cap ≤ maxLen) (h8 : ∀ x ∈ l, x < 256) (w : World) (hc : Cells8 w (some ⟨b, off, none⟩) l) (hb : b < w.heap.size) :
    Calls Try.prog 9 #[.slice (some ⟨b, off, none⟩) 6 cap] w fun e w' => e = .returned (cmdOf (readF l 64)) ∧ Below w.heap.size w w' := by
  have HC := Lib.hid hc
  have Hl := Lib.hid hl
  clear hc hl
  go_enter Try.func9, Try.ntmps9
  go_wp2_with fail
  refine (read_six b off l cap 64 Hl.out hcap hcap' (by omega) h8 _ ?_).mono ?_
  · intro i hi
    obtain ⟨b', off', e, hcell⟩ := HC.out i hi
    refine ⟨b', off', e, ?_⟩
    simp at e
    obtain ⟨rfl, rfl⟩ := e
    rw [World.cell?_alloc_lt _ _ _ hb]; exact hcell
  rintro e w1 ⟨rfl, n, rfl⟩
  go_wp2
  refine bodyPost_ret (v := cmdOf (readF l 64)) (by simp [results, Try.results9, go_sem, cmdOf]) rfl ⟨rfl, ?_⟩
  (repeat (first | (with_reducible refine Below.drew ?_) | (with_reducible refine below_drewN0 ?_ _) | ((with_reducible refine Below.setCell ?_ ?_ _); rotate_left; focus (first | omega | (simp; done) | (simp; omega) | (simp at *; omega))) | ((with_reducible refine Below.alloc ?_ ?_ _); rotate_left; focus (first | omega | (simp; done) | (simp; omega) | (simp at *; omega))) | (with_reducible exact Below.refl _ _)))
end Go.Proofs.Yteocmpaabihoiaa
