/- The walk of FrameBursts, its loop. -/
import Derived.Test.YteocmpaabihoiaaFrBursts
namespace Go.Proofs.Yteocmpaabihoiaa
open Go.RowKit
set_option linter.unusedVariables false
set_option linter.unusedSimpArgs false

def cells8 (l : List Nat) : Array Value := (l.map fun (x : Nat) => Value.int .u8 (x : Int)).toArray
theorem cells8_get (l : List Nat) (i : Nat) (h : i < l.length) : (cells8 l)[i]? = some (.int .u8 (l.getD i 0 : Nat)) := by
  simp [cells8, h, List.getD]
theorem cells8_set (l : List Nat) (i x : Nat) : (cells8 l).setIfInBounds i (.int .u8 (x : Int)) = cells8 (l.set i x) := by
  simp [cells8, List.map_set]
theorem flips_stop (bit pat k j : Nat) (l : List Nat) (h : 48 ≤ bit + k) : flips bit pat (k + j) l = flips bit pat k l := by
  induction j with
  | zero => rfl
  | succ j ih => rw [← Nat.add_assoc]; rw [flips, if_neg (by omega)]; exact ih

theorem cast_pow2 (x k : Nat) : ((x : Int) / 2 ^ k) = ((x / 2 ^ k : Nat) : Int) := by simp
theorem tst (pat k : Nat) (hp : pat < 256) : (bits .and .u8 ((pat : Int) / 2 ^ k) 1 == 1) = decide (pat / 2 ^ k % 2 = 1) := by
  have h := u8_and_nat (pat / 2 ^ k) 1 (Nat.lt_of_le_of_lt (Nat.div_le_self _ _) hp) (by omega)
  rw [Nat.and_one_is_mod] at h
  have h' : bits .and .u8 (((pat / 2 ^ k : Nat) : Int)) 1 = ((pat / 2 ^ k % 2 : Nat) : Int) := h
  rw [cast_pow2, h']
  generalize pat / 2 ^ k % 2 = z
  rw [Bool.eq_iff_iff]
  simp; omega
theorem flip_step (y p : Nat) (hy : y < 256) : bits .xor .u8 (y : Int) (128 / 2 ^ (p % 8)) = ((y ^^^ (128 / 2 ^ (p % 8)) : Nat) : Int) := by
  have h := u8_xor_nat y (128 / 2 ^ (p % 8)) hy (Nat.lt_of_le_of_lt (Nat.div_le_self _ _) (by omega))
  rw [← h, ← cast_pow2]; rfl

set_option maxHeartbeats 1000000 in
theorem bursts_in (n v bit pat : Nat) (hn : n < 64) (hv : v < 4294967296) (hbit : bit < 48) (hp : pat < 256) (w : World) :
    Calls Try.prog 3 #[.agg #[.int .i64 n, .int .u32 v], .int .i64 bit, .int .u8 pat] w fun e w' => e = .returned (.bool true) ∧ Below w.heap.size w w' := by
  obtain ⟨x0, x1, x2, x3, x4, x5, hL⟩ : ∃ x0 x1 x2 x3 x4 x5, frameL (n + 64) v = [x0, x1, x2, x3, x4, x5] := ⟨_, _, _, _, _, _, rfl⟩
  have HL := Lib.hid hL; clear hL
  have HE := Lib.hid (Encode_yes n v hn hv)
  rw [laid_six, HL.out] at HE
  have HB : Hid (∀ x ∈ [x0, x1, x2, x3, x4, x5], x < 256) := by
    rw [← HL.out]; intro x hx
    have := sum7_lt (n + 64) v (by omega) hv
    simp [frameL] at hx; omega
  go_enter Try.func3, Try.ntmps3
  go_wp2_with fail
  refine (known_any _).mono ?_
  rintro e w1 ⟨rfl, hb1⟩
  obtain ⟨hc1, hf1⟩ := bcell hb1
  have hz1 := hb1.size
  simp at hz1
  go_wp2_with fail
  refine (HE.out _).mono ?_
  rintro e w2 ⟨rfl, hb2⟩
  obtain ⟨hc2, hf2⟩ := bcell hb2
  have hz2 := hb2.size
  simp only [six, List.getD_cons_zero, List.getD_cons_succ]
  go_wp2_with fail
  go_loopw [10] (fun i wr => ∃ k : Nat, k ≤ 7 ∧ i = .int .i64 k ∧ Row wr (w2.heap.size + 1) 26 (cells8 (flips bit pat k [x0, x1, x2, x3, x4, x5])) ∧ Below (w2.heap.size + 1) (w2.alloc (.cells #[.int .u8 x0, .int .u8 x1, .int .u8 x2, .int .u8 x3, .int .u8 x4, .int .u8 x5] 26)) wr) (fun i _ => 7 - (intOf i).toNat)
  case atStart =>
    refine ⟨0, by omega, rfl, ?_, ?_⟩
    · have := Row.fresh (w2.alloc (.cells #[.int .u8 x0, .int .u8 x1, .int .u8 x2, .int .u8 x3, .int .u8 x4, .int .u8 x5] 26)) 26 #[.int .u8 x0, .int .u8 x1, .int .u8 x2, .int .u8 x3, .int .u8 x4, .int .u8 x5]
      simpa [flips, cells8] using this
    · exact (Below.refl _ _).alloc (by simp) _
  case round =>
    obtain ⟨k, hk, rfl, hrow, hbel⟩ := hrel
    by_cases h7 : k < 7 ∧ bit + k < 48
    · obtain ⟨h7, h48⟩ := h7
      have hlen : (flips bit pat k [x0, x1, x2, x3, x4, x5]).length = 6 := flips_len6 _ _ _ _ rfl
      have h8 := flips_lt bit pat k [x0, x1, x2, x3, x4, x5] HB.out
      have hcell := hrow.cell ((bit + k) / 8)
      rw [cells8_get _ _ (by omega)] at hcell
      have hfroz := hrow.frozen ((bit + k) / 8)
      have hy := h8 _ (getD_mem _ ((bit + k) / 8) (by omega))
      have Hrow := Lib.hid hrow
      have Hlen := Lib.hid hlen
      have H8 := Lib.hid h8
      clear hrow hlen h8
      revert hcell hy
      generalize hY : (flips bit pat k [x0, x1, x2, x3, x4, x5]).getD ((bit + k) / 8) 0 = y
      intro hcell hy
      have HY := Lib.hid hY; clear hY
      go_wp2_with fail
      · go_roundw
        case rel =>
          have ht := tst pat k hp
          refine ⟨k + 1, by omega, by go_num, ?_, hbel.setCell (by simp) _⟩
          have e : flips bit pat (k + 1) [x0, x1, x2, x3, x4, x5] = flip (flips bit pat k [x0, x1, x2, x3, x4, x5]) (bit + k) := by
            rw [flips, if_pos ⟨of_decide_eq_true (by rw [← ht]; assumption), h48⟩]
          rw [e, flip, HY.out, flip_step _ _ hy, ← cells8_set]
          exact Hrow.out.put _ _
        case measure => simp [intOf]; omega
      · go_roundw
        case rel =>
          have ht := tst pat k hp
          refine ⟨k + 1, by omega, by go_num, ?_, hbel⟩
          have e : flips bit pat (k + 1) [x0, x1, x2, x3, x4, x5] = flips bit pat k [x0, x1, x2, x3, x4, x5] := by
            rw [flips, if_neg (fun h => by
              have := decide_eq_true h.1
              rw [← ht] at this
              simp_all)]
          rw [e]; exact Hrow.out
        case measure => simp [intOf]; omega
    · have hend : flips bit pat k [x0, x1, x2, x3, x4, x5] = flips bit pat 7 [x0, x1, x2, x3, x4, x5] := by
        by_cases hk7 : k = 7
        · subst hk7; rfl
        · have := flips_stop bit pat k (7 - k) [x0, x1, x2, x3, x4, x5] (by omega)
          rw [show k + (7 - k) = 7 by omega] at this
          exact this.symm
      rw [hend] at hrow
      have hok : (readF [x0, x1, x2, x3, x4, x5] 64).2.2 = 0 := by rw [← HL.out, readF_frame n v hn hv]
      have hcmd : readF [x0, x1, x2, x3, x4, x5] 64 = (n, v, 0) := by rw [← HL.out, readF_frame n v hn hv]
      have hburst := burst [x0, x1, x2, x3, x4, x5] rfl hok bit pat hbit
      have hlen : (flips bit pat 7 [x0, x1, x2, x3, x4, x5]).length = 6 := flips_len6 _ _ _ _ rfl
      have h8 := flips_lt bit pat 7 [x0, x1, x2, x3, x4, x5] HB.out
      clear hend
      generalize flips bit pat 7 [x0, x1, x2, x3, x4, x5] = Y at hrow hburst hlen h8
      match Y, hlen with
      | [y0, y1, y2, y3, y4, y5], _ =>
      have g0 := hrow.cell 0
      have g1 := hrow.cell 1
      have g2 := hrow.cell 2
      have g3 := hrow.cell 3
      have g4 := hrow.cell 4
      have g5 := hrow.cell 5
      simp only [cells8, List.map_cons, List.map_nil] at g0 g1 g2 g3 g4 g5
      simp at g0 g1 g2 g3 g4 g5
      have f0 : wr.cell? ⟨w2.heap.size, 0, none⟩ = some (.int .u8 x0) := by rw [hbel.cell (by simp)]; simp [go_sem]
      have f1 : wr.cell? ⟨w2.heap.size, 1, none⟩ = some (.int .u8 x1) := by rw [hbel.cell (by simp)]; simp [go_sem]
      have f2 : wr.cell? ⟨w2.heap.size, 2, none⟩ = some (.int .u8 x2) := by rw [hbel.cell (by simp)]; simp [go_sem]
      have f3 : wr.cell? ⟨w2.heap.size, 3, none⟩ = some (.int .u8 x3) := by rw [hbel.cell (by simp)]; simp [go_sem]
      have f4 : wr.cell? ⟨w2.heap.size, 4, none⟩ = some (.int .u8 x4) := by rw [hbel.cell (by simp)]; simp [go_sem]
      have f5 : wr.cell? ⟨w2.heap.size, 5, none⟩ = some (.int .u8 x5) := by rw [hbel.cell (by simp)]; simp [go_sem]
      have q0 : wr.cell? ⟨w.heap.size, 0, none⟩ = some (.int .i64 n) := by
        rw [hbel.cell (show w.heap.size < w2.heap.size + 1 by omega), World.cell?_alloc_lt _ _ _ (by show w.heap.size < w2.heap.size; omega), hc2 _ _ (by omega), hc1 _ _ (by simp)]; simp [go_sem]
      have q1 : wr.cell? ⟨w.heap.size, 1, none⟩ = some (.int .u32 v) := by
        rw [hbel.cell (show w.heap.size < w2.heap.size + 1 by omega), World.cell?_alloc_lt _ _ _ (by show w.heap.size < w2.heap.size; omega), hc2 _ _ (by omega), hc1 _ _ (by simp)]; simp [go_sem]
      have hzr := hrow.lt
      have z1 : w2.heap.size < wr.heap.size := by omega
      have z2 : w.heap.size < wr.heap.size := by omega
      have he := eql6 x0 x1 x2 x3 x4 x5 y0 y1 y2 y3 y4 y5
      have HD := Lib.hid (fun w' hc' hb' => Decode_six (w2.heap.size + 1) 0 [y0, y1, y2, y3, y4, y5] 6 rfl (by omega) (by simp [maxLen]) h8 w' hc' hb')
      have HC8 : Hid (Cells8 wr (some ⟨w2.heap.size + 1, 0, none⟩) [y0, y1, y2, y3, y4, y5]) := by
        intro i hi
        refine ⟨_, _, rfl, ?_⟩
        rw [hrow.cell, Nat.zero_add]
        exact cells8_get _ _ hi
      have Hbel := Lib.hid hbel
      clear hrow hok h8 hbel hc1 hf1 hc2 hf2
      have hkk : ¬ ((k : Int) < 7) ∨ ¬ ((bit : Int) + k < 48) := by omega
      rcases hburst with hsame | ⟨hdiff, hr1, hr2, hr3⟩
      · simp only [List.cons.injEq, and_true] at hsame
        obtain ⟨rfl, rfl, rfl, rfl, rfl, rfl⟩ := hsame
        rw [hcmd] at HD
        clear hcmd
        simp only [cmdOf] at HD
        simp only [BEq.rfl] at he
        by_cases hk7 : k < 7
        · have hb48 : ¬ ((bit : Int) + k < 48) := by omega
          clear hkk h7
          go_wp2_with fail
          (refine (HD.out _ HC8.out (by omega)).mono ?_; rintro e w3 ⟨rfl, hb3⟩; obtain ⟨hc3, hf3⟩ := bcell hb3; have hz3 := hb3.size; have z3 : w2.heap.size < w3.heap.size := (by omega); have z4 : w2.heap.size + 1 < w3.heap.size := (by omega); have z5 : w.heap.size < w3.heap.size := (by omega))
          go_wp2
          go_ret
          exact ⟨rfl, (by (have hsz0 := Below.size hb3; have hsz1 := Below.size Hbel.out; have hsz2 := Below.size hb2; have hsz3 := Below.size hb1; repeat (first | (with_reducible refine Below.drew ?_) | (with_reducible refine below_drewN0 ?_ _) | ((with_reducible refine Below.setCell ?_ ?_ _); rotate_left; focus (first | omega | (simp; done) | (simp; omega) | (simp at *; omega))) | ((with_reducible refine Below.alloc ?_ ?_ _); rotate_left; focus (first | omega | (simp; done) | (simp; omega) | (simp at *; omega))) | ((with_reducible refine Below.trans ?_ (Below.mono hb3 ?_)); rotate_left; focus (first | omega | (simp; done) | (simp; omega) | (simp at *; omega))) | ((with_reducible refine Below.trans ?_ (Below.mono Hbel.out ?_)); rotate_left; focus (first | omega | (simp; done) | (simp; omega) | (simp at *; omega))) | ((with_reducible refine Below.trans ?_ (Below.mono hb2 ?_)); rotate_left; focus (first | omega | (simp; done) | (simp; omega) | (simp at *; omega))) | ((with_reducible refine Below.trans ?_ (Below.mono hb1 ?_)); rotate_left; focus (first | omega | (simp; done) | (simp; omega) | (simp at *; omega))) | (with_reducible exact Below.refl _ _))))⟩
        · have hk8 : ¬ ((k : Int) < 7) := by omega
          clear hkk h7
          go_wp2_with fail
          (refine (HD.out _ HC8.out (by omega)).mono ?_; rintro e w3 ⟨rfl, hb3⟩; obtain ⟨hc3, hf3⟩ := bcell hb3; have hz3 := hb3.size; have z3 : w2.heap.size < w3.heap.size := (by omega); have z4 : w2.heap.size + 1 < w3.heap.size := (by omega); have z5 : w.heap.size < w3.heap.size := (by omega))
          go_wp2
          go_ret
          exact ⟨rfl, (by (have hsz0 := Below.size hb3; have hsz1 := Below.size Hbel.out; have hsz2 := Below.size hb2; have hsz3 := Below.size hb1; repeat (first | (with_reducible refine Below.drew ?_) | (with_reducible refine below_drewN0 ?_ _) | ((with_reducible refine Below.setCell ?_ ?_ _); rotate_left; focus (first | omega | (simp; done) | (simp; omega) | (simp at *; omega))) | ((with_reducible refine Below.alloc ?_ ?_ _); rotate_left; focus (first | omega | (simp; done) | (simp; omega) | (simp at *; omega))) | ((with_reducible refine Below.trans ?_ (Below.mono hb3 ?_)); rotate_left; focus (first | omega | (simp; done) | (simp; omega) | (simp at *; omega))) | ((with_reducible refine Below.trans ?_ (Below.mono Hbel.out ?_)); rotate_left; focus (first | omega | (simp; done) | (simp; omega) | (simp at *; omega))) | ((with_reducible refine Below.trans ?_ (Below.mono hb2 ?_)); rotate_left; focus (first | omega | (simp; done) | (simp; omega) | (simp at *; omega))) | ((with_reducible refine Below.trans ?_ (Below.mono hb1 ?_)); rotate_left; focus (first | omega | (simp; done) | (simp; omega) | (simp at *; omega))) | (with_reducible exact Below.refl _ _))))⟩
      · have hne : ([(x0 : Int), x1, x2, x3, x4, x5] == [(y0 : Int), y1, y2, y3, y4, y5]) = false := by
          rw [beq_eq_false_iff_ne]
          intro h
          apply hdiff
          simp only [List.cons.injEq, and_true] at h ⊢
          omega
        rw [hne] at he
        clear hne
        have HDF := Lib.hid hdiff
        clear hdiff
        revert HD hr1 hr2 hr3
        generalize readF [y0, y1, y2, y3, y4, y5] 64 = r
        obtain ⟨r1, r2, r3⟩ := r
        intro HD hr1 hr2 hr3
        dsimp only at hr1 hr2 hr3
        subst hr1 hr2
        have hr : ((r3 : Int) != 0) = true := by simp; omega
        simp only [cmdOf] at HD
        by_cases hk7 : k < 7
        · have hb48 : ¬ ((bit : Int) + k < 48) := by omega
          clear hkk h7
          go_wp2_with fail
          (refine (HD.out _ HC8.out (by omega)).mono ?_; rintro e w3 ⟨rfl, hb3⟩; obtain ⟨hc3, hf3⟩ := bcell hb3; have hz3 := hb3.size; have z3 : w2.heap.size < w3.heap.size := (by omega); have z4 : w2.heap.size + 1 < w3.heap.size := (by omega); have z5 : w.heap.size < w3.heap.size := (by omega))
          go_wp2
          go_ret
          exact ⟨rfl, (by (have hsz0 := Below.size hb3; have hsz1 := Below.size Hbel.out; have hsz2 := Below.size hb2; have hsz3 := Below.size hb1; repeat (first | (with_reducible refine Below.drew ?_) | (with_reducible refine below_drewN0 ?_ _) | ((with_reducible refine Below.setCell ?_ ?_ _); rotate_left; focus (first | omega | (simp; done) | (simp; omega) | (simp at *; omega))) | ((with_reducible refine Below.alloc ?_ ?_ _); rotate_left; focus (first | omega | (simp; done) | (simp; omega) | (simp at *; omega))) | ((with_reducible refine Below.trans ?_ (Below.mono hb3 ?_)); rotate_left; focus (first | omega | (simp; done) | (simp; omega) | (simp at *; omega))) | ((with_reducible refine Below.trans ?_ (Below.mono Hbel.out ?_)); rotate_left; focus (first | omega | (simp; done) | (simp; omega) | (simp at *; omega))) | ((with_reducible refine Below.trans ?_ (Below.mono hb2 ?_)); rotate_left; focus (first | omega | (simp; done) | (simp; omega) | (simp at *; omega))) | ((with_reducible refine Below.trans ?_ (Below.mono hb1 ?_)); rotate_left; focus (first | omega | (simp; done) | (simp; omega) | (simp at *; omega))) | (with_reducible exact Below.refl _ _))))⟩
        · have hk8 : ¬ ((k : Int) < 7) := by omega
          clear hkk h7
          go_wp2_with fail
          (refine (HD.out _ HC8.out (by omega)).mono ?_; rintro e w3 ⟨rfl, hb3⟩; obtain ⟨hc3, hf3⟩ := bcell hb3; have hz3 := hb3.size; have z3 : w2.heap.size < w3.heap.size := (by omega); have z4 : w2.heap.size + 1 < w3.heap.size := (by omega); have z5 : w.heap.size < w3.heap.size := (by omega))
          go_wp2
          go_ret
          exact ⟨rfl, (by (have hsz0 := Below.size hb3; have hsz1 := Below.size Hbel.out; have hsz2 := Below.size hb2; have hsz3 := Below.size hb1; repeat (first | (with_reducible refine Below.drew ?_) | (with_reducible refine below_drewN0 ?_ _) | ((with_reducible refine Below.setCell ?_ ?_ _); rotate_left; focus (first | omega | (simp; done) | (simp; omega) | (simp at *; omega))) | ((with_reducible refine Below.alloc ?_ ?_ _); rotate_left; focus (first | omega | (simp; done) | (simp; omega) | (simp at *; omega))) | ((with_reducible refine Below.trans ?_ (Below.mono hb3 ?_)); rotate_left; focus (first | omega | (simp; done) | (simp; omega) | (simp at *; omega))) | ((with_reducible refine Below.trans ?_ (Below.mono Hbel.out ?_)); rotate_left; focus (first | omega | (simp; done) | (simp; omega) | (simp at *; omega))) | ((with_reducible refine Below.trans ?_ (Below.mono hb2 ?_)); rotate_left; focus (first | omega | (simp; done) | (simp; omega) | (simp at *; omega))) | ((with_reducible refine Below.trans ?_ (Below.mono hb1 ?_)); rotate_left; focus (first | omega | (simp; done) | (simp; omega) | (simp at *; omega))) | (with_reducible exact Below.refl _ _))))⟩

set_option maxHeartbeats 1000000 in
theorem bursts_out (n bit : Int) (v pat : Int) (h : n < 0 ∨ 63 < n ∨ bit < 0 ∨ 47 < bit) (w : World) :
    Calls Try.prog 3 #[.agg #[.int .i64 n, .int .u32 v], .int .i64 bit, .int .u8 pat] w fun e w' => e = .returned (.bool true) ∧ Below w.heap.size w w' := by
  have key : (n < 0) ∨ (¬ n < 0 ∧ 63 < n) ∨ (¬ n < 0 ∧ ¬ 63 < n ∧ bit < 0) ∨ (¬ n < 0 ∧ ¬ 63 < n ∧ ¬ bit < 0 ∧ 47 < bit) := by omega
  clear h
  rcases key with h1 | ⟨h1, h2⟩ | ⟨h1, h2, h3⟩ | ⟨h1, h2, h3, h4⟩
  all_goals
    go_enter Try.func3, Try.ntmps3
    go_wp2_with fail
    refine (known_any _).mono ?_
    rintro e w1 ⟨rfl, hb1⟩
    obtain ⟨hc1, hf1⟩ := bcell hb1
    have hz1 := hb1.size
    go_wp2
    go_ret
    exact ⟨rfl, by (have hsz0 := Below.size hb1; repeat (first | (with_reducible refine Below.drew ?_) | (with_reducible refine below_drewN0 ?_ _) | ((with_reducible refine Below.setCell ?_ ?_ _); rotate_left; focus (first | omega | (simp; done) | (simp; omega) | (simp at *; omega))) | ((with_reducible refine Below.alloc ?_ ?_ _); rotate_left; focus (first | omega | (simp; done) | (simp; omega) | (simp at *; omega))) | ((with_reducible refine Below.trans ?_ (Below.mono hb1 ?_)); rotate_left; focus (first | omega | (simp; done) | (simp; omega) | (simp at *; omega))) | (with_reducible exact Below.refl _ _)))⟩

theorem bursts_walk (n : Int) (v : Nat) (bit : Int) (pat : Nat) (hv : v < 4294967296) (hp : pat < 256) (w : World) :
    Calls Try.prog 3 #[.agg #[.int .i64 n, .int .u32 v], .int .i64 bit, .int .u8 pat] w fun e w' => e = .returned (.bool true) ∧ Below w.heap.size w w' := by
  by_cases h : n < 0 ∨ 63 < n ∨ bit < 0 ∨ 47 < bit
  · exact bursts_out n bit v pat h w
  · obtain ⟨N, rfl⟩ := Int.eq_ofNat_of_zero_le (show 0 ≤ n by omega)
    obtain ⟨B, rfl⟩ := Int.eq_ofNat_of_zero_le (show 0 ≤ bit by omega)
    exact bursts_in N v B pat (by omega) hv (by omega) hp w
end Go.Proofs.Yteocmpaabihoiaa
