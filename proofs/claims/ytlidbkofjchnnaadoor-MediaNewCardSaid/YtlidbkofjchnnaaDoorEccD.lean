/- ecc: get, put, nought. -/
import Derived.Test.YtlidbkofjchnnaaDoorEccB
import Derived.Test.YtlidbkofjchnnaaDoorCopy
import Derived.Test.YtlidbkofjchnnaaDoorSeq
namespace Go.Proofs.YtlidbkofjchnnaaDoor
open Go.RowKit
set_option linter.unusedVariables false
set_option linter.unusedSimpArgs false

/-- The first k bytes as a number, the least first. -/
def gw (l : List Nat) : Nat → Nat
  | 0 => 0
  | k + 1 => gw l k ||| (l.getD k 0 * 2 ^ (8 * k))
theorem pow_split (a b : Nat) : 2 ^ (a + b) = 2 ^ a * 2 ^ b := Nat.pow_add 2 a b
theorem gw_lt (l : List Nat) (h : ∀ j, l.getD j 0 < 256) : ∀ k, gw l k < 2 ^ (8 * k)
  | 0 => by simp [gw]
  | k + 1 => by
    unfold gw
    have h1 := gw_lt l h k
    have h2 := h k
    refine Nat.or_lt_two_pow (Nat.lt_of_lt_of_le h1 (Nat.pow_le_pow_right (by omega) (by omega))) ?_
    rw [show 8 * (k + 1) = 8 + 8 * k by omega, pow_split]
    exact Nat.mul_lt_mul_of_pos_right h2 (Nat.two_pow_pos _)
theorem getD_lt {l : List Nat} (h : ∀ u ∈ l, u < 256) (j : Nat) : l.getD j 0 < 256 := by
  rcases Nat.lt_or_ge j l.length with h1 | h1
  · exact h _ (getD_mem l j h1)
  · rw [List.getD_eq_getElem?_getD, List.getElem?_eq_none h1]; simp
set_option maxRecDepth 100000 in
set_option maxHeartbeats 1000000 in
theorem get_any (b off c n : Nat) (l : List Nat) (hl : l.length = n) (hn : 8 ≤ n) (hn2 : n ≤ 1000000) (h256 : ∀ u ∈ l, u < 256) (w : World) (hc : Cells8 w (some ⟨b, off, none⟩) l) :
    Calls Tryd.prog 67 #[.slice (some ⟨b, off, none⟩) n c] w fun e w' => e = .returned (.int .u64 (gw l 8 : Nat)) ∧ w = w' := by
  have HC := Lib.hid hc
  have HL := Lib.hid hl
  have hb := getD_lt h256
  have HB := Lib.hid hb
  have hg : ∀ k, k ≤ 8 → gw l k < 18446744073709551616 := fun k hk => Nat.lt_of_lt_of_le (gw_lt l hb k) (by
    have := Nat.pow_le_pow_right (n := 2) (by omega) (show 8 * k ≤ 64 by omega)
    simpa using this)
  have HG := Lib.hid hg
  obtain ⟨r, hr⟩ : ∃ r, r = gw l 8 := ⟨_, rfl⟩
  have HR := Lib.hid hr
  rw [← hr]
  clear hc hl h256 hb hg hr
  by_cases h8 : n = 8
  · subst h8
    go_enter Tryd.func67, Tryd.ntmps67
    go_wp2
    go_loop [3, 8] (fun v i => ∃ k : Nat, k ≤ 8 ∧ i = .int .i64 k ∧ v = .int .u64 (gw l k : Nat)) (fun _ i => 8 - (intOf i).toNat)
    case atStart => exact ⟨0, by omega, rfl, rfl⟩
    case round =>
      obtain ⟨k, hk, rfl, rfl⟩ := hrel
      by_cases hlt : k < 8
      · have hcell := HC.out.at0 k (by rw [HL.out]; omega)
        have hx := HB.out k
        have hgk := HG.out k (by omega)
        have hgk1 := HG.out (k + 1) (by omega)
        have hS : gw l (k + 1) = gw l k ||| (l.getD k 0 * 2 ^ (8 * k)) := rfl
        have HS := Lib.hid hS
        generalize l.getD k 0 = x at *
        have hkn : k < 8 := by omega
        obtain ⟨p, hp⟩ : ∃ p : Nat, p = x * 2 ^ (8 * k) := ⟨_, rfl⟩
        have hp64 : p < 18446744073709551616 := by
          rw [hp]
          have h1 : x * 2 ^ (8 * k) < 2 ^ 8 * 2 ^ (8 * k) := Nat.mul_lt_mul_of_pos_right hx (Nat.two_pow_pos _)
          rw [← pow_split] at h1
          have h2 := Nat.pow_le_pow_right (n := 2) (by omega) (show 8 + 8 * k ≤ 64 by omega)
          have : (2 : Nat) ^ 64 = 18446744073709551616 := by decide
          omega
        have hw8 : IntKind.i64.wrap (8 * (k : Int)) = ((8 * k : Nat) : Int) := by rw [IntKind.wrap_i64]; omega
        have hor := bits_or_u64_nat (gw l k) p hgk hp64
        rw [← hp] at HS
        clear hS
        generalize gw l k = a at *
        have hwp : IntKind.u64.wrap ((x : Int) * 2 ^ (8 * k)) = (p : Int) := by
          rw [IntKind.wrap_u64, hp]
          rw [hp] at hp64
          have : ((x * 2 ^ (8 * k) : Nat) : Int) = (x : Int) * 2 ^ (8 * k) := by simp
          rw [← this]; omega
        have HWp := Lib.hid hwp
        clear hp hwp
        go_wp2
        go_round
        case rel => exact ⟨k + 1, by omega, by go_num, by rw [HWp.out, hor, HS.out]⟩
        case measure => simp [intOf]; omega
      · obtain rfl : k = 8 := by omega
        go_wp2
        go_ret
        exact ⟨by rw [HR.out]; rfl, rfl⟩
  · have h9 : (8 : Int) < n := by omega
    clear h8
    go_enter Tryd.func67, Tryd.ntmps67
    go_wp2
    go_loop [3, 8] (fun v i => ∃ k : Nat, k ≤ 8 ∧ i = .int .i64 k ∧ v = .int .u64 (gw l k : Nat)) (fun _ i => 8 - (intOf i).toNat)
    case atStart => exact ⟨0, by omega, rfl, rfl⟩
    case round =>
      obtain ⟨k, hk, rfl, rfl⟩ := hrel
      by_cases hlt : k < 8
      · have hcell := HC.out.at0 k (by rw [HL.out]; omega)
        have hx := HB.out k
        have hgk := HG.out k (by omega)
        have hgk1 := HG.out (k + 1) (by omega)
        have hS : gw l (k + 1) = gw l k ||| (l.getD k 0 * 2 ^ (8 * k)) := rfl
        have HS := Lib.hid hS
        generalize l.getD k 0 = x at *
        have hkn : k < n := by omega
        obtain ⟨p, hp⟩ : ∃ p : Nat, p = x * 2 ^ (8 * k) := ⟨_, rfl⟩
        have hp64 : p < 18446744073709551616 := by
          rw [hp]
          have h1 : x * 2 ^ (8 * k) < 2 ^ 8 * 2 ^ (8 * k) := Nat.mul_lt_mul_of_pos_right hx (Nat.two_pow_pos _)
          rw [← pow_split] at h1
          have h2 := Nat.pow_le_pow_right (n := 2) (by omega) (show 8 + 8 * k ≤ 64 by omega)
          have : (2 : Nat) ^ 64 = 18446744073709551616 := by decide
          omega
        have hw8 : IntKind.i64.wrap (8 * (k : Int)) = ((8 * k : Nat) : Int) := by rw [IntKind.wrap_i64]; omega
        have hor := bits_or_u64_nat (gw l k) p hgk hp64
        rw [← hp] at HS
        clear hS
        generalize gw l k = a at *
        have hwp : IntKind.u64.wrap ((x : Int) * 2 ^ (8 * k)) = (p : Int) := by
          rw [IntKind.wrap_u64, hp]
          rw [hp] at hp64
          have : ((x * 2 ^ (8 * k) : Nat) : Int) = (x : Int) * 2 ^ (8 * k) := by simp
          rw [← this]; omega
        have HWp := Lib.hid hwp
        clear hp hwp
        go_wp2
        go_round
        case rel => exact ⟨k + 1, by omega, by go_num, by rw [HWp.out, hor, HS.out]⟩
        case measure => simp [intOf]; omega
      · obtain rfl : k = 8 := by omega
        go_wp2
        go_ret
        exact ⟨by rw [HR.out]; rfl, rfl⟩
end Go.Proofs.YtlidbkofjchnnaaDoor
namespace Go.Proofs.YtlidbkofjchnnaaDoor
open Go.RowKit
set_option linter.unusedVariables false
set_option linter.unusedSimpArgs false

/-- A number's bytes, the first k of eight. -/
def pb (x k : Nat) : List Nat := (List.range 8).map fun i => if i < k then x / 2 ^ (8 * i) % 256 else 0
theorem pb_length (x k : Nat) : (pb x k).length = 8 := by simp [pb]
theorem pb_lt (x k : Nat) : ∀ u ∈ pb x k, u < 256 := by
  intro u hu
  obtain ⟨i, _, rfl⟩ := List.mem_map.1 hu
  split <;> omega
theorem pb_step (x k : Nat) (hk : k < 8) : pb x (k + 1) = (pb x k).set k (x / 2 ^ (8 * k) % 256) := by
  apply List.ext_getElem
  · simp [pb]
  · intro i h1 h2
    simp only [pb, List.getElem_map, List.getElem_range, List.getElem_set]
    by_cases h : k = i
    · subst h; rw [if_pos (by omega), if_pos rfl]
    · rw [if_neg h]
      by_cases hi : i < k
      · rw [if_pos (by omega), if_pos hi]
      · rw [if_neg (by omega), if_neg hi]
abbrev row8 (l : List Nat) : Array Value := (intsV .u8 l).toArray
theorem row8_set (l : List Nat) (k y : Nat) : row8 (l.set k y) = (row8 l).setIfInBounds k (.int .u8 (y : Nat)) := by simp [row8, intsV_set]
theorem row8_size (l : List Nat) (h : l.length = 8) : (row8 l).size = 8 := by simp [row8, intsV, h]
theorem row8_one (l : List Nat) : (row8 l).all (·.oneCell') = true := by
  rw [Array.all_eq_true_iff_forall_mem]; intro x hx; exact intsV_one .u8 l x (by simpa using hx)
theorem row8_info (l : List Nat) (h : l.length = 8) : (Tryd.prog.info? 129).map (·.size) = some (row8 l).size := by
  rw [row8_size l h]; kernel_rfl
set_option maxRecDepth 100000 in
set_option maxHeartbeats 1000000 in
theorem put_any (x : Nat) (hx : x < 18446744073709551616) (w : World) :
    Calls Tryd.prog 73 #[.int .u64 x] w fun e w' => e = .returned (.agg (row8 (pb x 8))) ∧ Below w.heap.size w w' := by
  obtain ⟨wA, hwA⟩ : ∃ wA, wA = (w.alloc (.cells #[.int .u8 0, .int .u8 0, .int .u8 0, .int .u8 0, .int .u8 0, .int .u8 0, .int .u8 0, .int .u8 0] 129)).alloc (.cells #[.int .u8 0, .int .u8 0, .int .u8 0, .int .u8 0, .int .u8 0, .int .u8 0, .int .u8 0, .int .u8 0] 129) := ⟨_, rfl⟩
  have HB0 : Hid (Below w.heap.size w wA) := by unfold Hid; rw [hwA]; (repeat (first | (with_reducible refine Below.drew ?_) | (with_reducible refine below_drewN0 ?_ _) | ((with_reducible refine Below.setCell ?_ ?_ _); rotate_left; focus (first | omega | (simp; done) | (simp; omega) | (simp at *; omega))) | ((with_reducible refine Below.alloc ?_ ?_ _); rotate_left; focus (first | omega | (simp; done) | (simp; omega) | (simp at *; omega))) | (with_reducible exact Below.refl _ _)))
  have HR0 : Hid (Row wA w.heap.size 129 (row8 (pb x 0))) := by unfold Hid; rw [hwA]; exact (Row.fresh w _ _).alloc _
  have HR1 : Hid (Row wA (w.heap.size + 1) 129 (row8 (pb x 0))) := by
    unfold Hid; rw [hwA]
    have := Row.fresh (w.alloc (.cells #[.int .u8 0, .int .u8 0, .int .u8 0, .int .u8 0, .int .u8 0, .int .u8 0, .int .u8 0, .int .u8 0] 129)) 129 #[.int .u8 0, .int .u8 0, .int .u8 0, .int .u8 0, .int .u8 0, .int .u8 0, .int .u8 0, .int .u8 0]
    rw [World.size_alloc] at this; exact this
  go_enter Tryd.func73, Tryd.ntmps73
  go_wp2
  rw [← hwA]
  clear hwA
  go_loopw [5] (fun i wr => ∃ k : Nat, k ≤ 8 ∧ i = .int .i64 k ∧ Row wr w.heap.size 129 (row8 (pb x 0)) ∧ Row wr (w.heap.size + 1) 129 (row8 (pb x k)) ∧ Below w.heap.size w wr) (fun i _ => 8 - (intOf i).toNat)
  case atStart => exact ⟨0, by omega, rfl, HR0.out, HR1.out, HB0.out⟩
  case round =>
    obtain ⟨k, hk, rfl, h0, h1, hb⟩ := hrel
    have H0 := Lib.hid h0
    have H1 := Lib.hid h1
    have HB := Lib.hid hb
    clear HB0 HR0 HR1 h0 h1 hb
    by_cases hlt : k < 8
    · have hcell := H1.out.cell k
      have hfz := H1.out.frozen k
      rw [show (row8 (pb x k))[k]? = some (.int .u8 ((pb x k).getD k 0 : Nat)) by rw [List.getElem?_toArray]; exact intsV_get .u8 _ k (by rw [pb_length]; exact hlt)] at hcell
      have hw8 : IntKind.i64.wrap (8 * (k : Int)) = ((8 * k : Nat) : Int) := by rw [IntKind.wrap_i64]; omega
      have HS := Lib.hid (pb_step x k hlt)
      obtain ⟨y, hy⟩ : ∃ y, y = x / 2 ^ (8 * k) % 256 := ⟨_, rfl⟩
      have HY := Lib.hid hy
      rw [← hy] at HS
      have HV : Hid ((x : Int) / 2 ^ (8 * k) % 256 = (y : Int)) := by
        unfold Hid; rw [hy]
        simp
      clear hy
      go_wp2
      go_roundw
      case rel =>
        have hb := HB.out
        rw [HV.out]
        exact ⟨k + 1, by omega, by go_num, H0.out.far (by simp) _, by rw [HS.out, row8_set]; exact H1.out.put k _, by (have hsz0 := Below.size hb; repeat (first | (with_reducible refine Below.drew ?_) | (with_reducible refine below_drewN0 ?_ _) | ((with_reducible refine Below.setCell ?_ ?_ _); rotate_left; focus (first | omega | (simp; done) | (simp; omega) | (simp at *; omega))) | ((with_reducible refine Below.alloc ?_ ?_ _); rotate_left; focus (first | omega | (simp; done) | (simp; omega) | (simp at *; omega))) | ((with_reducible refine Below.trans ?_ (Below.mono hb ?_)); rotate_left; focus (first | omega | (simp; done) | (simp; omega) | (simp at *; omega))) | (with_reducible exact Below.refl _ _)))⟩
      case measure => simp [intOf]; omega
    · obtain rfl : k = 8 := by omega
      go_wp2_with (first | (with_reducible refine wpList_load_whole (o := ⟨some 16, .load 129 (.tmp 3), _, _, _, _⟩) rfl 129 (.tmp 3) rfl (w.heap.size + 1) rfl 129 (row8 (pb x 8)) H1.out 8 5 Tryd.underlying129 (row8_info _ (pb_length x 8)) ?_) | (with_reducible refine wpList_store_whole (o := ⟨none, .store 129 (.tmp 2) (.tmp 16), _, _, _, _⟩) rfl 129 (.tmp 2) (.tmp 16) rfl w.heap.size (row8 (pb x 8)) rfl rfl 129 (row8 (pb x 0)) H0.out (row8_info _ (pb_length x 8)) (by rw [row8_size _ (pb_length x 0), row8_size _ (pb_length x 8)]) (row8_one _) ?_))
      intro w3 HR3 hg3
      go_wp2_with fail
      refine bodyPost_ret (v := .agg (row8 (pb x 8))) (results_cell_row rfl _ _ w.heap.size 129 _ (0, 0) _ rfl HR3.out Tryd.underlying129 rfl (row8_info _ (pb_length x 8))) rfl ⟨rfl, ?_⟩
      exact below_grown HB.out hg3 HB.out.size (Nat.le_refl _)
theorem row8_ints (l : List Nat) : row8 l = (((l.map fun (x : Nat) => (x : Int))).map (Value.int .u8)).toArray := by simp [row8, intsV]
theorem run_equal8 (w : World) {i : TypeInfo} (hi : Tryd.prog.info? 5 = some i) (xs : List Int) (hx : xs.length = 8) :
    (Op.equalIn 10000 129 (.agg (xs.map (Value.int .u8)).toArray) (.agg (xs.map (Value.int .u8)).toArray)).run Tryd.prog w = .ok true w := by
  rw [run_equalIn_array w 9999 _ _ Tryd.underlying129 hi, show Tryd.prog.cellsOf 5 = 1 by kernel_rfl, run_eqItems_int w 9998 .u8 xs xs Tryd.underlying5 (by kernel_rfl) _ (fun j hj => by simp at hj; omega)]
  simp
set_option maxRecDepth 100000 in
set_option maxHeartbeats 1000000 in
theorem nought_any (l : List Nat) (hl : l.length = 8) (w : World) :
    Calls Tryd.prog 74 #[.agg (row8 l), .int .i64 8] w fun e w' => e = .returned (.bool true) ∧ Below w.heap.size w w' := by
  obtain ⟨cs, hcs⟩ : ∃ cs, cs = row8 l := ⟨_, rfl⟩
  have HCs := Lib.hid hcs
  have hsz : cs.size = 8 := by rw [hcs]; exact row8_size l hl
  obtain ⟨wA, hwA⟩ : ∃ wA, wA = (w.alloc (.cells cs 129)).alloc (.cells #[.int .u8 0, .int .u8 0, .int .u8 0, .int .u8 0, .int .u8 0, .int .u8 0, .int .u8 0, .int .u8 0] 129) := ⟨_, rfl⟩
  have HB0 : Hid (Below w.heap.size w wA) := by unfold Hid; rw [hwA]; (repeat (first | (with_reducible refine Below.drew ?_) | (with_reducible refine below_drewN0 ?_ _) | ((with_reducible refine Below.setCell ?_ ?_ _); rotate_left; focus (first | omega | (simp; done) | (simp; omega) | (simp at *; omega))) | ((with_reducible refine Below.alloc ?_ ?_ _); rotate_left; focus (first | omega | (simp; done) | (simp; omega) | (simp at *; omega))) | (with_reducible exact Below.refl _ _)))
  have HR0 : Hid (Row wA w.heap.size 129 cs) := by unfold Hid; rw [hwA]; exact (Row.fresh w _ _).alloc _
  have HR1 : Hid (Row wA (w.heap.size + 1) 129 (row8 [0, 0, 0, 0, 0, 0, 0, 0])) := by
    unfold Hid; rw [hwA]
    have := Row.fresh (w.alloc (.cells cs 129)) 129 #[.int .u8 0, .int .u8 0, .int .u8 0, .int .u8 0, .int .u8 0, .int .u8 0, .int .u8 0, .int .u8 0]
    rw [World.size_alloc] at this; exact this
  have HSz := Lib.hid hsz
  rw [← hcs]
  clear hcs hsz
  go_enter Tryd.func74, Tryd.ntmps74
  go_wp2
  rw [← hwA]
  clear hwA
  (refine region_kept ([w.heap.size + 1]) [0, 1, 2] [3] (by kernel_rfl) (by kernel_rfl) (fun _ _ _ _ _ h => h) ?_; simp only [List.filterMap_cons, List.getElem?_cons_zero, List.getElem?_cons_succ, List.filterMap_nil]; (repeat ((show wpQuiet _ _ _ _ (_ :: _) _); go_big_quiet_step (fail))); refine wpQuiet_nil ?_)
  have HSr : Hid (Src wA.drew 1 (some ⟨w.heap.size, 0, none⟩) 8 (intsV .u8 l)) := ⟨by rw [intsV_length, hl], fun _ => ⟨_, rfl, fun j u hu => by
    rw [addr_add, Nat.zero_add, show wA.drew.cell? ⟨w.heap.size, j, none⟩ = wA.cell? ⟨w.heap.size, j, none⟩ from rfl, HR0.out.cell j, HCs.out, List.getElem?_toArray]; exact hu⟩⟩
  refine wpSeqS_last (wpList_copy_grown rfl (.tmp 6) (.tmp 8) 46 46 rfl 5 Tryd.underlying46 (by kernel_rfl) (some ⟨w.heap.size, 0, none⟩) 8 8 8 8 (w.heap.size + 1) 0 rfl rfl (intsV .u8 [0, 0, 0, 0, 0, 0, 0, 0]) 129 HR1.out (intsV .u8 l) HSr.out (intsV_one .u8 l) (by simp [intsV]) ?_)
  intro w3 hr3 hg3
  have HR3 : Hid (Row w3 (w.heap.size + 1) 129 cs) := by
    unfold Hid
    have h := hr3.out
    rw [show splice (intsV .u8 [0, 0, 0, 0, 0, 0, 0, 0]) 0 ((intsV .u8 l).take 8) = intsV .u8 l by rw [List.take_of_length_le (by rw [intsV_length, hl]; exact Nat.le_refl _)]; simp [splice, intsV, hl]] at h
    rw [HCs.out]; exact h
  have HR4 : Hid (Row w3 w.heap.size 129 cs) := grown_row (show Row wA.drew w.heap.size 129 cs from HR0.out) hg3.out (by omega)
  have HB3 : Hid (Below w.heap.size w w3) := below_grown HB0.out.drew hg3.out HB0.out.size (by omega)
  have hi : (Tryd.prog.info? 129).map (·.size) = some cs.size := by rw [HSz.out]; kernel_rfl
  have HI := Lib.hid hi
  have hq : (Op.equalIn 10000 129 (.agg cs) (.agg cs)).run Tryd.prog w3 = .ok true w3 := by
    obtain ⟨ie, hie⟩ : ∃ i, Tryd.prog.info? 5 = some i := Option.isSome_iff_exists.1 (by kernel_rfl)
    rw [HCs.out, row8_ints]
    exact run_equal8 w3 hie _ (by simp [hl])
  clear HSr hr3 hg3 HR0 HR1 HB0 hi hl
  go_wp2_with (first | (with_reducible refine wpList_load_whole (o := ⟨some 10, .load 129 (.tmp 2), _, _, _, _⟩) rfl 129 (.tmp 2) rfl w.heap.size rfl 129 cs HR4.out 8 5 Tryd.underlying129 HI.out ?_) | (with_reducible refine wpList_load_whole (o := ⟨some 11, .load 129 (.tmp 5), _, _, _, _⟩) rfl 129 (.tmp 5) rfl (w.heap.size + 1) rfl 129 cs HR3.out 8 5 Tryd.underlying129 HI.out ?_))
  go_wp2
  go_ret
  exact ⟨rfl, HB3.out⟩
end Go.Proofs.YtlidbkofjchnnaaDoor
