/- The walk of FrameFinds. -/
import Derived.Test.YteocmpaabihoiaaFrFinds
namespace Go.Proofs.Yteocmpaabihoiaa
open Go.RowKit
set_option linter.unusedVariables false
set_option linter.unusedSimpArgs false

def ints8 (l : List Nat) : List Value := l.map fun (x : Nat) => Value.int .u8 (x : Int)
theorem ints8_one (l : List Nat) : ∀ u ∈ ints8 l, u.oneCell' = true := by
  intro u hu; unfold ints8 at hu; rw [List.mem_map] at hu; obtain ⟨x, _, rfl⟩ := hu; rfl
theorem ints8_snoc (l : List Nat) (x : Nat) : ints8 (l ++ [x]) = ints8 l ++ [.int .u8 (x : Int)] := by simp [ints8]
theorem u8_info : (Try.prog.info? 5).map (fun i => (i.zero, i.size, i.bytes)) = some (some (.int .u8 0), 1, 1) := by kernel_rfl

set_option maxRecDepth 100000 in
set_option maxHeartbeats 1000000 in
theorem finds_in (a : Option Addr) (l : List Nat) (cap : Nat) (n v : Nat) (a2 : Option Addr) (m : List Nat) (cap2 : Nat) (hl : l.length ≤ 1000) (hm : m.length ≤ 1000) (hn : n < 64) (hv : v < 4294967296)
    (h8 : ∀ x ∈ l, x < 256) (m8 : ∀ x ∈ m, x < 256) (w : World) (hc : Cells8 w a l) (hc2 : Cells8 w a2 m) :
    Calls Try.prog 4 #[.slice a l.length cap, .agg #[.int .i64 n, .int .u32 v], .slice a2 m.length cap2] w fun e w' => e = .returned (.bool true) ∧ Below w.heap.size w w' := by
  obtain ⟨i0, hi, hz0, hz1, hz2⟩ := info_parts u8_info
  have Hc := Lib.hid hc
  have Hc2 := Lib.hid hc2
  have H8 := Lib.hid h8
  have M8 := Lib.hid m8
  clear hc hc2 h8 m8
  go_enter Try.func4, Try.ntmps4
  go_wp2_with fail
  refine (known_any _).mono ?_
  rintro e w1 ⟨rfl, hb1⟩
  obtain ⟨hc1, hf1⟩ := bcell hb1
  have hz1' := hb1.size
  simp at hz1'
  go_wp2_with fail
  go_loopw [7, 8] (fun s i wr => ∃ k : Nat, k ≤ l.length ∧ i = .int .i64 k ∧ wr.ownsRow w1.heap.size 5 1 s (quietL (l.take k)).length (ints8 (quietL (l.take k))) ∧ Below w1.heap.size w1 wr) (fun _ i _ => l.length - (intOf i).toNat)
  case atStart => exact ⟨0, by omega, rfl, World.ownsRow_nil _ _ _ _, Below.refl _ _⟩
  case round =>
    obtain ⟨k, hk, rfl, hown, hbel⟩ := hrel
    have hqle := quietL_le (l.take k)
    have htk : (l.take k).length ≤ k := List.length_take_le _ _
    by_cases hlt : k < l.length
    · obtain ⟨b, off, rfl, hcell0⟩ := Hc.out k hlt
      have hx := H8.out _ (getD_mem l k hlt)
      have hblk := World.block_lt_of_cell? w _ hcell0
      have hcell : wr.cell? ⟨b, off + k, none⟩ = some (.int .u8 (l.getD k 0 : Nat)) := by
        rw [hbel.cell (by show b < _; simp at hblk; omega), hc1 b _ (by simp at hblk ⊢; omega), World.cell?_alloc_lt _ _ _ hblk]; exact hcell0
      have Hq : Hid (quietL (l.take (k + 1)) = quietL (l.take k) ++ (if l.getD k 0 / 64 = 1 then [] else [l.getD k 0])) := by
        unfold Hid; rw [take_getD l k hlt, quietL_snoc]
      clear hcell0
      revert hcell hx Hq
      generalize l.getD k 0 = x
      intro hcell hx Hq
      by_cases h : x / 64 = 1
      · have ht : ((x : Int) / 64 != 1) = false := by simp; omega
        have Hq1 : Hid (quietL (l.take (k + 1)) = quietL (l.take k)) := by unfold Hid; rw [Hq.out, if_pos h, List.append_nil]
        have Hown := Lib.hid hown
        clear h hown Hq
        go_wp2_with fail
        go_roundw
        case rel => exact ⟨k + 1, by omega, by go_num, by rw [Hq1.out]; exact Hown.out, hbel⟩
        case measure => simp [intOf]; omega
      · have ht : ((x : Int) / 64 != 1) = true := by simp; omega
        have Hq1 : Hid (quietL (l.take (k + 1)) = quietL (l.take k) ++ [x]) := by unfold Hid; rw [Hq.out, if_neg h]
        clear h Hq
        go_wp2_with (at_builtin; refine wpList_append_src _ rfl _ _ 33 rfl w1.heap.size 5 i0 (.int .u8 0) 1 1 Try.underlying33 hi hz0 hz1 hz2 rfl (by decide) _ _ _ rfl (hown.alloc _) (some ⟨wr.heap.size, 0, none⟩) 1 1 [.int .u8 x] rfl ?c1 ?c2 ?c3 ?c4 ?c5 ?_)
        case c1 =>
          refine Src.of_at rfl (fun j u hu => ?_)
          match j, hu with
          | 0, hu => simp at hu; subst hu; simp [Addr.add, go_sem]
        case c2 => first | rfl | (intro u hu; simp at hu; subst hu; rfl)
        case c3 => unfold maxLen; omega
        case c4 => omega
        case c5 => have := hbel.size; simp; omega
        · intro v' w2 hown' hgrow hat
          have Hown := Lib.hid hown'
          have Hgrow := Lib.hid hgrow
          have Holt := Lib.hid hown.lt
          clear hown hown' hgrow hat
          go_wp2_with fail
          go_roundw
          case rel =>
            refine ⟨k + 1, by omega, by go_num, ?_, ?_⟩
            · rw [Hq1.out, ints8_snoc, List.length_append]; exact Hown.out
            · have h1 : Below w1.heap.size w1 (wr.alloc (.cells #[.int .u8 (x : Int)] 5)) := hbel.alloc hbel.size _
              exact h1.grown Hgrow.out h1.size (fun g hg => (Holt.out g hg).1)
          case measure => simp [intOf]; omega
    · have hkl : k = l.length := by omega
      subst hkl
      have Hq : Hid (l.take l.length = l) := by unfold Hid; simp
      rw [Hq.out] at hown hqle
      clear hlt hk htk
      obtain ⟨A, c, rfl, hc0, hcm⟩ := own_shape hown
      have q0 : wr.cell? ⟨w.heap.size, 0, none⟩ = some (.int .i64 n) := by
        rw [hbel.cell (show w.heap.size < w1.heap.size by omega), hc1 _ _ (by simp)]; simp [go_sem]
      have q1 : wr.cell? ⟨w.heap.size, 1, none⟩ = some (.int .u32 v) := by
        rw [hbel.cell (show w.heap.size < w1.heap.size by omega), hc1 _ _ (by simp)]; simp [go_sem]
      have Hown := Lib.hid hown
      have z1 : w.heap.size < wr.heap.size := by have := hbel.size; omega
      clear hown hc1 hf1
      obtain ⟨x0, x1, x2, x3, x4, x5, hL⟩ : ∃ x0 x1 x2 x3 x4 x5, frameL (n + 64) v = [x0, x1, x2, x3, x4, x5] := ⟨_, _, _, _, _, _, rfl⟩
      have HL := Lib.hid hL; clear hL
      have HE := Lib.hid (Encode_yes n v hn hv)
      rw [laid_six, HL.out] at HE
      go_wp2_with fail
      refine (HE.out _).mono ?_
      rintro e w3 ⟨rfl, hb3⟩
      obtain ⟨hc3, hf3⟩ := bcell hb3
      have z2 : wr.heap.size ≤ w3.heap.size := hb3.size
      simp only [six, List.getD_cons_zero, List.getD_cons_succ]
      go_wp2_with fail
      have hA : (w3.alloc (.cells #[.int .u8 (x0 : Int), .int .u8 x1, .int .u8 x2, .int .u8 x3, .int .u8 x4, .int .u8 x5] 26)).ownsRow w1.heap.size 5 1 (.slice A (quietL l).length c) (quietL l).length (ints8 (quietL l)) := (own_below Hown.out hb3).alloc _
      have hX : Row (w3.alloc (.cells #[.int .u8 (x0 : Int), .int .u8 x1, .int .u8 x2, .int .u8 x3, .int .u8 x4, .int .u8 x5] 26)) w3.heap.size 26 #[.int .u8 (x0 : Int), .int .u8 x1, .int .u8 x2, .int .u8 x3, .int .u8 x4, .int .u8 x5] := Row.fresh _ _ _
      have hM : Cells8 (w3.alloc (.cells #[.int .u8 (x0 : Int), .int .u8 x1, .int .u8 x2, .int .u8 x3, .int .u8 x4, .int .u8 x5] 26)) a2 m :=
        ((((Hc2.out.keep (fun p v h => by rw [World.cell?_alloc_lt _ _ _ (World.block_lt_of_cell? w p h)]; exact h)).keep (keep_below hb1)).keep (keep_below hbel)).keep (keep_below hb3)).keep (fun p v h => by rw [World.cell?_alloc_lt _ _ _ (World.block_lt_of_cell? w3 p h)]; exact h)
      have hbW : Below wr.heap.size wr (w3.alloc (.cells #[.int .u8 (x0 : Int), .int .u8 x1, .int .u8 x2, .int .u8 x3, .int .u8 x4, .int .u8 x5] 26)) := hb3.alloc z2 _
      have z3 : (w3.alloc (.cells #[.int .u8 (x0 : Int), .int .u8 x1, .int .u8 x2, .int .u8 x3, .int .u8 x4, .int .u8 x5] 26)).heap.size = w3.heap.size + 1 := by simp
      have Z3 := Lib.hid z3
      have HA := Lib.hid hA
      have HX := Lib.hid hX
      have HM := Lib.hid hM
      have HbW := Lib.hid hbW
      clear hA hX hM hbW hc3 hf3 z3
      revert Z3 HA HX HM HbW
      generalize w3.alloc (.cells #[.int .u8 (x0 : Int), .int .u8 x1, .int .u8 x2, .int .u8 x3, .int .u8 x4, .int .u8 x5] 26) = W
      intro Z3 HA HX HM HbW
      go_cut [11] (fun s wx => ∃ v, s = v ∧ wx.ownsRow W.heap.size 5 1 v ((quietL l).length + 6 + m.length) (ints8 (quietL l ++ [x0, x1, x2, x3, x4, x5] ++ m)) ∧ Below W.heap.size W wx)
      case first =>
        have S1 := Lib.hid (show Src (W.alloc (.cells #[] 5)).drew 1 A (quietL l).length (ints8 (quietL l)) from (Src.of_own HA.out).keep (fun p v h => (World.cell?_alloc_lt _ _ _ (World.block_lt_of_cell? W p h)).trans h))
        have S2 := Lib.hid (show Src W 1 (some ⟨w3.heap.size, 0, none⟩) 6 (ints8 [x0, x1, x2, x3, x4, x5]) from Src.of_at rfl (fun j u hu => by
          rw [addr_add0, HX.out.cell]
          simpa [ints8] using hu))
        have S3 := Lib.hid (Src.bytes HM.out)
        go_region_law (first | (refine step_append_src (P := Try.prog) _ rfl (.tmp 61) (.tmp 62) 33 rfl W.heap.size 5 i0 (.int .u8 0) 1 1 Try.underlying33 hi hz0 hz1 hz2 rfl (by decide) (.slice (some ⟨W.heap.size, 0, none⟩) 0 0) 0 [] ?_ (World.ownsRow_made W.drew #[] 0 (by simp) (by simp [maxLen]) (by simp)) A (quietL l).length c (ints8 (quietL l)) ?_ S1.out (ints8_one _) (by unfold maxLen; omega) (by omega) ?_ ?_; (any_goals (simp [Act.eval, Act.put]; done)); intro v1 g1 own1 gr1 at1; have B1 : Below W.heap.size W g1 := (((Below.refl _ _).alloc (Nat.le_refl _) _).drew).grown gr1 (by simp) (by simp [Value.ownBlock])) | (refine step_append_src (P := Try.prog) _ rfl (.tmp 63) (.tmp 64) 33 rfl W.heap.size 5 i0 (.int .u8 0) 1 1 Try.underlying33 hi hz0 hz1 hz2 rfl (by decide) v1 (0 + (quietL l).length) ([] ++ ints8 (quietL l)) ?_ own1 (some ⟨w3.heap.size, 0, none⟩) 6 6 (ints8 [x0, x1, x2, x3, x4, x5]) ?_ (S2.out.keep (keep_below B1)) (ints8_one _) (by unfold maxLen; omega) (by omega) B1.size ?_; (any_goals (simp [Act.eval, Act.put]; done)); intro v2 g2 own2 gr2 at2; have B2 : Below W.heap.size W g2 := B1.grown gr2 B1.size (fun k hk => (own1.lt k hk).1)) | (refine step_append_src (P := Try.prog) _ rfl (.tmp 65) (.tmp 66) 33 rfl W.heap.size 5 i0 (.int .u8 0) 1 1 Try.underlying33 hi hz0 hz1 hz2 rfl (by decide) v2 (0 + (quietL l).length + 6) ([] ++ ints8 (quietL l) ++ ints8 [x0, x1, x2, x3, x4, x5]) ?_ own2 a2 m.length cap2 (ints8 m) ?_ (S3.out.keep (keep_below B2)) (ints8_one _) (by unfold maxLen; omega) (by omega) B2.size ?_; (any_goals (simp [Act.eval, Act.put]; done)); intro v3 g3 own3 gr3 at3; have B3 : Below W.heap.size W g3 := B2.grown gr3 B2.size (fun k hk => (own2.lt k hk).1)))
        go_wp2_with fail
        go_meet
        case rel =>
          refine ⟨v3, rfl, ?_, B3⟩
          have := own3
          simp only [List.nil_append, Nat.zero_add] at this
          rw [show ints8 (quietL l ++ [x0, x1, x2, x3, x4, x5] ++ m) = ints8 (quietL l) ++ ints8 [x0, x1, x2, x3, x4, x5] ++ ints8 m from by simp [ints8]]
          exact this
      case rest =>
        obtain ⟨v3, rfl, own3, B3⟩ := hcut
        obtain ⟨g, c3, rfl, hg0, hg1, hg2, hg3⟩ := own_at own3 (by omega)
        have hlen : (quietL l ++ [x0, x1, x2, x3, x4, x5] ++ m).length = (quietL l).length + 6 + m.length := by simp; omega
        have hq8 : ∀ x ∈ quietL l, x < 256 := fun x hx => H8.out x (List.mem_filter.1 hx).1
        have hx8 : ∀ x ∈ [x0, x1, x2, x3, x4, x5], x < 256 := by
          rw [← HL.out]; intro x hx
          have := sum7_lt (n + 64) v (by omega) hv
          simp [frameL] at hx; omega
        have hall : ∀ x ∈ quietL l ++ [x0, x1, x2, x3, x4, x5] ++ m, x < 256 := by
          intro x hx
          rw [List.mem_append, List.mem_append] at hx
          rcases hx with (hx | hx) | hx
          · exact hq8 x hx
          · exact hx8 x hx
          · exact M8.out x hx
        have hC3 := (Cells8.of_own own3).2
        have F1 : findN (quietL l ++ [x0, x1, x2, x3, x4, x5] ++ m) = (quietL l).length := by
          rw [List.append_assoc, findN_quiet l _ H8.out, ← HL.out, findN_frame n v hn, Nat.add_zero]
        have F2 : findN (quietL l) = (quietL l).length := by
          have := findN_quiet l [] H8.out
          simpa [findN] using this
        have HF1 := Lib.hid (fun w' hc' => Find_any (some ⟨g, 0, none⟩) (quietL l ++ [x0, x1, x2, x3, x4, x5] ++ m) ((quietL l).length + 6 + m.length) c3 hlen.symm (by rw [hlen]; unfold maxLen; omega) hall w' hc')
        rw [F1] at HF1
        have HF2 := Lib.hid (fun w' hc' => Find_any A (quietL l) (quietL l).length c rfl (by unfold maxLen; omega) hq8 w' hc')
        rw [F2] at HF2
        have HD := Lib.hid (fun w' hc' hb' => Decode_six g (quietL l).length [x0, x1, x2, x3, x4, x5] (c3 - (quietL l).length) rfl (by omega) (by omega) hx8 w' hc' hb')
        have Hcmd : readF [x0, x1, x2, x3, x4, x5] 64 = (n, v, 0) := by rw [← HL.out, readF_frame n v hn hv]
        rw [Hcmd] at HD
        have HC3 := Lib.hid hC3
        have HA3 := Lib.hid ((Cells8.of_own HA.out).2.keep (keep_below B3))
        have HX3 : Hid (Cells8 wc (some ⟨g, (quietL l).length, none⟩) [x0, x1, x2, x3, x4, x5]) := by
          intro i hi
          refine ⟨g, (quietL l).length, rfl, ?_⟩
          have h := hC3.at0 ((quietL l).length + i) (by rw [hlen]; simp at hi; omega)
          rw [Nat.zero_add] at h
          rw [h]
          have : (quietL l ++ [x0, x1, x2, x3, x4, x5] ++ m).getD ((quietL l).length + i) 0 = [x0, x1, x2, x3, x4, x5].getD i 0 := by
            simp only [List.getD]
            rw [List.append_assoc, List.getElem?_append_right (by omega), List.getElem?_append_left (by omega)]
            simp
          rw [this]
        have r0 : wc.cell? ⟨w.heap.size, 0, none⟩ = some (.int .i64 n) := (keep_below B3 _ _ (keep_below HbW.out _ _ q0))
        have r1 : wc.cell? ⟨w.heap.size, 1, none⟩ = some (.int .u32 v) := (keep_below B3 _ _ (keep_below HbW.out _ _ q1))
        have z5 : w.heap.size < wc.heap.size := World.block_lt_of_cell? wc _ r0
        clear F1 F2 Hcmd hC3 own3 hall hq8 hx8 hlen
        have hqn : (quietL l).length ≤ 1000 := by omega
        generalize (quietL l).length = q at *
        simp only [cmdOf] at HD
        go_wp2_with fail
        refine (HF1.out _ HC3.out).mono ?_
        rintro e w5 ⟨rfl, rfl⟩
        have ht : ((q : Int) != q) = false := by simp
        go_wp2_with fail
        refine (HF2.out _ HA3.out).mono ?_
        rintro e w5 ⟨rfl, rfl⟩
        go_wp2_with fail
        refine (HD.out _ HX3.out hg1).mono ?_
        rintro e w6 ⟨rfl, hb6⟩
        obtain ⟨hc6, hf6⟩ := bcell hb6
        have z6 : w.heap.size < w6.heap.size := by have := hb6.size; omega
        go_wp2
        go_ret
        refine ⟨rfl, ?_⟩
        have hb3' := HbW.out
        (have hsz0 := Below.size hb6; have hsz1 := Below.size B3; have hsz2 := Below.size hb3'; have hsz3 := Below.size hbel; have hsz4 := Below.size hb1; repeat (first | (with_reducible refine Below.drew ?_) | (with_reducible refine below_drewN0 ?_ _) | ((with_reducible refine Below.setCell ?_ ?_ _); rotate_left; focus (first | omega | (simp; done) | (simp; omega) | (simp at *; omega))) | ((with_reducible refine Below.alloc ?_ ?_ _); rotate_left; focus (first | omega | (simp; done) | (simp; omega) | (simp at *; omega))) | ((with_reducible refine Below.trans ?_ (Below.mono hb6 ?_)); rotate_left; focus (first | omega | (simp; done) | (simp; omega) | (simp at *; omega))) | ((with_reducible refine Below.trans ?_ (Below.mono B3 ?_)); rotate_left; focus (first | omega | (simp; done) | (simp; omega) | (simp at *; omega))) | ((with_reducible refine Below.trans ?_ (Below.mono hb3' ?_)); rotate_left; focus (first | omega | (simp; done) | (simp; omega) | (simp at *; omega))) | ((with_reducible refine Below.trans ?_ (Below.mono hbel ?_)); rotate_left; focus (first | omega | (simp; done) | (simp; omega) | (simp at *; omega))) | ((with_reducible refine Below.trans ?_ (Below.mono hb1 ?_)); rotate_left; focus (first | omega | (simp; done) | (simp; omega) | (simp at *; omega))) | (with_reducible exact Below.refl _ _)))
end Go.Proofs.Yteocmpaabihoiaa
