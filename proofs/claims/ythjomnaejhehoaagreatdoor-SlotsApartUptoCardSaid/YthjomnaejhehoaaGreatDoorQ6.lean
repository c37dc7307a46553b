/- What follows is laid together from several texts of mine, in their order. -/
import Derived.Test.YthjomnaejhehoaaGreatDoorQ5
import Derived.Test.YthjomnaejhehoaaGreatDoorQ4
import Derived.Deep.OwnRows

namespace Go.Proofs.YthjomnaejhehoaaGreatDoor
open Go.RowKit
set_option linter.unusedVariables false
set_option linter.unusedSimpArgs false

theorem Mark_any (x : Nat) (hx : x < 256) (w : World) : Calls Tryz.prog 103 #[.int .u8 x] w fun e w' => e = .returned (.bool (decide (pop8 x ≤ 4))) ∧ w = w' := by
  have HP := Lib.hid (pop_any x hx w)
  have hb : decide ((pop8 x : Int) ≤ 4) = decide (pop8 x ≤ 4) := decide_eq_decide.2 (by omega)
  generalize pop8 x = p at *
  go_enter Tryz.func103, Tryz.ntmps103
  go_wp2_with fail
  refine HP.out.mono ?_
  rintro e w' ⟨rfl, rfl⟩
  clear HP
  go_wp2
  go_ret
  exact ⟨by rw [← hb]; rfl, rfl⟩
theorem right_any (A : Option Addr) (cp n : Nat) (hn : n = 73 ∨ n = 146 ∨ n = 219 ∨ n = 292 ∨ n = 365 ∨ n = 438 ∨ n = 511 ∨ n = 584) (w : World) : Calls Tryz.prog 102 #[.slice A n cp] w fun e w' => e = .returned (.bool true) ∧ w = w' := by
  rcases hn with rfl | rfl | rfl | rfl | rfl | rfl | rfl | rfl
  all_goals
    go_enter Tryz.func102, Tryz.ntmps102
    go_wp2
    go_ret
    exact ⟨rfl, rfl⟩
/-- How many marks say written, of the first k chunks. -/
def marks (l : List Nat) : Nat → Nat
  | 0 => 0
  | k + 1 => marks l k + (if pop8 (l.getD (72 + 73 * k) 0) ≤ 4 then 1 else 0)
theorem marks_le (l : List Nat) (k : Nat) : marks l k ≤ k := by
  induction k with
  | zero => simp [marks]
  | succ k ih => unfold marks; split <;> omega
/-- A page's state, of c chunks. -/
def stateOf (l : List Nat) (c : Nat) : Nat := if marks l c = 0 then 0 else if marks l c = c then 2 else 1
set_option maxHeartbeats 2000000 in
theorem State_any (b off cp c : Nat) (l : List Nat) (hl : l.length = 73 * c) (h1 : 1 ≤ c) (h8 : c ≤ 8) (h256 : ∀ u ∈ l, u < 256) (w : World) (hc : Cells8 w (some ⟨b, off, none⟩) l) :
    Calls Tryz.prog 86 #[.slice (some ⟨b, off, none⟩) (73 * c) cp] w fun e w' => e = .returned (.int .i64 (stateOf l c : Nat)) ∧ w = w' := by
  have HR := Lib.hid (right_any (some ⟨b, off, none⟩) cp (73 * c) (by omega) w)
  have HC := Lib.hid hc
  have HL := Lib.hid hl
  have H256 := Lib.hid h256
  obtain ⟨n, hn⟩ : ∃ n, n = 73 * c := ⟨_, rfl⟩
  have HN := Lib.hid hn
  rw [← hn] at HR ⊢
  have hq : IntKind.i64.wrap (Int.tdiv (n : Int) 73) = (c : Int) := by
    rw [hn, IntKind.wrap_i64]; rcases (show c = 1 ∨ c = 2 ∨ c = 3 ∨ c = 4 ∨ c = 5 ∨ c = 6 ∨ c = 7 ∨ c = 8 by omega) with rfl | rfl | rfl | rfl | rfl | rfl | rfl | rfl <;> decide
  clear hc hl h256
  have hnb : 73 ≤ n ∧ n ≤ 584 := by omega
  clear hn
  go_enter Tryz.func86, Tryz.ntmps86
  go_wp2_with fail
  refine HR.out.mono ?_
  rintro e w' ⟨rfl, rfl⟩
  clear HR
  go_wp2
  go_loop [3, 4] (fun m i => ∃ k : Nat, k ≤ c ∧ m = .int .i64 (marks l k : Nat) ∧ i = .int .i64 (72 + 73 * k : Nat)) (fun _ i => 700 - (intOf i).toNat)
  case atStart => exact ⟨0, by omega, rfl, rfl⟩
  case round =>
    obtain ⟨k, hk, rfl, rfl⟩ := hrel
    obtain ⟨p, hp⟩ : ∃ p, p = 72 + 73 * k := ⟨_, rfl⟩
    have HP := Lib.hid hp
    have hm := marks_le l k
    by_cases hlt : k < c
    · have hpn : p < n := by have := HN.out; omega
      have hpi : (p : Int) < n := by omega
      have hcell := HC.out.at0 p (by rw [HL.out, ← HN.out]; exact hpn)
      have hx : l.getD p 0 < 256 := getD_lt H256.out p
      have HS : Hid (marks l (k + 1) = marks l k + (if pop8 (l.getD p 0) ≤ 4 then 1 else 0)) := by unfold Hid; rw [hp]; rfl
      have hw : IntKind.i64.wrap ((p : Int) + 73) = ((p + 73 : Nat) : Int) := by rw [IntKind.wrap_i64]; omega
      rw [← hp]
      have HMk := Lib.hid (Mark_any (l.getD p 0) hx w)
      generalize l.getD p 0 = x at *
      generalize marks l k = m at *
      have hwm : IntKind.i64.wrap ((m : Int) + 1) = ((m + 1 : Nat) : Int) := by rw [IntKind.wrap_i64]; omega
      clear hp
      go_wp2_with fail
      refine HMk.out.mono ?_
      rintro e w' ⟨rfl, rfl⟩
      clear HMk
      by_cases h4 : pop8 x ≤ 4
      · rw [if_pos h4] at HS
        rw [decide_eq_true h4]
        go_wp2
        go_round
        case rel => exact ⟨k + 1, by omega, by rw [HS.out]; go_num, by rw [show 72 + 73 * (k + 1) = p + 73 by have := HP.out; omega]; go_num⟩
        case measure => simp [intOf]; omega
      · rw [if_neg h4] at HS
        rw [decide_eq_false h4]
        go_wp2
        go_round
        case rel => exact ⟨k + 1, by omega, by rw [HS.out]; rfl, by rw [show 72 + 73 * (k + 1) = p + 73 by have := HP.out; omega]; go_num⟩
        case measure => simp [intOf]; omega
    · obtain rfl : k = c := by omega
      have hpn : ¬ (p : Int) < n := by have := HN.out; omega
      rw [← hp]
      have HS : Hid (stateOf l k = if marks l k = 0 then 0 else if marks l k = k then 2 else 1) := rfl
      obtain ⟨m, hmm⟩ : ∃ m, m = marks l k := ⟨_, rfl⟩
      rw [← hmm] at HS ⊢
      clear hm
      have HMm := Lib.hid hmm
      clear hmm
      clear hp
      by_cases h0 : m = 0
      · subst h0
        have HS' := HS.out
        rw [if_pos rfl] at HS'
        clear HS
        go_wp2
        go_ret
        exact ⟨rfl, rfl⟩
      · have h0i : ¬ (m : Int) = 0 := by omega
        have HS' := HS.out
        rw [if_neg h0] at HS'
        by_cases hk2 : m = k
        · subst hk2
          rw [if_pos rfl] at HS'
          have hqm : (m : Int) = (n : Int) / 73 := by have := HN.out; omega
          clear HS
          go_wp2
          go_ret
          exact ⟨rfl, rfl⟩
        · have hki : ¬ (m : Int) = k := by omega
          rw [if_neg hk2] at HS'
          have hqm : ¬ (m : Int) = (n : Int) / 73 := by have := HN.out; omega
          clear HS
          go_wp2
          go_ret
          exact ⟨rfl, rfl⟩
end Go.Proofs.YthjomnaejhehoaaGreatDoor
namespace Go.Proofs.YthjomnaejhehoaaGreatDoor
open Go.RowKit
set_option linter.unusedVariables false
set_option linter.unusedSimpArgs false

theorem u8_size1 : (Tryz.prog.info? 5).map (·.size) = some 1 := by kernel_rfl
theorem Cells8.take {w : World} {A : Option Addr} {l : List Nat} (h : Cells8 w A l) (k : Nat) : Cells8 w A (l.take k) := fun i hi => by
  rw [List.length_take] at hi
  obtain ⟨b, o, e, h⟩ := h i (by omega)
  refine ⟨b, o, e, ?_⟩
  rw [h]
  congr 3
  rw [List.getD_eq_getElem?_getD, List.getD_eq_getElem?_getD, List.getElem?_take, if_pos (by omega)]
theorem Cells8.of_row {w : World} {b : Nat} {t : TypeId} {l : List Nat} (h : Row w b t (intsV .u8 l).toArray) : Cells8 w (some ⟨b, 0, none⟩) l := fun i hi => ⟨b, 0, rfl, by
  rw [Nat.zero_add, h.cell i, List.getElem?_toArray]
  simp [intsV, List.getD_eq_getElem?_getD, List.getElem?_eq_getElem hi]⟩
theorem mem_take {l : List Nat} {k : Nat} (h : ∀ u ∈ l, u < 256) : ∀ u ∈ l.take k, u < 256 := fun u hu => h u (List.mem_of_mem_take hu)
/-- The data of a page of c chunks, filled up with 0. -/
def pad (d : List Nat) (c : Nat) : List Nat := d ++ List.replicate (64 * c - d.length) 0
theorem pad_length (d : List Nat) (c : Nat) (h : d.length ≤ 64 * c) : (pad d c).length = 64 * c := by unfold pad; rw [List.length_append, List.length_replicate]; omega
theorem pad_lt {d : List Nat} (h : ∀ u ∈ d, u < 256) (c : Nat) : ∀ u ∈ pad d c, u < 256 := by
  intro u hu
  unfold pad at hu
  rw [List.mem_append] at hu
  rcases hu with h1 | h1
  · exact h u h1
  · rw [List.mem_replicate] at h1; omega
theorem made_zero (n : Nat) : madeCells #[Value.int .u8 0] n = (intsV .u8 (List.replicate n 0)).toArray := by
  apply Array.ext'
  simp only [madeCells, intsV, List.map_replicate]
  apply List.ext_getElem
  · simp
  · intro i h1 h2
    simp [Nat.mod_one]
theorem splice_pad (d : List Nat) (c : Nat) (h : d.length ≤ 64 * c) : splice (intsV .u8 (List.replicate (64 * c) 0)) 0 ((intsV .u8 d).take (64 * c)) = intsV .u8 (pad d c) := by
  have hl : (intsV .u8 d).length = d.length := by simp [intsV]
  rw [List.take_of_length_le (by omega)]
  unfold splice pad
  rw [List.take_zero, List.nil_append, Nat.zero_add, hl, intsV_append]
  congr 1
  simp [intsV]
/-- The k-th chunk's bytes. -/
def blk (l : List Nat) (k : Nat) : List Nat := (l.drop (64 * k)).take 64
theorem blk_length (l : List Nat) (k c : Nat) (h : l.length = 64 * c) (hk : k < c) : (blk l k).length = 64 := by unfold blk; rw [List.length_take, List.length_drop, h]; omega
/-- The first k chunks, laid. -/
def lay (l : List Nat) : Nat → List Nat
  | 0 => []
  | k + 1 => lay l k ++ blk l k ++ chks (blk l k) 8 ++ [0]
theorem lay_length (l : List Nat) (c : Nat) (h : l.length = 64 * c) : ∀ k, k ≤ c → (lay l k).length = 73 * k
  | 0, _ => rfl
  | k + 1, hk => by
    unfold lay
    simp only [List.length_append, lay_length l c h k (by omega), blk_length l k c h (by omega), chks_length]
    simp; omega
theorem lay_lt {l : List Nat} (h : ∀ u ∈ l, u < 256) : ∀ k, ∀ u ∈ lay l k, u < 256
  | 0 => by simp [lay]
  | k + 1 => by
    intro u hu
    unfold lay at hu
    simp only [List.mem_append] at hu
    rcases hu with ((h1 | h1) | h1) | h1
    · exact lay_lt h k u h1
    · exact mem_take (mem_drop h) u h1
    · exact chks_lt _ _ u h1
    · simp at h1; omega
/-- A page's bytes. -/
def laid (d : List Nat) (c : Nat) : List Nat := lay (pad d c) c
set_option maxRecDepth 100000 in
set_option maxHeartbeats 4000000 in
theorem Lay_any (A : Option Addr) (c cp : Nat) (d : List Nat) (h1 : 1 ≤ c) (h8 : c ≤ 8) (hd : d.length ≤ 64 * c) (h256 : ∀ u ∈ d, u < 256) (w : World) (hc : Cells8 w A d) (hT : Tab w) :
    Calls Tryz.prog 75 #[.slice A d.length cp, .int .i64 c] w fun e w' => ∃ Ao co, e = .returned (.tuple #[.slice Ao (73 * c) co, .int .i64 0]) ∧ w'.ownsRow w.heap.size 5 1 (.slice Ao (73 * c) co) (73 * c) (intsV .u8 (laid d c)) ∧ Below w.heap.size w w' := by
  obtain ⟨i1, ji, jz0, jz1, jz2⟩ := info_parts u8_info
  have hbk : i1.bytes * (64 * c) ≤ 281474976710656 := by rw [jz2]; omega
  have HBk := Lib.hid hbk
  clear hbk
  have HT := Lib.hid hT
  have HSd : Hid (Src (w.alloc (.cells (madeCells #[.int .u8 0] (64 * c)) 5)) 1 A d.length (intsV .u8 d)) := (Src.bytes hc).keep (fun a v h => (World.cell?_alloc_lt _ _ _ (World.block_lt_of_cell? w a h)).trans h)
  have HR : Hid (Row (w.alloc (.cells (madeCells #[.int .u8 0] (64 * c)) 5)) w.heap.size 5 (intsV .u8 (List.replicate (64 * c) 0)).toArray) := by unfold Hid; rw [← made_zero]; exact Row.fresh _ _ _
  have HB0 : Hid (Below w.heap.size w (w.alloc (.cells (madeCells #[.int .u8 0] (64 * c)) 5))) := (Below.refl _ _).alloc (Nat.le_refl _) _
  have H256 := Lib.hid (pad_lt h256 c)
  have HPl := Lib.hid (pad_length d c hd)
  have HSp := Lib.hid (splice_pad d c hd)
  have HD : Hid (laid d c = lay (pad d c) c) := rfl
  have HLl := Lib.hid (fun k hk => lay_length (pad d c) c (pad_length d c hd) k hk)
  obtain ⟨n, hn⟩ : ∃ n, n = 64 * c := ⟨_, rfl⟩
  obtain ⟨m, hm⟩ : ∃ m, m = d.length := ⟨_, rfl⟩
  have HN := Lib.hid hn
  have HM := Lib.hid hm
  rw [← hn] at HBk HSd HR HB0 HSp
  rw [← hm] at HSd ⊢
  have hg1 : ¬ (n : Int) < m := by omega
  have hw1 : IntKind.i64.wrap (64 * (c : Int)) = (n : Int) := by rw [IntKind.wrap_i64]; omega
  have hmn : m ≤ n := by omega
  have hn5 : 64 ≤ n ∧ n ≤ 512 := by omega
  generalize laid d c = ll at *
  clear hc hT hn hm h256 hd
  go_enter Tryz.func75, Tryz.ntmps75
  go_wp2_with (first | (with_reducible refine wpList_make_row _ (o := ⟨some 25, .makeSlice 22 (.tmp 24) (.tmp 24), _, _, _, _⟩) rfl (.tmp 24) (.tmp 24) 22 rfl 5 i1 _ Tryz.underlying22 ji jz0 jz1 rfl .i64 .i64 n rfl rfl HBk.out (by omega) ?_) | (with_reducible refine wpList_copy_grown (o := ⟨some 28, _, _, _, _, _⟩) rfl (.tmp 26) (.tmp 27) 22 22 rfl 5 Tryz.underlying22 u8_size1 _ n n m _ w.heap.size 0 rfl rfl _ 5 HR.out _ HSd.out (intsV_one .u8 d) ?c2 ?_))
  case c2 => simp [intsV]; omega
  intro w1 hr1 hg1
  have HR1 : Hid (Row w1 w.heap.size 5 (intsV .u8 (pad d c)).toArray) := by
    unfold Hid
    have := hr1.out
    rw [HSp.out] at this
    exact this
  have HB1 : Hid (Below w.heap.size w w1) := below_grown HB0.out hg1.out HB0.out.size (Nat.le_refl _)
  have HT1 := Lib.hid (HT.out.keep (keep_below HB1.out))
  have HC1 : Hid (Cells8 w1 (some ⟨w.heap.size, 0, none⟩) (pad d c)) := Cells8.of_row HR1.out
  generalize pad d c = lp at *
  clear hr1 hg1 HR HB0 HSd HBk HSp HT HR1 hw1
  have hwlt : w.heap.size ≤ w1.heap.size := HB1.out.size
  go_wp2
  go_loopw [7, 8] (fun ov i wr => ∃ (Ao : Option Addr) (co k : Nat), ov = .slice Ao (73 * k) co ∧ k ≤ c ∧ i = .int .i64 (64 * k : Nat) ∧ wr.ownsRow w1.heap.size 5 1 (.slice Ao (73 * k) co) (73 * k) (intsV .u8 (lay lp k)) ∧ Below w1.heap.size w1 wr) (fun _ i _ => 600 - (intOf i).toNat)
  case atStart => exact ⟨none, 0, 0, rfl, by omega, rfl, World.ownsRow_nil _ _ _ _, Below.refl _ _⟩
  case round =>
    obtain ⟨Ao, co, k, rfl, hk, rfl, ho, hb⟩ := hrel
    have HO := Lib.hid ho
    have HB := Lib.hid hb
    clear ho hb
    by_cases hlt : k < c
    · have HS : Hid (lay lp (k + 1) = lay lp k ++ blk lp k ++ chks (blk lp k) 8 ++ [0]) := rfl
      have HCf : Hid (∀ wx, Below w1.heap.size w1 wx → Cells8 wx (some ⟨w.heap.size, 64 * k, none⟩) (blk lp k)) := fun wx hx => by
        have := ((HC1.out.keep (keep_below hx)).drop (64 * k)).take 64
        rwa [Nat.zero_add] at this
      have HTf : Hid (∀ wx, Below w1.heap.size w1 wx → Tab wx) := fun wx hx => HT1.out.keep (keep_below hx)
      have HBl := Lib.hid (blk_length lp k c HPl.out hlt)
      have HBlt : Hid (∀ u ∈ blk lp k, u < 256) := mem_take (mem_drop H256.out)
      generalize blk lp k = bl at *
      obtain ⟨p, hp⟩ : ∃ p, p = 64 * k := ⟨_, rfl⟩
      obtain ⟨q, hq⟩ : ∃ q, q = 73 * k := ⟨_, rfl⟩
      have HP := Lib.hid hp
      have HQ := Lib.hid hq
      have hpn : p + 64 ≤ n := by have := HN.out; omega
      have hpi : (p : Int) < n := by omega
      rw [← hq] at HO
      rw [← hp] at HCf
      rw [← hq, ← hp]
      have hw64 : IntKind.i64.wrap ((p : Int) + 64) = (p : Int) + 64 := by rw [IntKind.wrap_i64]; omega
      have hqb : q ≤ 511 := by omega
      have HSr : Hid (Src wr 1 (some ⟨w.heap.size, p, none⟩) 64 (intsV .u8 bl)) := by
        have := Src.bytes (HCf.out wr HB.out)
        rw [HBl.out] at this
        exact this
      have g1 : Hid (q + 64 ≤ maxLen) := by unfold Hid maxLen; omega
      have g2 : Hid ((q + 64) * 1 ≤ 140737488355328) := by unfold Hid; omega
      clear hp hq
      go_wp2_with (at_builtin; rw [show p + 64 - p = 64 from Nat.add_sub_cancel_left p 64]; go_must (refine wpList_append_src _ rfl _ _ 22 rfl w1.heap.size 5 i1 _ 1 1 Tryz.underlying22 ji jz0 jz1 jz2 rfl (by decide) _ q (intsV .u8 (lay lp k)) rfl HO.out (some ⟨w.heap.size, p, none⟩) 64 64 _ rfl HSr.out (intsV_one .u8 _) g1.out g2.out HB.out.size ?_))
      intro v2 w2 hown2 hgrow2 hat2
      obtain ⟨A2, c2, rfl, _, _⟩ := own_shape hown2
      have HB2 := Lib.hid (below_append HB.out HO.out hgrow2 HB.out.size)
      rw [← intsV_append] at hown2
      have HO2 := Lib.hid hown2
      have HW := Lib.hid (Words_any w.heap.size p 64 bl HBl.out (by omega) HBlt.out w2 (HCf.out w2 HB2.out) (HTf.out w2 HB2.out))
      clear hown2 hgrow2 hat2 HSr HO HB g1 g2
      go_wp2_with fail
      refine HW.out.mono ?_
      rintro e w3 ⟨A3, c3, rfl, hown3, hb3⟩
      have HB3 : Hid (Below w1.heap.size w1 w3) := HB2.out.trans (hb3.mono HB2.out.size)
      have HO3 := Lib.hid (own_below HO2.out hb3)
      have HS3 := Lib.hid (Src.of_own hown3)
      have g1 : Hid (q + 64 + 8 ≤ maxLen) := by unfold Hid maxLen; omega
      have g2 : Hid ((q + 64 + 8) * 1 ≤ 140737488355328) := by unfold Hid; omega
      clear HW hown3 hb3 HB2 HO2
      go_wp2_with (at_builtin; go_must (refine wpList_append_src _ rfl _ _ 22 rfl w1.heap.size 5 i1 _ 1 1 Tryz.underlying22 ji jz0 jz1 jz2 rfl (by decide) _ (q + 64) (intsV .u8 (lay lp k ++ bl)) rfl HO3.out A3 8 c3 _ rfl HS3.out (intsV_one .u8 _) g1.out g2.out HB3.out.size ?_))
      intro v4 w4 hown4 hgrow4 hat4
      obtain ⟨A4, c4, rfl, _, _⟩ := own_shape hown4
      have HB4 := Lib.hid (below_append HB3.out HO3.out hgrow4 HB3.out.size)
      rw [← intsV_append] at hown4
      have HO5 := Lib.hid (own_below hown4 ((Below.refl w4.heap.size w4).alloc (Nat.le_refl _) (.cells #[.int .u8 0] 5)))
      have HS5 : Hid (Src (w4.alloc (.cells #[.int .u8 0] 5)) 1 (some ⟨w4.heap.size, 0, none⟩) 1 [.int .u8 0]) := src_one
      have HB5 : Hid (Below w1.heap.size w1 (w4.alloc (.cells #[.int .u8 0] 5))) := HB4.out.alloc HB4.out.size _
      have g1' : Hid (q + 64 + 8 + 1 ≤ maxLen) := by unfold Hid maxLen; omega
      have g2' : Hid ((q + 64 + 8 + 1) * 1 ≤ 140737488355328) := by unfold Hid; omega
      have H1 : Hid (∀ u ∈ [Value.int .u8 0], u.oneCell' = true) := by unfold Hid; simp [Value.oneCell']
      clear hown4 hgrow4 hat4 HO3 HS3 HB3 HB4 g1 g2
      go_wp2_with (at_builtin; go_must (refine wpList_append_src _ rfl _ _ 22 rfl w1.heap.size 5 i1 _ 1 1 Tryz.underlying22 ji jz0 jz1 jz2 rfl (by decide) _ (q + 64 + 8) (intsV .u8 (lay lp k ++ bl ++ chks bl 8)) rfl HO5.out (some ⟨w4.heap.size, 0, none⟩) 1 1 _ rfl HS5.out H1.out g1'.out g2'.out HB5.out.size ?_))
      intro v6 w6 hown6 hgrow6 hat6
      obtain ⟨A6, c6, rfl, _, _⟩ := own_shape hown6
      have HB6 := Lib.hid (below_append HB5.out HO5.out hgrow6 HB5.out.size)
      rw [show intsV .u8 (lay lp k ++ (bl ++ chks bl 8)) ++ [Value.int .u8 0] = intsV .u8 (lay lp (k + 1)) by rw [HS.out]; simp [intsV], show q + 64 + 8 + 1 = 73 * (k + 1) by have := HQ.out; omega] at hown6
      have HO6 := Lib.hid hown6
      rw [show q + 64 + 8 + 1 = 73 * (k + 1) by have := HQ.out; omega]
      clear hown6 hgrow6 hat6 HO5 HS5 HB5 g1' g2' H1
      go_wp2
      go_roundw
      case rel => exact ⟨A6, c6, k + 1, rfl, by omega, by rw [show 64 * (k + 1) = p + 64 by have := HP.out; omega]; go_num, HO6.out, HB6.out⟩
      case measure => simp [intOf]; omega
    · obtain rfl : k = c := by omega
      have hpn : ¬ ((64 * k : Nat) : Int) < n := by have := HN.out; omega
      have HOe : Hid (wr.ownsRow w.heap.size 5 1 (.slice Ao (73 * k) co) (73 * k) (intsV .u8 ll)) := by unfold Hid; rw [HD.out]; exact own_mono HO.out hwlt
      have HBe : Hid (Below w.heap.size w wr) := HB1.out.trans (HB.out.mono hwlt)
      go_wp2
      refine bodyPost_ret (v := .tuple #[.slice Ao (73 * k) co, .int .i64 0]) (by simp [results, Tryz.results75, go_sem]) rfl ⟨Ao, co, rfl, HOe.out, HBe.out⟩
end Go.Proofs.YthjomnaejhehoaaGreatDoor

namespace Go.Proofs.YthjomnaejhehoaaGreatDoor
open Go.RowKit
set_option linter.unusedVariables false
set_option linter.unusedSimpArgs false

/-- The k-th chunk's data, its checks. -/
def cd (l : List Nat) (k : Nat) : List Nat := (l.drop (73 * k)).take 64
def cc (l : List Nat) (k : Nat) : List Nat := (l.drop (73 * k + 64)).take 8
def rBytes (l : List Nat) : Nat → List Nat
  | 0 => []
  | k + 1 => rBytes l k ++ mBytes (cd l k) (cc l k) 8
def rCnt (l : List Nat) : Nat → Nat
  | 0 => 0
  | k + 1 => rCnt l k + mCnt (cd l k) (cc l k) 8
def rBad (l : List Nat) (c : Nat) : Bool := (List.range c).any fun k => mBad (cd l k) (cc l k)
theorem rBad_at (l : List Nat) (c k : Nat) (hk : k < c) (h : mBad (cd l k) (cc l k) = true) : rBad l c = true := by
  unfold rBad
  rw [List.any_eq_true]
  exact ⟨k, List.mem_range.2 hk, h⟩
theorem rBad_none (l : List Nat) (c : Nat) (h : ∀ i, i < c → mBad (cd l i) (cc l i) = false) : rBad l c = false := by
  unfold rBad
  rw [List.any_eq_false]
  intro i hi
  simp [h i (List.mem_range.1 hi)]
theorem rBytes_length (l : List Nat) (k : Nat) : (rBytes l k).length = 64 * k := by
  induction k with
  | zero => rfl
  | succ k ih => unfold rBytes; rw [List.length_append, ih, mBytes_length]; omega
theorem rBytes_lt (l : List Nat) (k : Nat) : ∀ u ∈ rBytes l k, u < 256 := by
  induction k with
  | zero => simp [rBytes]
  | succ k ih =>
    intro u hu
    unfold rBytes at hu
    rw [List.mem_append] at hu
    rcases hu with h | h
    · exact ih u h
    · exact mBytes_lt _ _ _ u h
theorem rCnt_le (l : List Nat) (k : Nat) : rCnt l k ≤ 8 * k := by
  induction k with
  | zero => simp [rCnt]
  | succ k ih => unfold rCnt; have := mCnt_le (cd l k) (cc l k) 8; omega
theorem own_take {w : World} {B : Nat} {e : TypeId} {A : Option Addr} {n c m : Nat} {xs : List Value} (h : w.ownsRow B e 1 (.slice A n c) n xs) (hm : m ≤ n) (h1 : 0 < n) : w.ownsRow B e 1 (.slice A m c) m (xs.take m) := by
  obtain ⟨hl, h2⟩ := h
  rcases h2 with ⟨_, rfl⟩ | ⟨g, cap, cur, e1, h0, hb, hc, hm2, hs, ht⟩
  · omega
  · injection e1 with e1 _ e3
    subst e1; subst e3
    refine ⟨by rw [List.length_take]; omega, .inr ⟨g, _, cur, rfl, h0, hb, by omega, hm2, hs, ?_⟩⟩
    rw [← ht, List.take_take]
    congr 1
    omega
/-- What Read leaves. -/
def ReadPost (l : List Nat) (c n : Nat) (w : World) (e : Ending) (w' : World) : Prop :=
  Below w.heap.size w w' ∧ (stateOf l c ≠ 2 → e = .returned (.tuple #[.slice none 0 0, .int .i64 0, .int .i64 (stateOf l c : Nat)])) ∧
    (stateOf l c = 2 → rBad l c = true → e = .returned (.tuple #[.slice none 0 0, .int .i64 0, .int .i64 3])) ∧
    (stateOf l c = 2 → rBad l c = false → ∃ A q, e = .returned (.tuple #[.slice A n q, .int .i64 (rCnt l c : Nat), .int .i64 2]) ∧ w'.ownsRow w.heap.size 5 1 (.slice A n q) n (intsV .u8 ((rBytes l c).take n)))
theorem stateOf_of (l : List Nat) (c : Nat) : stateOf l c = 0 ∨ stateOf l c = 1 ∨ stateOf l c = 2 := by unfold stateOf; split; simp; split <;> simp
set_option maxRecDepth 100000 in
set_option maxHeartbeats 4000000 in
theorem Read_any (b off cp c n : Nat) (l : List Nat) (hl : l.length = 73 * c) (h1 : 1 ≤ c) (h8 : c ≤ 8) (hn1 : n ≤ 64 * c) (hcp : 73 * c ≤ cp) (h256 : ∀ u ∈ l, u < 256) (w : World) (hc : Cells8 w (some ⟨b, off, none⟩) l) (hT : Tab w) :
    Calls Tryz.prog 78 #[.slice (some ⟨b, off, none⟩) (73 * c) cp, .int .i64 n] w (ReadPost l c n w) := by
  obtain ⟨i1, ji, jz0, jz1, jz2⟩ := info_parts u8_info
  have HSt := Lib.hid (State_any b off cp c l hl h1 h8 h256 w hc)
  have HC := Lib.hid hc
  have HT := Lib.hid hT
  have HL := Lib.hid hl
  have H256 := Lib.hid h256
  have HPd : ReadPost l c n w = fun e w' => ReadPost l c n w e w' := rfl
  have hso := stateOf_of l c
  have HSo := Lib.hid hso
  obtain ⟨s, hs⟩ : ∃ s, s = stateOf l c := ⟨_, rfl⟩
  have HS := Lib.hid hs
  obtain ⟨m, hm⟩ : ∃ m, m = 73 * c := ⟨_, rfl⟩
  have HM := Lib.hid hm
  rw [← hs] at HSt HSo
  rw [← hm] at HSt ⊢
  have hq : (m : Int) / 73 = (c : Int) := by omega
  have hwq : IntKind.i64.wrap ((c : Int) * 64) = ((64 * c : Nat) : Int) := by rw [IntKind.wrap_i64]; omega
  have hnm : ¬ ((64 * c : Nat) : Int) < n := by omega
  have hmb : 73 ≤ m ∧ m ≤ 584 ∧ m ≤ cp := by omega
  clear hc hT hl h256 HPd hso hs hm hcp
  go_enter Tryz.func78, Tryz.ntmps78
  go_wp2_with fail
  refine HSt.out.mono ?_
  rintro e w' ⟨rfl, rfl⟩
  clear HSt
  rcases HSo.out with h | h | h
  · subst h
    go_wp2
    refine bodyPost_ret (v := .tuple #[.slice none 0 0, .int .i64 0, .int .i64 0]) (by simp [results, Tryz.results78, go_sem]) rfl ⟨Below.refl _ _, fun _ => by rw [← HS.out]; rfl, fun h => ?_, fun h => ?_⟩
    all_goals rw [← HS.out] at h; cases h
  · subst h
    go_wp2
    refine bodyPost_ret (v := .tuple #[.slice none 0 0, .int .i64 0, .int .i64 1]) (by simp [results, Tryz.results78, go_sem]) rfl ⟨Below.refl _ _, fun _ => by rw [← HS.out]; rfl, fun h => ?_, fun h => ?_⟩
    all_goals rw [← HS.out] at h; cases h
  · subst h
    have hs2 : stateOf l c = 2 := HS.out.symm
    have HS2 := Lib.hid hs2
    clear hs2 HSo
    go_wp2
    go_loopw [8, 9, 10] (fun ov mv i wr => ∃ (Ao : Option Addr) (co k : Nat), ov = .slice Ao (64 * k) co ∧ k ≤ c ∧ mv = .int .i64 (rCnt l k : Nat) ∧ i = .int .i64 (73 * k : Nat) ∧ (∀ j, j < k → mBad (cd l j) (cc l j) = false) ∧ wr.ownsRow w.heap.size 5 1 (.slice Ao (64 * k) co) (64 * k) (intsV .u8 (rBytes l k)) ∧ Below w.heap.size w wr) (fun _ _ i _ => 600 - (intOf i).toNat)
    case atStart => exact ⟨none, 0, 0, rfl, by omega, rfl, rfl, fun j hj => by omega, World.ownsRow_nil _ _ _ _, Below.refl _ _⟩
    case round =>
      obtain ⟨Ao, co, k, rfl, hk, rfl, rfl, hok, ho, hb⟩ := hrel
      have HO := Lib.hid ho
      have HB := Lib.hid hb
      have HOk := Lib.hid hok
      clear ho hb hok
      by_cases hlt : k < c
      · have hcdl : (cd l k).length = 64 := by unfold cd; rw [List.length_take, List.length_drop, HL.out]; omega
        have hccl : (cc l k).length = 8 := by unfold cc; rw [List.length_take, List.length_drop, HL.out]; omega
        have HBy : Hid (rBytes l (k + 1) = rBytes l k ++ mBytes (cd l k) (cc l k) 8) := rfl
        have HCt : Hid (rCnt l (k + 1) = rCnt l k + mCnt (cd l k) (cc l k) 8) := rfl
        have HC1 : Hid (Cells8 wr (some ⟨b, off + 73 * k, none⟩) (cd l k)) := ((HC.out.keep (keep_below HB.out)).drop (73 * k)).take 64
        have HC2 : Hid (Cells8 wr (some ⟨b, off + (73 * k + 64), none⟩) (cc l k)) := ((HC.out.keep (keep_below HB.out)).drop (73 * k + 64)).take 8
        have HMa := Lib.hid (MendAll_any b (off + 73 * k) 64 b (off + (73 * k + 64)) 8 (cd l k) (cc l k) hcdl hccl (by omega) (mem_take (mem_drop H256.out)) (mem_take (mem_drop H256.out)) wr.drew HC1.out HC2.out (HT.out.keep (keep_below HB.out.drew)))
        have HBad : Hid (mBad (cd l k) (cc l k) = true → rBad l c = true) := fun h => rBad_at l c k hlt h
        have hmc := mCnt_le (cd l k) (cc l k) 8
        have hrc := rCnt_le l k
        obtain ⟨xd, hxd⟩ : ∃ xd, xd = cd l k := ⟨_, rfl⟩
        obtain ⟨xc, hxc⟩ : ∃ xc, xc = cc l k := ⟨_, rfl⟩
        have HBk : Hid (mBad (cd l k) (cc l k) = mBad xd xc) := by unfold Hid; rw [hxd, hxc]
        rw [← hxd, ← hxc] at HBy HCt HMa HBad
        rw [← hxd, ← hxc] at hmc
        clear hxd hxc
        obtain ⟨p, hp⟩ : ∃ p, p = 73 * k := ⟨_, rfl⟩
        have HP := Lib.hid hp
        have hpm : p + 73 ≤ m := by have := HM.out; omega
        have hpi : (p : Int) < m := by omega
        have hw64 : IntKind.i64.wrap ((p : Int) + 64) = (p : Int) + 64 := by rw [IntKind.wrap_i64]; omega
        have hw72 : IntKind.i64.wrap ((p : Int) + 72) = (p : Int) + 72 := by rw [IntKind.wrap_i64]; omega
        have hw73 : IntKind.i64.wrap ((p : Int) + 73) = (p : Int) + 73 := by rw [IntKind.wrap_i64]; omega
        rw [← hp] at HMa ⊢
        clear hp hcdl hccl HC1 HC2
        have HBdr : Hid (Below w.heap.size w wr.drew) := HB.out.drew
        have HOd : Hid (wr.drew.ownsRow w.heap.size 5 1 (.slice Ao (64 * k) co) (64 * k) (intsV .u8 (rBytes l k))) := HO.out.drew
        have hwn : wr.heap.size = wr.drew.heap.size := rfl
        rcases hbad : mBad xd xc with _ | _
        · have HMf : Hid (Calls Tryz.prog 87 #[.slice (some ⟨b, off + p, none⟩) 64 64, .slice (some ⟨b, off + (p + 64), none⟩) 8 8] wr.drew fun e w' => ∃ A c, e = .returned (.tuple #[.slice A 64 c, .int .i64 (mCnt xd xc 8 : Nat), .bool true]) ∧ Below w.heap.size w w' ∧ w'.ownsRow wr.drew.heap.size 5 1 (.slice A 64 c) 64 (intsV .u8 (mBytes xd xc 8)) ∧ w'.ownsRow w.heap.size 5 1 (.slice Ao (64 * k) co) (64 * k) (intsV .u8 (rBytes l k))) :=
            HMa.out.mono fun e w' ⟨hb, _, h⟩ => by
              obtain ⟨A, c, rfl, ho⟩ := h hbad
              exact ⟨A, c, rfl, HBdr.out.trans (hb.mono HBdr.out.size), ho, own_below HOd.out hb⟩
          have HBad2 := Lib.hid hbad
          clear HMa HBdr HOd HBad hwn hbad
          obtain ⟨q, hq⟩ : ∃ q, q = 64 * k := ⟨_, rfl⟩
          have HQ := Lib.hid hq
          have hq5 : q ≤ 448 := by omega
          rw [← hq] at HMf HO
          rw [← hq]
          obtain ⟨cn, hcn⟩ : ∃ cn, cn = rCnt l k := ⟨_, rfl⟩
          have HCn := Lib.hid hcn
          rw [← hcn] at hrc
          rw [← hcn]
          obtain ⟨mn, hmn⟩ : ∃ mn, mn = mCnt xd xc 8 := ⟨_, rfl⟩
          have HMn := Lib.hid hmn
          rw [← hmn] at HMf hmc
          have hwc : IntKind.i64.wrap ((cn : Int) + mn) = ((cn + mn : Nat) : Int) := by rw [IntKind.wrap_i64]; omega
          clear hq hcn hmn
          go_wp2
          go_region_held_law (fun w' => True) (fail)
            (first | (go_at_call 87; refine HMf.out.mono ?_; rintro e w' ⟨A3, c3, rfl, hb3, ho3, ho4⟩))
          all_goals
            have HB3 := Lib.hid hb3
            have HO3 := Lib.hid ho4
            have HS3 := Lib.hid (Src.of_own ho3)
            have g1 : Hid (q + 64 ≤ maxLen) := by unfold Hid maxLen; omega
            have g2 : Hid ((q + 64) * 1 ≤ 140737488355328) := by unfold Hid; omega
            clear HMf hb3 ho3 ho4
            go_wp2_with (at_builtin; go_must (refine wpList_append_src _ rfl _ _ 22 rfl w.heap.size 5 i1 _ 1 1 Tryz.underlying22 ji jz0 jz1 jz2 rfl (by decide) _ q (intsV .u8 (rBytes l k)) rfl HO3.out A3 64 c3 _ rfl HS3.out (intsV_one .u8 _) g1.out g2.out HB3.out.size ?_))
            intro v6 w6 hown6 hgrow6 hat6
            obtain ⟨A6, c6, rfl, _, _⟩ := own_shape hown6
            have HB6 := Lib.hid (below_append HB3.out HO3.out hgrow6 HB3.out.size)
            rw [show intsV .u8 (rBytes l k) ++ intsV .u8 (mBytes xd xc 8) = intsV .u8 (rBytes l (k + 1)) by rw [HBy.out, intsV_append], show q + 64 = 64 * (k + 1) by have := HQ.out; omega] at hown6
            have HO6 := Lib.hid hown6
            rw [show q + 64 = 64 * (k + 1) by have := HQ.out; omega]
            have HOk2 : Hid (∀ j, j < k + 1 → mBad (cd l j) (cc l j) = false) := fun j hj => by
              rcases Nat.lt_or_ge j k with h1 | h1
              · exact HOk.out j h1
              · have e : j = k := by omega
                rw [e]; exact HBk.out.trans HBad2.out
            clear hown6 hgrow6 hat6 HO3 HS3 HB3 g1 g2 HO HB HOk HBad2
            go_wp2
            go_roundw
            case rel => exact ⟨A6, c6, k + 1, rfl, by omega, by rw [HCt.out, ← HCn.out, ← HMn.out]; go_num, by rw [show 73 * (k + 1) = p + 73 by have := HP.out; omega]; go_num, HOk2.out, HO6.out, HB6.out⟩
            case measure => simp [intOf]; omega
        · have hrb := HBad.out hbad
          have HRb := Lib.hid hrb
          have HMf : Hid (Calls Tryz.prog 87 #[.slice (some ⟨b, off + p, none⟩) 64 64, .slice (some ⟨b, off + (p + 64), none⟩) 8 8] wr.drew fun e w' => e = .returned (.tuple #[.slice none 0 0, .int .i64 0, .bool false]) ∧ Below w.heap.size w w') :=
            HMa.out.mono fun e w' ⟨hb, h, _⟩ => ⟨h hbad, HBdr.out.trans (hb.mono HBdr.out.size)⟩
          clear HMa HBdr HOd HBad hwn hbad hrb
          go_wp2
          go_region_held_law (fun w' => True) (fail)
            (first | (go_at_call 87; refine HMf.out.mono ?_; rintro e w' ⟨rfl, hb3⟩))
          all_goals
            have HB3 := Lib.hid hb3
            clear hb3 HMf
            go_wp2
            refine bodyPost_ret (v := .tuple #[.slice none 0 0, .int .i64 0, .int .i64 3]) (by simp [results, Tryz.results78, go_sem]) rfl ⟨HB3.out, fun h => absurd HS2.out h, fun _ _ => rfl, fun _ h => ?_⟩
            rw [HRb.out] at h; cases h
      · obtain rfl : k = c := by omega
        have hpn : ¬ ((73 * k : Nat) : Int) < m := by have := HM.out; omega
        have HOe := Lib.hid (own_take HO.out hn1 (by omega))
        rw [show (intsV .u8 (rBytes l k)).take n = intsV .u8 ((rBytes l k).take n) from (List.map_take ..).symm] at HOe
        have hnb := rBad_none l k HOk.out
        have HNb := Lib.hid hnb
        obtain ⟨cn, hcn⟩ : ∃ cn, cn = rCnt l k := ⟨_, rfl⟩
        have HCn := Lib.hid hcn
        rw [← hcn]
        have hcc : 64 * k ≤ co := by have := own_shape HO.out; obtain ⟨A', c', e, h1, h2⟩ := this; injection e with e1 e2 e3; omega
        clear hnb hcn
        go_wp2
        refine bodyPost_ret (v := .tuple #[.slice Ao n co, .int .i64 cn, .int .i64 2]) (by simp [results, Tryz.results78, go_sem]) rfl ⟨HB.out, fun h => absurd HS2.out h, fun _ h => ?_, fun _ _ => ⟨Ao, co, by rw [HCn.out], HOe.out⟩⟩
        rw [HNb.out] at h; cases h
end Go.Proofs.YthjomnaejhehoaaGreatDoor
