/- page: right, Mark, State. -/
import Derived.Test.YtlidbkofjchnnaaDoorEccG
import Derived.Test.YtlidbkofjchnnaaDoorCopy
import Derived.Deep.OwnRows
namespace Go.Proofs.YtlidbkofjchnnaaDoor
open Go.RowKit
set_option linter.unusedVariables false
set_option linter.unusedSimpArgs false

theorem Mark_any (x : Nat) (hx : x < 256) (w : World) : Calls Tryd.prog 51 #[.int .u8 x] w fun e w' => e = .returned (.bool (decide (pop8 x ≤ 4))) ∧ w = w' := by
  have HP := Lib.hid (pop_any x hx w)
  have hb : decide ((pop8 x : Int) ≤ 4) = decide (pop8 x ≤ 4) := decide_eq_decide.2 (by omega)
  generalize pop8 x = p at *
  go_enter Tryd.func51, Tryd.ntmps51
  go_wp2_with fail
  refine HP.out.mono ?_
  rintro e w' ⟨rfl, rfl⟩
  clear HP
  go_wp2
  go_ret
  exact ⟨by rw [← hb]; rfl, rfl⟩
theorem right_any (A : Option Addr) (cp n : Nat) (hn : n = 73 ∨ n = 146 ∨ n = 219 ∨ n = 292 ∨ n = 365 ∨ n = 438 ∨ n = 511 ∨ n = 584) (w : World) : Calls Tryd.prog 50 #[.slice A n cp] w fun e w' => e = .returned (.bool true) ∧ w = w' := by
  rcases hn with rfl | rfl | rfl | rfl | rfl | rfl | rfl | rfl
  all_goals
    go_enter Tryd.func50, Tryd.ntmps50
    go_wp2
    go_ret
    exact ⟨rfl, rfl⟩
/-- How many marks say written, of the first k chunks. -/
def marks (l : List Nat) : Nat → Nat
  | 0 => 0
  | k + 1 => marks l k + (if pop8 (l.getD (72 + 73 * k) 0) ≤ 4 then 1 else 0)
theorem marks_le (l : List Nat) (k : Nat) : marks l k ≤ k := by
  induction k with
  | zero => simp [marks]
  | succ k ih => unfold marks; split <;> omega
/-- A page's state, of c chunks. -/
def stateOf (l : List Nat) (c : Nat) : Nat := if marks l c = 0 then 0 else if marks l c = c then 2 else 1
set_option maxHeartbeats 2000000 in
theorem State_any (b off cp c : Nat) (l : List Nat) (hl : l.length = 73 * c) (h1 : 1 ≤ c) (h8 : c ≤ 8) (h256 : ∀ u ∈ l, u < 256) (w : World) (hc : Cells8 w (some ⟨b, off, none⟩) l) :
    Calls Tryd.prog 32 #[.slice (some ⟨b, off, none⟩) (73 * c) cp] w fun e w' => e = .returned (.int .i64 (stateOf l c : Nat)) ∧ w = w' := by
  have HR := Lib.hid (right_any (some ⟨b, off, none⟩) cp (73 * c) (by omega) w)
  have HC := Lib.hid hc
  have HL := Lib.hid hl
  have H256 := Lib.hid h256
  obtain ⟨n, hn⟩ : ∃ n, n = 73 * c := ⟨_, rfl⟩
  have HN := Lib.hid hn
  rw [← hn] at HR ⊢
  have hq : IntKind.i64.wrap (Int.tdiv (n : Int) 73) = (c : Int) := by
    rw [hn, IntKind.wrap_i64]; rcases (show c = 1 ∨ c = 2 ∨ c = 3 ∨ c = 4 ∨ c = 5 ∨ c = 6 ∨ c = 7 ∨ c = 8 by omega) with rfl | rfl | rfl | rfl | rfl | rfl | rfl | rfl <;> decide
  clear hc hl h256
  have hnb : 73 ≤ n ∧ n ≤ 584 := by omega
  clear hn
  go_enter Tryd.func32, Tryd.ntmps32
  go_wp2_with fail
  refine HR.out.mono ?_
  rintro e w' ⟨rfl, rfl⟩
  clear HR
  go_wp2
  go_loop [3, 4] (fun m i => ∃ k : Nat, k ≤ c ∧ m = .int .i64 (marks l k : Nat) ∧ i = .int .i64 (72 + 73 * k : Nat)) (fun _ i => 700 - (intOf i).toNat)
  case atStart => exact ⟨0, by omega, rfl, rfl⟩
  case round =>
    obtain ⟨k, hk, rfl, rfl⟩ := hrel
    obtain ⟨p, hp⟩ : ∃ p, p = 72 + 73 * k := ⟨_, rfl⟩
    have HP := Lib.hid hp
    have hm := marks_le l k
    by_cases hlt : k < c
    · have hpn : p < n := by have := HN.out; omega
      have hpi : (p : Int) < n := by omega
      have hcell := HC.out.at0 p (by rw [HL.out, ← HN.out]; exact hpn)
      have hx : l.getD p 0 < 256 := getD_lt H256.out p
      have HS : Hid (marks l (k + 1) = marks l k + (if pop8 (l.getD p 0) ≤ 4 then 1 else 0)) := by unfold Hid; rw [hp]; rfl
      have hw : IntKind.i64.wrap ((p : Int) + 73) = ((p + 73 : Nat) : Int) := by rw [IntKind.wrap_i64]; omega
      rw [← hp]
      have HMk := Lib.hid (Mark_any (l.getD p 0) hx w)
      generalize l.getD p 0 = x at *
      generalize marks l k = m at *
      have hwm : IntKind.i64.wrap ((m : Int) + 1) = ((m + 1 : Nat) : Int) := by rw [IntKind.wrap_i64]; omega
      clear hp
      go_wp2_with fail
      refine HMk.out.mono ?_
      rintro e w' ⟨rfl, rfl⟩
      clear HMk
      by_cases h4 : pop8 x ≤ 4
      · rw [if_pos h4] at HS
        rw [decide_eq_true h4]
        go_wp2
        go_round
        case rel => exact ⟨k + 1, by omega, by rw [HS.out]; go_num, by rw [show 72 + 73 * (k + 1) = p + 73 by have := HP.out; omega]; go_num⟩
        case measure => simp [intOf]; omega
      · rw [if_neg h4] at HS
        rw [decide_eq_false h4]
        go_wp2
        go_round
        case rel => exact ⟨k + 1, by omega, by rw [HS.out]; rfl, by rw [show 72 + 73 * (k + 1) = p + 73 by have := HP.out; omega]; go_num⟩
        case measure => simp [intOf]; omega
    · obtain rfl : k = c := by omega
      have hpn : ¬ (p : Int) < n := by have := HN.out; omega
      rw [← hp]
      have HS : Hid (stateOf l k = if marks l k = 0 then 0 else if marks l k = k then 2 else 1) := rfl
      obtain ⟨m, hmm⟩ : ∃ m, m = marks l k := ⟨_, rfl⟩
      rw [← hmm] at HS ⊢
      clear hm
      have HMm := Lib.hid hmm
      clear hmm
      clear hp
      by_cases h0 : m = 0
      · subst h0
        have HS' := HS.out
        rw [if_pos rfl] at HS'
        clear HS
        go_wp2
        go_ret
        exact ⟨rfl, rfl⟩
      · have h0i : ¬ (m : Int) = 0 := by omega
        have HS' := HS.out
        rw [if_neg h0] at HS'
        by_cases hk2 : m = k
        · subst hk2
          rw [if_pos rfl] at HS'
          have hqm : (m : Int) = (n : Int) / 73 := by have := HN.out; omega
          clear HS
          go_wp2
          go_ret
          exact ⟨rfl, rfl⟩
        · have hki : ¬ (m : Int) = k := by omega
          rw [if_neg hk2] at HS'
          have hqm : ¬ (m : Int) = (n : Int) / 73 := by have := HN.out; omega
          clear HS
          go_wp2
          go_ret
          exact ⟨rfl, rfl⟩
end Go.Proofs.YtlidbkofjchnnaaDoor
namespace Go.Proofs.YtlidbkofjchnnaaDoor
open Go.RowKit
set_option linter.unusedVariables false
set_option linter.unusedSimpArgs false

theorem u8_size1 : (Tryd.prog.info? 5).map (·.size) = some 1 := by kernel_rfl
theorem Cells8.take {w : World} {A : Option Addr} {l : List Nat} (h : Cells8 w A l) (k : Nat) : Cells8 w A (l.take k) := fun i hi => by
  rw [List.length_take] at hi
  obtain ⟨b, o, e, h⟩ := h i (by omega)
  refine ⟨b, o, e, ?_⟩
  rw [h]
  congr 3
  rw [List.getD_eq_getElem?_getD, List.getD_eq_getElem?_getD, List.getElem?_take, if_pos (by omega)]
theorem Cells8.of_row {w : World} {b : Nat} {t : TypeId} {l : List Nat} (h : Row w b t (intsV .u8 l).toArray) : Cells8 w (some ⟨b, 0, none⟩) l := fun i hi => ⟨b, 0, rfl, by
  rw [Nat.zero_add, h.cell i, List.getElem?_toArray]
  simp [intsV, List.getD_eq_getElem?_getD, List.getElem?_eq_getElem hi]⟩
theorem mem_take {l : List Nat} {k : Nat} (h : ∀ u ∈ l, u < 256) : ∀ u ∈ l.take k, u < 256 := fun u hu => h u (List.mem_of_mem_take hu)
/-- The data of a page of c chunks, filled up with 0. -/
def pad (d : List Nat) (c : Nat) : List Nat := d ++ List.replicate (64 * c - d.length) 0
theorem pad_length (d : List Nat) (c : Nat) (h : d.length ≤ 64 * c) : (pad d c).length = 64 * c := by unfold pad; rw [List.length_append, List.length_replicate]; omega
theorem pad_lt {d : List Nat} (h : ∀ u ∈ d, u < 256) (c : Nat) : ∀ u ∈ pad d c, u < 256 := by
  intro u hu
  unfold pad at hu
  rw [List.mem_append] at hu
  rcases hu with h1 | h1
  · exact h u h1
  · rw [List.mem_replicate] at h1; omega
theorem made_zero (n : Nat) : madeCells #[Value.int .u8 0] n = (intsV .u8 (List.replicate n 0)).toArray := by
  apply Array.ext'
  simp only [madeCells, intsV, List.map_replicate]
  apply List.ext_getElem
  · simp
  · intro i h1 h2
    simp [Nat.mod_one]
theorem splice_pad (d : List Nat) (c : Nat) (h : d.length ≤ 64 * c) : splice (intsV .u8 (List.replicate (64 * c) 0)) 0 ((intsV .u8 d).take (64 * c)) = intsV .u8 (pad d c) := by
  have hl : (intsV .u8 d).length = d.length := by simp [intsV]
  rw [List.take_of_length_le (by omega)]
  unfold splice pad
  rw [List.take_zero, List.nil_append, Nat.zero_add, hl, intsV_append]
  congr 1
  simp [intsV]
/-- The k-th chunk's bytes. -/
def blk (l : List Nat) (k : Nat) : List Nat := (l.drop (64 * k)).take 64
theorem blk_length (l : List Nat) (k c : Nat) (h : l.length = 64 * c) (hk : k < c) : (blk l k).length = 64 := by unfold blk; rw [List.length_take, List.length_drop, h]; omega
/-- The first k chunks, laid. -/
def lay (l : List Nat) : Nat → List Nat
  | 0 => []
  | k + 1 => lay l k ++ blk l k ++ chks (blk l k) 8 ++ [0]
theorem lay_length (l : List Nat) (c : Nat) (h : l.length = 64 * c) : ∀ k, k ≤ c → (lay l k).length = 73 * k
  | 0, _ => rfl
  | k + 1, hk => by
    unfold lay
    simp only [List.length_append, lay_length l c h k (by omega), blk_length l k c h (by omega), chks_length]
    simp; omega
theorem lay_lt {l : List Nat} (h : ∀ u ∈ l, u < 256) : ∀ k, ∀ u ∈ lay l k, u < 256
  | 0 => by simp [lay]
  | k + 1 => by
    intro u hu
    unfold lay at hu
    simp only [List.mem_append] at hu
    rcases hu with ((h1 | h1) | h1) | h1
    · exact lay_lt h k u h1
    · exact mem_take (mem_drop h) u h1
    · exact chks_lt _ _ u h1
    · simp at h1; omega
/-- A page's bytes. -/
def laid (d : List Nat) (c : Nat) : List Nat := lay (pad d c) c
set_option maxRecDepth 100000 in
set_option maxHeartbeats 4000000 in
theorem Lay_any (A : Option Addr) (c cp : Nat) (d : List Nat) (h1 : 1 ≤ c) (h8 : c ≤ 8) (hd : d.length ≤ 64 * c) (h256 : ∀ u ∈ d, u < 256) (w : World) (hc : Cells8 w A d) (hT : Tab w) :
    Calls Tryd.prog 29 #[.slice A d.length cp, .int .i64 c] w fun e w' => ∃ Ao co, e = .returned (.tuple #[.slice Ao (73 * c) co, .int .i64 0]) ∧ w'.ownsRow w.heap.size 5 1 (.slice Ao (73 * c) co) (73 * c) (intsV .u8 (laid d c)) ∧ Below w.heap.size w w' := by
  obtain ⟨i1, ji, jz0, jz1, jz2⟩ := info_parts u8_info
  have hbk : i1.bytes * (64 * c) ≤ 281474976710656 := by rw [jz2]; omega
  have HBk := Lib.hid hbk
  clear hbk
  have HT := Lib.hid hT
  have HSd : Hid (Src (w.alloc (.cells (madeCells #[.int .u8 0] (64 * c)) 5)) 1 A d.length (intsV .u8 d)) := (Src.bytes hc).keep (fun a v h => (World.cell?_alloc_lt _ _ _ (World.block_lt_of_cell? w a h)).trans h)
  have HR : Hid (Row (w.alloc (.cells (madeCells #[.int .u8 0] (64 * c)) 5)) w.heap.size 5 (intsV .u8 (List.replicate (64 * c) 0)).toArray) := by unfold Hid; rw [← made_zero]; exact Row.fresh _ _ _
  have HB0 : Hid (Below w.heap.size w (w.alloc (.cells (madeCells #[.int .u8 0] (64 * c)) 5))) := (Below.refl _ _).alloc (Nat.le_refl _) _
  have H256 := Lib.hid (pad_lt h256 c)
  have HPl := Lib.hid (pad_length d c hd)
  have HSp := Lib.hid (splice_pad d c hd)
  have HD : Hid (laid d c = lay (pad d c) c) := rfl
  have HLl := Lib.hid (fun k hk => lay_length (pad d c) c (pad_length d c hd) k hk)
  obtain ⟨n, hn⟩ : ∃ n, n = 64 * c := ⟨_, rfl⟩
  obtain ⟨m, hm⟩ : ∃ m, m = d.length := ⟨_, rfl⟩
  have HN := Lib.hid hn
  have HM := Lib.hid hm
  rw [← hn] at HBk HSd HR HB0 HSp
  rw [← hm] at HSd ⊢
  have hg1 : ¬ (n : Int) < m := by omega
  have hw1 : IntKind.i64.wrap (64 * (c : Int)) = (n : Int) := by rw [IntKind.wrap_i64]; omega
  have hmn : m ≤ n := by omega
  have hn5 : 64 ≤ n ∧ n ≤ 512 := by omega
  generalize laid d c = ll at *
  clear hc hT hn hm h256 hd
  go_enter Tryd.func29, Tryd.ntmps29
  go_wp2_with (first | (with_reducible refine wpList_make_row _ (o := ⟨some 25, .makeSlice 46 (.tmp 24) (.tmp 24), _, _, _, _⟩) rfl (.tmp 24) (.tmp 24) 46 rfl 5 i1 _ Tryd.underlying46 ji jz0 jz1 rfl .i64 .i64 n rfl rfl HBk.out (by omega) ?_) | (with_reducible refine wpList_copy_grown (o := ⟨some 28, _, _, _, _, _⟩) rfl (.tmp 26) (.tmp 27) 46 46 rfl 5 Tryd.underlying46 u8_size1 _ n n m _ w.heap.size 0 rfl rfl _ 5 HR.out _ HSd.out (intsV_one .u8 d) ?c2 ?_))
  case c2 => simp [intsV]; omega
  intro w1 hr1 hg1
  have HR1 : Hid (Row w1 w.heap.size 5 (intsV .u8 (pad d c)).toArray) := by
    unfold Hid
    have := hr1.out
    rw [HSp.out] at this
    exact this
  have HB1 : Hid (Below w.heap.size w w1) := below_grown HB0.out hg1.out HB0.out.size (Nat.le_refl _)
  have HT1 := Lib.hid (HT.out.keep (keep_below HB1.out))
  have HC1 : Hid (Cells8 w1 (some ⟨w.heap.size, 0, none⟩) (pad d c)) := Cells8.of_row HR1.out
  generalize pad d c = lp at *
  clear hr1 hg1 HR HB0 HSd HBk HSp HT HR1 hw1
  have hwlt : w.heap.size ≤ w1.heap.size := HB1.out.size
  go_wp2
  go_loopw [7, 8] (fun ov i wr => ∃ (Ao : Option Addr) (co k : Nat), ov = .slice Ao (73 * k) co ∧ k ≤ c ∧ i = .int .i64 (64 * k : Nat) ∧ wr.ownsRow w1.heap.size 5 1 (.slice Ao (73 * k) co) (73 * k) (intsV .u8 (lay lp k)) ∧ Below w1.heap.size w1 wr) (fun _ i _ => 600 - (intOf i).toNat)
  case atStart => exact ⟨none, 0, 0, rfl, by omega, rfl, World.ownsRow_nil _ _ _ _, Below.refl _ _⟩
  case round =>
    obtain ⟨Ao, co, k, rfl, hk, rfl, ho, hb⟩ := hrel
    have HO := Lib.hid ho
    have HB := Lib.hid hb
    clear ho hb
    by_cases hlt : k < c
    · have HS : Hid (lay lp (k + 1) = lay lp k ++ blk lp k ++ chks (blk lp k) 8 ++ [0]) := rfl
      have HCf : Hid (∀ wx, Below w1.heap.size w1 wx → Cells8 wx (some ⟨w.heap.size, 64 * k, none⟩) (blk lp k)) := fun wx hx => by
        have := ((HC1.out.keep (keep_below hx)).drop (64 * k)).take 64
        rwa [Nat.zero_add] at this
      have HTf : Hid (∀ wx, Below w1.heap.size w1 wx → Tab wx) := fun wx hx => HT1.out.keep (keep_below hx)
      have HBl := Lib.hid (blk_length lp k c HPl.out hlt)
      have HBlt : Hid (∀ u ∈ blk lp k, u < 256) := mem_take (mem_drop H256.out)
      generalize blk lp k = bl at *
      obtain ⟨p, hp⟩ : ∃ p, p = 64 * k := ⟨_, rfl⟩
      obtain ⟨q, hq⟩ : ∃ q, q = 73 * k := ⟨_, rfl⟩
      have HP := Lib.hid hp
      have HQ := Lib.hid hq
      have hpn : p + 64 ≤ n := by have := HN.out; omega
      have hpi : (p : Int) < n := by omega
      rw [← hq] at HO
      rw [← hp] at HCf
      rw [← hq, ← hp]
      have hw64 : IntKind.i64.wrap ((p : Int) + 64) = (p : Int) + 64 := by rw [IntKind.wrap_i64]; omega
      have hqb : q ≤ 511 := by omega
      have HSr : Hid (Src wr 1 (some ⟨w.heap.size, p, none⟩) 64 (intsV .u8 bl)) := by
        have := Src.bytes (HCf.out wr HB.out)
        rw [HBl.out] at this
        exact this
      have g1 : Hid (q + 64 ≤ maxLen) := by unfold Hid maxLen; omega
      have g2 : Hid ((q + 64) * 1 ≤ 140737488355328) := by unfold Hid; omega
      clear hp hq
      go_wp2_with (at_builtin; rw [show p + 64 - p = 64 from Nat.add_sub_cancel_left p 64]; go_must (refine wpList_append_src _ rfl _ _ 46 rfl w1.heap.size 5 i1 _ 1 1 Tryd.underlying46 ji jz0 jz1 jz2 rfl (by decide) _ q (intsV .u8 (lay lp k)) rfl HO.out (some ⟨w.heap.size, p, none⟩) 64 64 _ rfl HSr.out (intsV_one .u8 _) g1.out g2.out HB.out.size ?_))
      intro v2 w2 hown2 hgrow2 hat2
      obtain ⟨A2, c2, rfl, _, _⟩ := own_shape hown2
      have HB2 := Lib.hid (below_append HB.out HO.out hgrow2 HB.out.size)
      rw [← intsV_append] at hown2
      have HO2 := Lib.hid hown2
      have HW := Lib.hid (Words_any w.heap.size p 64 bl HBl.out (by omega) HBlt.out w2 (HCf.out w2 HB2.out) (HTf.out w2 HB2.out))
      clear hown2 hgrow2 hat2 HSr HO HB g1 g2
      go_wp2_with fail
      refine HW.out.mono ?_
      rintro e w3 ⟨A3, c3, rfl, hown3, hb3⟩
      have HB3 : Hid (Below w1.heap.size w1 w3) := HB2.out.trans (hb3.mono HB2.out.size)
      have HO3 := Lib.hid (own_below HO2.out hb3)
      have HS3 := Lib.hid (Src.of_own hown3)
      have g1 : Hid (q + 64 + 8 ≤ maxLen) := by unfold Hid maxLen; omega
      have g2 : Hid ((q + 64 + 8) * 1 ≤ 140737488355328) := by unfold Hid; omega
      clear HW hown3 hb3 HB2 HO2
      go_wp2_with (at_builtin; go_must (refine wpList_append_src _ rfl _ _ 46 rfl w1.heap.size 5 i1 _ 1 1 Tryd.underlying46 ji jz0 jz1 jz2 rfl (by decide) _ (q + 64) (intsV .u8 (lay lp k ++ bl)) rfl HO3.out A3 8 c3 _ rfl HS3.out (intsV_one .u8 _) g1.out g2.out HB3.out.size ?_))
      intro v4 w4 hown4 hgrow4 hat4
      obtain ⟨A4, c4, rfl, _, _⟩ := own_shape hown4
      have HB4 := Lib.hid (below_append HB3.out HO3.out hgrow4 HB3.out.size)
      rw [← intsV_append] at hown4
      have HO5 := Lib.hid (own_below hown4 ((Below.refl w4.heap.size w4).alloc (Nat.le_refl _) (.cells #[.int .u8 0] 5)))
      have HS5 : Hid (Src (w4.alloc (.cells #[.int .u8 0] 5)) 1 (some ⟨w4.heap.size, 0, none⟩) 1 [.int .u8 0]) := src_one
      have HB5 : Hid (Below w1.heap.size w1 (w4.alloc (.cells #[.int .u8 0] 5))) := HB4.out.alloc HB4.out.size _
      have g1' : Hid (q + 64 + 8 + 1 ≤ maxLen) := by unfold Hid maxLen; omega
      have g2' : Hid ((q + 64 + 8 + 1) * 1 ≤ 140737488355328) := by unfold Hid; omega
      have H1 : Hid (∀ u ∈ [Value.int .u8 0], u.oneCell' = true) := by unfold Hid; simp [Value.oneCell']
      clear hown4 hgrow4 hat4 HO3 HS3 HB3 HB4 g1 g2
      go_wp2_with (at_builtin; go_must (refine wpList_append_src _ rfl _ _ 46 rfl w1.heap.size 5 i1 _ 1 1 Tryd.underlying46 ji jz0 jz1 jz2 rfl (by decide) _ (q + 64 + 8) (intsV .u8 (lay lp k ++ bl ++ chks bl 8)) rfl HO5.out (some ⟨w4.heap.size, 0, none⟩) 1 1 _ rfl HS5.out H1.out g1'.out g2'.out HB5.out.size ?_))
      intro v6 w6 hown6 hgrow6 hat6
      obtain ⟨A6, c6, rfl, _, _⟩ := own_shape hown6
      have HB6 := Lib.hid (below_append HB5.out HO5.out hgrow6 HB5.out.size)
      rw [show intsV .u8 (lay lp k ++ (bl ++ chks bl 8)) ++ [Value.int .u8 0] = intsV .u8 (lay lp (k + 1)) by rw [HS.out]; simp [intsV], show q + 64 + 8 + 1 = 73 * (k + 1) by have := HQ.out; omega] at hown6
      have HO6 := Lib.hid hown6
      rw [show q + 64 + 8 + 1 = 73 * (k + 1) by have := HQ.out; omega]
      clear hown6 hgrow6 hat6 HO5 HS5 HB5 g1' g2' H1
      go_wp2
      go_roundw
      case rel => exact ⟨A6, c6, k + 1, rfl, by omega, by rw [show 64 * (k + 1) = p + 64 by have := HP.out; omega]; go_num, HO6.out, HB6.out⟩
      case measure => simp [intOf]; omega
    · obtain rfl : k = c := by omega
      have hpn : ¬ ((64 * k : Nat) : Int) < n := by have := HN.out; omega
      have HOe : Hid (wr.ownsRow w.heap.size 5 1 (.slice Ao (73 * k) co) (73 * k) (intsV .u8 ll)) := by unfold Hid; rw [HD.out]; exact own_mono HO.out hwlt
      have HBe : Hid (Below w.heap.size w wr) := HB1.out.trans (HB.out.mono hwlt)
      go_wp2
      refine bodyPost_ret (v := .tuple #[.slice Ao (73 * k) co, .int .i64 0]) (by simp [results, Tryd.results29, go_sem]) rfl ⟨Ao, co, rfl, HOe.out, HBe.out⟩
end Go.Proofs.YtlidbkofjchnnaaDoor
