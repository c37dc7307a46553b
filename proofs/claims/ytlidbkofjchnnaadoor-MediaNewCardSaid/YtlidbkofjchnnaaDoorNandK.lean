/- nand: New. -/
import Derived.Test.YtlidbkofjchnnaaDoorNandJ
namespace Go.Proofs.YtlidbkofjchnnaaDoor
open Go.RowKit
set_option linter.unusedVariables false
set_option linter.unusedSimpArgs false

theorem block_info : (Tryd.prog.info? 89).map (fun i => (i.zero, i.size, i.bytes)) = some (some (.agg #[.slice none 0 0, .int .i64 0, .bool false, .bool false, .bool false]), 5, 40) := by kernel_rfl
theorem bytes_info : (Tryd.prog.info? 46).map (fun i => (i.zero, i.size, i.bytes)) = some (some (.slice none 0 0), 1, 24) := by kernel_rfl
def bk0 : Bk := ⟨fun _ => none, 0, false, false, false⟩
/-- A new flash. -/
def Fl.new (nb pages chunks : Nat) : Fl := ⟨false, 0, nb, pages, chunks, fun _ => bk0⟩
/-- What New has laid when i blocks have their pages. -/
structure NewIs (w wr : World) (F L : Nat) (nb pages chunks i : Nat) (P : Nat → Nat) : Prop where
  row : Row wr F 42 (fcells false 0 0 [.slice (some ⟨L, 0, none⟩) nb nb, .int .i64 pages, .int .i64 chunks, .int .i64 0, .int .i64 0, .int .i64 0])
  bl : ∃ cur, Row wr L 89 cur ∧ cur.size = nb * 5 ∧ ∀ j, j < nb → ∀ m v, ((.slice (if j < i then some ⟨P j, 0, none⟩ else none) (if j < i then pages else 0) (if j < i then pages else 0) :: [.int .i64 0, .bool false, .bool false, .bool false] : List Value))[m]? = some v → cur[j * 5 + m]? = some v
  pg : ∀ j, j < i → w.heap.size ≤ P j ∧ Row wr (P j) 46 (madeCells #[.slice none 0 0] pages)
  inj : ∀ j m, j < i → m < i → P j = P m → j = m
  below : Below w.heap.size w wr
theorem made_at (v : Value) (n j : Nat) (h : j < n) : (madeCells #[v] n)[j]? = some v := by
  simp [madeCells, h, Nat.mod_one]
theorem NewIs.done {w wr : World} {F L nb pages chunks : Nat} {P : Nat → Nat} (h : NewIs w wr F L nb pages chunks nb P) (hF : w.heap.size ≤ F) (hL : w.heap.size ≤ L) (h1 : 1 ≤ nb ∧ nb ≤ 1024) (h2 : 2 ≤ pages ∧ pages ≤ 256 ∧ pages % 2 = 0) (h3 : 1 ≤ chunks ∧ chunks ≤ 8) :
    FlIs wr w.heap.size F L P (Fl.new nb pages chunks) := by
  refine ⟨hF, hL, fun i hi => (h.pg i hi).1, ⟨0, 0, 0, 0, h.row⟩, ?_, ?_, h.inj, ⟨h1, h2, h3, by show 0 < _; omega, fun i _ => ⟨Nat.zero_le _, fun _ _ => rfl, fun j l hl => by cases hl⟩⟩⟩
  · obtain ⟨cur, hr, hs, hc⟩ := h.bl
    refine ⟨cur, hr, hs, fun i hi j v hv => hc i hi j v ?_⟩
    have hi' : i < nb := hi
    rw [if_pos hi', if_pos hi']
    exact hv
  · intro i hi
    refine ⟨_, (h.pg i hi).2, by simp [madeCells]; rfl, fun j hj => ⟨_, made_at _ _ _ hj, rfl⟩⟩
end Go.Proofs.YtlidbkofjchnnaaDoor
namespace Go.Proofs.YtlidbkofjchnnaaDoor
open Go.RowKit
set_option linter.unusedVariables false
set_option linter.unusedSimpArgs false

def five : List Value := [.slice none 0 0, .int .i64 0, .bool false, .bool false, .bool false]
theorem made_get (cs : Array Value) (n i : Nat) (hi : i < n) (hs : 0 < cs.size) : (madeCells cs n)[i]? = cs[i % cs.size]? := by
  have hm : i % cs.size < cs.size := Nat.mod_lt _ hs
  simp [madeCells, hi, Array.getElem?_eq_getElem hm]
  exact getElem!_pos cs _ hm
theorem made5 (n j m : Nat) (v : Value) (hj : j < n) (hm : five[m]? = some v) : (madeCells (.agg #[.slice none 0 0, .int .i64 0, .bool false, .bool false, .bool false] : Value).cells (n * 5))[j * 5 + m]? = some v := by
  have h5 : m < 5 := by have := (List.getElem?_eq_some_iff.1 hm).1; simpa [five] using this
  have hc : (.agg #[.slice none 0 0, .int .i64 0, .bool false, .bool false, .bool false] : Value).cells = five.toArray := rfl
  rw [hc, made_get _ _ _ (by omega) (by decide), show five.toArray.size = 5 from rfl, show (j * 5 + m) % 5 = m by omega, List.getElem?_toArray]
  exact hm
theorem NewIs.step {w wr : World} {F L nb pages chunks i : Nat} {P : Nat → Nat} (h : NewIs w wr F L nb pages chunks i P) (hi : i < nb) (hF : w.heap.size ≤ F) (hL : w.heap.size ≤ L) :
    NewIs w ((wr.drew.alloc (.cells (madeCells #[.slice none 0 0] pages) 46)).setCell ⟨L, i * 5, none⟩ (.slice (some ⟨wr.drew.heap.size, 0, none⟩) pages pages)) F L nb pages chunks (i + 1) (fun x => if x = i then wr.drew.heap.size else P x) := by
  obtain ⟨cur, hrL, hs, hc⟩ := h.bl
  have hFL : F ≠ L := h.row.ne_type hrL (by decide)
  have hPL : ∀ j, j < i → P j ≠ L := fun j hj => (h.pg j hj).2.ne_type hrL (by decide)
  have hnew : wr.drew.heap.size ≠ L := Nat.ne_of_gt hrL.lt
  have hPn : ∀ j, j < i → P j ≠ wr.drew.heap.size := fun j hj => Nat.ne_of_lt (h.pg j hj).2.lt
  refine ⟨?_, ⟨_, ((show Row wr.drew L _ cur from hrL).alloc _).put (i * 5) _, by rw [Array.size_setIfInBounds]; exact hs, fun j hj m v hv => ?_⟩, fun j hj => ?_, fun j m hj hm he => ?_, ?_⟩
  · exact ((show Row wr.drew F _ _ from h.row).alloc _).far hFL _
  · have hm5 : m < 5 := by have := (List.getElem?_eq_some_iff.1 hv).1; simpa using this
    rw [Array.getElem?_setIfInBounds]
    by_cases e : j = i
    · subst e
      by_cases em : m = 0
      · subst em
        rw [if_pos (by omega), if_pos (by omega)]
        simpa using hv
      · rw [if_neg (by omega)]
        refine hc j hj m v ?_
        obtain ⟨m', rfl⟩ : ∃ m', m = m' + 1 := ⟨m - 1, by omega⟩
        simpa using hv
    · rw [if_neg (by omega)]
      refine hc j hj m v ?_
      by_cases hji : j < i
      · rw [if_pos hji, if_pos hji]
        rw [if_pos (show j < i + 1 by omega), if_pos (show j < i + 1 by omega)] at hv
        simp only [if_neg e] at hv
        exact hv
      · rw [if_neg hji, if_neg hji]
        rw [if_neg (show ¬ j < i + 1 by omega), if_neg (show ¬ j < i + 1 by omega)] at hv
        exact hv
  · by_cases e : j = i
    · subst e
      simp only [if_true]
      exact ⟨h.below.size, (Row.fresh _ _ _).far hnew _⟩
    · simp only [if_neg e]
      have := h.pg j (by omega)
      exact ⟨this.1, ((show Row wr.drew _ _ _ from this.2).alloc _).far (hPL j (by omega)) _⟩
  · by_cases ej : j = i
    · by_cases em : m = i
      · omega
      · simp only [if_pos ej, if_neg em] at he
        exact absurd he.symm (hPn m (by omega))
    · by_cases em : m = i
      · simp only [if_neg ej, if_pos em] at he
        exact absurd he (hPn j (by omega))
      · simp only [if_neg ej, if_neg em] at he
        exact h.inj j m (by omega) (by omega) he
  · exact Turns.below (S := [L]) ((((Turns.refl wr [L]).drew).alloc _).setCell (by simp) _) h.below h.below.size (by simpa using hL)
set_option maxRecDepth 100000 in
set_option maxHeartbeats 4000000 in
theorem New_any (nb pages chunks : Nat) (h1 : 1 ≤ nb ∧ nb ≤ 1024) (h2 : 2 ≤ pages ∧ pages ≤ 256 ∧ pages % 2 = 0) (h3 : 1 ≤ chunks ∧ chunks ≤ 8) (w : World) :
    Calls Tryd.prog 15 #[.int .i64 nb, .int .i64 pages, .int .i64 chunks] w fun e w' => ∃ F L P, e = .returned (.tuple #[.pointer (some ⟨F, 0, none⟩), .int .i64 0]) ∧ FlIs w' w.heap.size F L P (Fl.new nb pages chunks) ∧ Below w.heap.size w w' := by
  obtain ⟨i1, ji, jz0, jz1, jz2⟩ := info_parts block_info
  obtain ⟨i2, ki, kz0, kz1, kz2⟩ := info_parts bytes_info
  have hb1 : Hid (i1.bytes * nb ≤ 281474976710656) := by unfold Hid; rw [jz2]; omega
  have hb2 : Hid (nb ≤ maxLen) := by unfold Hid maxLen; omega
  have hb3 : Hid (i2.bytes * pages ≤ 281474976710656) := by unfold Hid; rw [kz2]; omega
  have H2 := Lib.hid h2
  have hp2 : 2 ≤ pages ∧ pages ≤ 256 := ⟨h2.1, h2.2.1⟩
  have hrem : (pages : Int).tmod 2 = 0 := by rw [Int.tmod_eq_emod_of_nonneg (by omega)]; have := h2.2.2; omega
  have hrem2 : (pages : Int) % 2 = 0 := by have := h2.2.2; omega
  clear h2
  go_enter Tryd.func15, Tryd.ntmps15
  go_wp2_with ((with_reducible refine wpList_make_full _ (o := ⟨some 38, .makeSlice 40 (.tmp 37) (.tmp 37), _, _, _, _⟩) rfl (.tmp 37) (.tmp 37) 40 rfl w.heap.size 89 i1 _ 5 Tryd.underlying40 ji jz0 jz1 .i64 .i64 _ _ nb rfl rfl rfl rfl hb1.out hb2.out (Nat.le_refl _) ?_); intro w1 ho1 hg1)
  obtain ⟨_, cL, hrL, hsL, _, _, htL⟩ := own_row ho1
  have HL0 : Hid (Row w1 w.heap.size 89 cL) := hrL
  have HLs : Hid (cL.size = nb * 5) := hsL
  have HLc : Hid (∀ j, j < nb → ∀ m v, five[m]? = some v → cL[j * 5 + m]? = some v) := fun j hj m v hv => by
    have h := made5 nb j m v hj hv
    have h5 : m < 5 := by have := (List.getElem?_eq_some_iff.1 hv).1; simpa [five] using this
    have e : cL = madeCells (.agg #[.slice none 0 0, .int .i64 0, .bool false, .bool false, .bool false] : Value).cells (nb * 5) := by
      apply Array.ext'
      rw [← htL, List.take_of_length_le (by simp [hsL])]
    rw [e]; exact h
  have HBw : Hid (Below w.heap.size w w1) := (Below.refl _ _).grown hg1 (Nat.le_refl _) (by intro k hk; cases hk)
  have hlt1 : w.heap.size < w1.heap.size := hrL.lt
  obtain ⟨wB, hwB⟩ : ∃ wB, wB = w1.alloc (.cells #[.bool false, .int .i64 0, .int .i64 0, .slice (some ⟨w.heap.size, 0, none⟩) nb nb, .int .i64 pages, .int .i64 chunks, .int .i64 0, .int .i64 0, .int .i64 0] 42) := ⟨_, rfl⟩
  have HN0 : Hid (NewIs w wB w1.heap.size w.heap.size nb pages chunks 0 (fun _ => 0)) := by
    refine ⟨by rw [hwB]; exact Row.fresh _ _ _, ⟨cL, by rw [hwB]; exact hrL.alloc _, hsL, fun j hj m v hv => HLc.out j hj m v ?_⟩, fun j hj => by omega, fun j m hj => by omega, by rw [hwB]; exact HBw.out.alloc HBw.out.size _⟩
    rw [if_neg (by omega), if_neg (by omega)] at hv
    exact hv
  rw [← hwB]
  have hbsz : w.heap.size ≤ w1.heap.size := Nat.le_of_lt hlt1
  have HLt := Lib.hid hbsz
  generalize w1.heap.size = F at *
  clear hwB HLc HLs HL0 HBw hrL hsL htL ho1 hg1 hlt1 hbsz
  go_loopw [48] (fun iv wr => ∃ (i : Nat) (P : Nat → Nat), iv = .int .i64 i ∧ i ≤ nb ∧ NewIs w wr F w.heap.size nb pages chunks i P) (fun i _ => nb - (intOf i).toNat)
  case atStart => exact ⟨0, _, rfl, by omega, HN0.out⟩
  case round =>
    obtain ⟨i, P, rfl, hi, hN⟩ := hrel
    have HN := Lib.hid hN
    clear hN HN0
    by_cases hlt : i < nb
    · obtain ⟨cur, hrL, hs, hc⟩ := HN.out.bl
      have HrL := Lib.hid hrL
      have k1 : ∀ t : Kept wr [w.heap.size], t.u.cell? ⟨F, 3, none⟩ = some (.slice (some ⟨w.heap.size, 0, none⟩) nb nb) := fun t => by
        rw [(t.h.row HN.out.row (by simp; exact HN.out.row.ne_type hrL (by decide))).cell]; rfl
      have hii : (i : Int) < nb := by omega
      have HSt := Lib.hid (HN.out.step hlt HLt.out (Nat.le_refl _))
      obtain ⟨v1, q1⟩ := Row.some ((show Row wr.drew w.heap.size _ cur from hrL).alloc (.cells (madeCells #[.slice none 0 0] pages) 46)) (i := i * 5) (by omega)
      have q2 := Row.frozen ((show Row wr.drew w.heap.size _ cur from hrL).alloc (.cells (madeCells #[.slice none 0 0] pages) 46)) (i * 5)
      have hwi : IntKind.i64.wrap ((i : Int) + 1) = (i : Int) + 1 := by rw [IntKind.wrap_i64]; omega
      clear hrL hs hc
      go_wp2
      (refine region_kept ([w.heap.size]) [0, 1, 2, 3, 4, 5] [6, 7, 8, 9] (by kernel_rfl) (by kernel_rfl) (fun _ _ _ _ _ h => h) ?_; simp only [List.filterMap_cons, List.getElem?_cons_zero, List.getElem?_cons_succ, List.filterMap_nil]; (repeat ((show wpQuiet _ _ _ _ (_ :: _) _); go_big_quiet_step (fail))); refine wpQuiet_nil ?_)
      refine wpSeqS_step (wpList_make_row _ rfl (.tmp 56) (.tmp 56) 87 rfl 46 i2 _ Tryd.underlying87 ki kz0 kz1 rfl .i64 .i64 pages rfl rfl hb3.out (by omega) ?_)
      have HTz : Hid (Turns wr (wr.drew.alloc (.cells (madeCells #[.slice none 0 0] pages) 46)) [w.heap.size]) := ((Turns.refl _ _).drew).alloc _
      refine wpList_nil (outQ_normal HTz.out ?_)
      clear k1
      generalize wr.drew.alloc (.cells (madeCells #[.slice none 0 0] pages) 46) = wz at HSt HTz q1 q2 ⊢
      refine wpSeqS_step ?_
      go_wp2_with fail
      refine outQ_normal HTz.out ?_
      refine wpSeqS_step ?_
      go_wp2_with fail
      refine outQ_normal HTz.out ?_
      refine wpSeqS_last ?_
      go_wp2
      go_roundw
      case rel => exact ⟨i + 1, _, by go_num, by omega, HSt.out⟩
      case measure => simp [intOf]; omega
    · obtain rfl : i = nb := by omega
      have HD := Lib.hid (HN.out.done HLt.out (Nat.le_refl _) h1 H2.out h3)
      go_wp2
      refine bodyPost_ret (v := .tuple #[.pointer (some ⟨F, 0, none⟩), .int .i64 0]) (by simp [results, Tryd.results15, go_sem]) rfl ⟨F, _, P, rfl, HD.out, HN.out.below⟩
end Go.Proofs.YtlidbkofjchnnaaDoor
