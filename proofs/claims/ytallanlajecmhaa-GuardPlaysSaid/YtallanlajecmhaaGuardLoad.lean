/- guard.Load, locketref14.Load. -/
import Derived.Test.YtallanlajecmhaaRefGuard3
import Derived.Test.YtallanlajecmhaaCopy
namespace Go.Proofs.Ytallanlajecmhaa
open Go.RowKit
set_option linter.unusedVariables false
set_option linter.unusedSimpArgs false

/-- A byte that is no kind. -/
def badB (x : Nat) : Bool := decide (x ≠ 0 ∧ x ≠ 1 ∧ x ≠ 3)
theorem u8_size1 : (Try.prog.info? 5).map (·.size) = some 1 := by kernel_rfl
theorem Load1_any (x : Nat) (w : World) : Calls Try.prog 28 #[.int .u8 x] w fun e w' => e = .returned (.bool (badB x)) ∧ w = w' := by
  have key : x = 0 ∨ (x ≠ 0 ∧ x = 1) ∨ (x ≠ 0 ∧ x ≠ 1 ∧ x = 3) ∨ (x ≠ 0 ∧ x ≠ 1 ∧ x ≠ 3) := by omega
  rcases key with rfl | ⟨h1, rfl⟩ | ⟨h1, h2, rfl⟩ | ⟨h1, h2, h3⟩
  all_goals
    go_enter Try.func28, Try.ntmps28
    go_wp2
    go_ret
    try simp_all [badB]
    try omega
theorem any_take (l : List Nat) (k : Nat) (h : k < l.length) : (l.take (k + 1)).any badB = ((l.take k).any badB || badB (l.getD k 0)) := by
  rw [take_getD l k h]; simp
set_option maxHeartbeats 400000 in
theorem IndexFunc_any (a : Option Addr) (l : List Nat) (c : Nat) (hl : l.length ≤ 1000) (w : World) (hc : Cells8 w a l) :
    Calls Try.prog 35 #[.slice a l.length c, .func (.func 28) #[] #[]] w fun e w' => (∃ i : Int, e = .returned (.int .i64 i) ∧ decide (0 ≤ i) = l.any badB) ∧ w = w' := by
  have HC := Lib.hid hc
  clear hc
  go_enter Try.func35, Try.ntmps35
  go_wp2
  go_loop [8] (fun i => ∃ k : Nat, k ≤ l.length ∧ i = .int .i64 k ∧ (l.take k).any badB = false) (fun i => l.length - (intOf i).toNat)
  case atStart => exact ⟨0, by omega, rfl, by simp⟩
  case round =>
    obtain ⟨k, hk, rfl, hb⟩ := hrel
    by_cases hkl : k < l.length
    · obtain ⟨b, off, rfl⟩ := HC.out.addr (by intro e; simp [e] at hkl)
      have hcc := HC.out.at0 k hkl
      have HT := Lib.hid (any_take l k hkl)
      rw [hb] at HT
      have HM : Hid (badB (l.getD k 0) = true → l.any badB = true) := fun h => List.any_eq_true.2 ⟨_, getD_mem _ _ hkl, h⟩
      have HL1 := Lib.hid (Load1_any (l.getD k 0) w)
      clear HC hb
      cases hx : badB (l.getD k 0) with
      | true =>
        rw [hx] at HL1
        have HM2 := Lib.hid (HM.out hx)
        clear HM HT hx
        generalize l.getD k 0 = x at *
        go_wp2_with fail
        refine HL1.out.mono ?_
        rintro e w' ⟨rfl, rfl⟩
        go_wp2
        go_ret
        exact ⟨⟨k, rfl, by rw [HM2.out]; simp⟩, rfl⟩
      | false =>
        rw [hx] at HL1 HT
        clear HM hx
        generalize l.getD k 0 = x at *
        go_wp2_with fail
        refine HL1.out.mono ?_
        rintro e w' ⟨rfl, rfl⟩
        go_wp2
        go_round
        case rel => exact ⟨k + 1, by omega, by go_num, by rw [HT.out]; rfl⟩
        case measure => simp [intOf]; omega
    · obtain rfl : k = l.length := by omega
      rw [List.take_length] at hb
      have HB := Lib.hid hb
      clear hb HC
      go_wp2
      go_ret
      exact ⟨⟨-1, rfl, by rw [HB.out]; rfl⟩, rfl⟩
theorem ContainsFunc_any (a : Option Addr) (l : List Nat) (c : Nat) (hl : l.length ≤ 1000) (w : World) (hc : Cells8 w a l) :
    Calls Try.prog 27 #[.slice a l.length c, .func (.func 28) #[] #[]] w fun e w' => e = .returned (.bool (l.any badB)) ∧ w = w' := by
  have HI := Lib.hid (IndexFunc_any a l c hl w hc)
  clear hc
  generalize l.any badB = β at *
  generalize l.length = n at *
  go_enter Try.func27, Try.ntmps27
  go_wp2_with fail
  refine HI.out.mono ?_
  rintro e w' ⟨⟨i, rfl, hi⟩, rfl⟩
  have HI2 := Lib.hid hi
  clear hi HI
  go_wp2
  go_ret
  exact ⟨by rw [← HI2.out]; rfl, rfl⟩

theorem Load_no1 (gs : Int) (hg : gs < 1 ∨ 256 < gs) (a : Option Addr) (m c : Nat) (w : World) :
    Calls Try.prog 20 #[.int .i64 gs, .slice a m c] w fun e w' => e = .returned (.tuple #[.pointer none, .int .i64 1]) ∧ w = w' := by
  have HN := Lib.hid (New_no gs hg w)
  clear hg
  go_enter Try.func20, Try.ntmps20
  go_wp2_with fail
  refine HN.out.mono ?_
  rintro e w' ⟨rfl, rfl⟩
  clear HN
  go_wp2
  refine bodyPost_ret (v := .tuple #[.pointer none, .int .i64 1]) (by simp [results, Try.results20, go_sem]) rfl ⟨rfl, rfl⟩
set_option maxHeartbeats 400000 in
theorem Load_no2 (gs : Nat) (h1 : 1 ≤ gs) (h2 : gs ≤ 256) (a : Option Addr) (l : List Nat) (c : Nat) (hl : l.length ≤ 1000) (w : World) (hc : Cells8 w a l) (hbad : l.length ≠ gs ∨ l.any badB = true) :
    Calls Try.prog 20 #[.int .i64 gs, .slice a l.length c] w fun e w' => e = .returned (.tuple #[.pointer none, .int .i64 24]) ∧ Below w.heap.size w w' := by
  have HN := Lib.hid (New_yes gs h1 h2 w)
  have HF : Hid (∀ w', Below w.heap.size w w' → Calls Try.prog 27 #[.slice a l.length c, .func (.func 28) #[] #[]] w' fun e w'' => e = .returned (.bool (l.any badB)) ∧ w' = w'') := fun w' hb => ContainsFunc_any a l c hl w' (hc.keep (keep_below hb))
  clear hc
  generalize l.any badB = β at *
  generalize l.length = m at *
  by_cases hm : m = gs
  · subst hm
    have hβ : β = true := by rcases hbad with h | h; exact absurd rfl h; exact h
    subst hβ
    clear hbad
    go_enter Try.func20, Try.ntmps20
    go_wp2_with fail
    refine HN.out.mono ?_
    rintro e w1 ⟨G, L, c1, rfl, hh, hb⟩
    have HB := Lib.hid hb
    have HC := Lib.hid (HF.out w1 hb)
    clear HN HF hh hb
    go_wp2_with fail
    refine HC.out.mono ?_
    rintro e w' ⟨rfl, rfl⟩
    go_wp2
    refine bodyPost_ret (v := .tuple #[.pointer none, .int .i64 24]) (by simp [results, Try.results20, go_sem]) rfl ⟨rfl, HB.out⟩
  · have hm1 : ¬ ((m : Int) = (gs : Int)) := by omega
    have hm2 : ((m : Int) != (gs : Int)) = true := by simp; omega
    have hm3 : (m != gs) = true := by simp; omega
    clear hbad HF
    go_enter Try.func20, Try.ntmps20
    go_wp2_with fail
    refine HN.out.mono ?_
    rintro e w1 ⟨G, L, c1, rfl, hh, hb⟩
    have HB := Lib.hid hb
    clear HN hh hb
    go_wp2
    refine bodyPost_ret (v := .tuple #[.pointer none, .int .i64 24]) (by simp [results, Try.results20, go_sem]) rfl ⟨rfl, HB.out⟩

theorem own_of_row {w : World} {B L n c : Nat} {t : TypeId} {cur : Array Value} {xs : List Value} (hB : B ≤ L) (h : Row w L t cur) (hn : n ≤ c) (hc : c ≤ maxLen) (hs : cur.size = c * 1) (hx : xs.length = n * 1) (ht : cur.toList.take (n * 1) = xs) :
    w.ownsRow B t 1 (.slice (some ⟨L, 0, none⟩) n c) n xs :=
  ⟨hx, .inr ⟨L, c, cur, rfl, hB, h, hn, hc, hs, ht⟩⟩
set_option maxHeartbeats 400000 in
theorem Load_yes (a : Option Addr) (l : List Nat) (c : Nat) (h1 : 1 ≤ l.length) (h2 : l.length ≤ 256) (w : World) (hc : Cells8 w a l) (hok : l.any badB = false) :
    Calls Try.prog 20 #[.int .i64 (l.length : Nat), .slice a l.length c] w fun e w' => ∃ G L c', e = .returned (.tuple #[.pointer (some ⟨G, 0, none⟩), .int .i64 0]) ∧ GHeld w' w.heap.size G L c' l ∧ Below w.heap.size w w' := by
  have HN := Lib.hid (New_yes l.length h1 h2 w)
  have HF : Hid (∀ w', Below w.heap.size w w' → Calls Try.prog 27 #[.slice a l.length c, .func (.func 28) #[] #[]] w' fun e w'' => e = .returned (.bool (l.any badB)) ∧ w' = w'') := fun w' hb => ContainsFunc_any a l c (by omega) w' (hc.keep (keep_below hb))
  rw [hok] at HF
  clear hok
  have HC := Lib.hid hc
  clear hc
  go_enter Try.func20, Try.ntmps20
  go_wp2_with fail
  refine HN.out.mono ?_
  rintro e w1 ⟨G, L, c1, rfl, hh, hb⟩
  have HB := Lib.hid hb
  have HH := Lib.hid hh
  have HC1 := Lib.hid (HF.out w1 hb)
  have hgc := hh.cellG
  rw [List.length_replicate] at hgc
  have HS := Lib.hid (Src.bytes (HC.out.keep (keep_below hb)))
  obtain ⟨hBL, cur, hrow, hcs, hnc, hcm, htk⟩ := own_row hh.own
  rw [List.length_replicate] at hnc
  have HR : Hid (Row w1 L 5 cur.toList.toArray) := by unfold Hid; simpa using hrow
  have HE : Hid (cur.toList.length = c1) := by unfold Hid; simpa using hcs
  clear HN HF hb HC hcs htk hrow hh
  go_wp2_with fail
  refine HC1.out.mono ?_
  rintro e w' ⟨rfl, rfl⟩
  clear HC1
  go_wp2_with (with_reducible refine wpList_copy_grown (o := ⟨some 29, _, _, _, _, _⟩) rfl (.tmp 27) (.tmp 28) 44 44 rfl 5 Try.underlying44 u8_size1 _ l.length c1 l.length c L 0 rfl rfl cur.toList 5 HR.out _ HS.out ?c1 ?c2 ?_)
  case c1 => intro u hu; obtain ⟨x, _, rfl⟩ := List.mem_map.1 hu; rfl
  case c2 => rw [HE.out]; simp; exact hnc
  intro w2 hr2 hg2
  have HF1 : Hid (GHeld w2 w.heap.size G L c1 l) := by
    have hne := HH.out.ne neG
    have hrow := HH.out.row
    rw [List.length_replicate] at hrow
    refine ⟨HH.out.hG, grown_row hrow hg2.out hne, own_of_row hBL hr2.out hnc hcm ?_ (by simp [intsV]) ?_⟩
    · rw [List.size_toArray, length_splice _ _ _ (by rw [HE.out, List.length_take]; simp; omega), HE.out, Nat.mul_one]
    · simp only [splice, intsV, List.take_zero, List.nil_append, Nat.mul_one]
      rw [List.take_of_length_le (by simp : (l.map fun (x : Nat) => Value.int .u8 (x : Int)).length ≤ l.length)]
      simp
  have HB2 : Hid (Below w.heap.size w w2) := below_grown HB.out hg2.out HB.out.size hBL
  clear hr2 hg2 HR HE HS HH HB hBL hgc
  go_wp2
  exact bodyPost_ret (v := .tuple #[.pointer (some ⟨G, 0, none⟩), .int .i64 0]) (by simp [results, Try.results20, go_sem]) rfl ⟨G, L, c1, rfl, HF1.out, HB2.out⟩

theorem refLoad_no1 (gs : Int) (hg : gs < 1 ∨ 256 < gs) (a : Option Addr) (m c : Nat) (w : World) :
    Calls Try.prog 23 #[.int .i64 gs, .slice a m c] w fun e w' => e = .returned (.tuple #[.pointer none, .int .i64 1]) ∧ w = w' := by
  have HN := Lib.hid (refNew_no gs hg w)
  clear hg
  go_enter Try.func23, Try.ntmps23
  go_wp2_with fail
  refine HN.out.mono ?_
  rintro e w' ⟨rfl, rfl⟩
  clear HN
  go_wp2
  refine bodyPost_ret (v := .tuple #[.pointer none, .int .i64 1]) (by simp [results, Try.results23, go_sem]) rfl ⟨rfl, rfl⟩
theorem refLoad_no2 (gs : Nat) (h1 : 1 ≤ gs) (h2 : gs ≤ 256) (a : Option Addr) (m c : Nat) (hm : m ≤ 1000) (w : World) (hbad : m ≠ gs) :
    Calls Try.prog 23 #[.int .i64 gs, .slice a m c] w fun e w' => e = .returned (.tuple #[.pointer none, .int .i64 24]) ∧ Below w.heap.size w w' := by
  have HN := Lib.hid (refNew_yes gs h1 h2 w)
  have hm1 : ¬ ((m : Int) = (gs : Int)) := by omega
  have hm2 : ((m : Int) != (gs : Int)) = true := by simp; omega
  have hm3 : (m != gs) = true := by simp; omega
  clear hbad
  go_enter Try.func23, Try.ntmps23
  go_wp2_with fail
  refine HN.out.mono ?_
  rintro e w1 ⟨G, L, c1, rfl, hh, hb⟩
  have HB := Lib.hid hb
  clear HN hh hb
  go_wp2
  refine bodyPost_ret (v := .tuple #[.pointer none, .int .i64 24]) (by simp [results, Try.results23, go_sem]) rfl ⟨rfl, HB.out⟩

/-- The first k of some kinds, the others free. -/
def fillK (l : List Nat) (k : Nat) : List Nat := l.take k ++ List.replicate (l.length - k) 0
theorem fillK_length (l : List Nat) (k : Nat) (h : k ≤ l.length) : (fillK l k).length = l.length := by simp [fillK]; omega
theorem fillK_zero (l : List Nat) : fillK l 0 = List.replicate l.length 0 := by simp [fillK]
theorem fillK_all (l : List Nat) : fillK l l.length = l := by simp [fillK]
theorem fillK_succ (l : List Nat) (k : Nat) (h : k < l.length) : (fillK l k).set k (l.getD k 0) = fillK l (k + 1) := by
  unfold fillK
  rw [List.set_append_right _ _ (by simp; omega), take_getD l k h, show k - (l.take k).length = 0 by simp; omega,
    show l.length - k = (l.length - (k + 1)) + 1 by omega, List.replicate_succ, List.set_cons_zero]
  simp
/-- What ends a load of the reference. -/
def RLoaded (l : List Nat) (w : World) (e : Ending) (w' : World) : Prop :=
  (l.any badB = true → e = .returned (.tuple #[.pointer none, .int .i64 24])) ∧
  (l.any badB = false → ∃ G L c', e = .returned (.tuple #[.pointer (some ⟨G, 0, none⟩), .int .i64 0]) ∧ RHeld w' w.heap.size G L c' l) ∧ Below w.heap.size w w'
set_option maxHeartbeats 1000000 in
theorem refLoad_any (a : Option Addr) (l : List Nat) (c : Nat) (h1 : 1 ≤ l.length) (h2 : l.length ≤ 256) (h256 : ∀ x ∈ l, x < 256) (w : World) (hc : Cells8 w a l) :
    Calls Try.prog 23 #[.int .i64 (l.length : Nat), .slice a l.length c] w (RLoaded l w) := by
  have HN := Lib.hid (refNew_yes l.length h1 h2 w)
  obtain ⟨b, off, rfl⟩ := hc.addr (by intro e; simp [e] at h1)
  have HC : Hid (∀ w', Below w.heap.size w w' → ∀ i, i < l.length → w'.cell? ⟨b, off + i, none⟩ = some (.int .u8 (l.getD i 0 : Nat))) := fun w' hb i hi => (hc.keep (keep_below hb)).at0 i hi
  have H256 : Hid (∀ i, i < l.length → l.getD i 0 < 256) := fun i hi => h256 _ (getD_mem _ _ hi)
  have HM : Hid (∀ i, i < l.length → badB (l.getD i 0) = true → l.any badB = true) := fun i hi h => List.any_eq_true.2 ⟨_, getD_mem _ _ hi, h⟩
  clear hc h256
  go_enter Try.func23, Try.ntmps23
  go_wp2_with fail
  refine HN.out.mono ?_
  rintro e w1 ⟨G, L, c1, rfl, hh, hb⟩
  have HB := Lib.hid hb
  rw [← fillK_zero] at hh
  have HH := Lib.hid hh
  clear HN hb hh
  go_wp2
  go_loopw [8] (fun i wr => ∃ k : Nat, k ≤ l.length ∧ i = .int .i64 k ∧ (l.take k).any badB = false ∧ RHeld wr w.heap.size G L c1 (fillK l k) ∧ Below w.heap.size w wr) (fun i _ => l.length - (intOf i).toNat)
  case atStart => exact ⟨0, by omega, rfl, by simp, HH.out, HB.out⟩
  case round =>
    clear HH HB
    obtain ⟨k, hk, rfl, hbad, hh, hb⟩ := hrel
    have HB := Lib.hid hb
    by_cases hkl : k < l.length
    · have hcc := HC.out wr hb k hkl
      have hx := H256.out k hkl
      have HT := Lib.hid (any_take l k hkl)
      rw [hbad] at HT
      have HMk := Lib.hid (HM.out k hkl)
      have hgc := hh.cellG
      rw [fillK_length l k hk] at hgc
      have hf := hh.thaw k
      obtain ⟨y, hy⟩ : ∃ y : Value, wr.cell? ⟨L, k, none⟩ = some y := ⟨_, hh.cell k (by rw [fillK_length l k hk]; exact hkl)⟩
      have HP := Lib.hid (hh.put neR k (l.getD k 0) (by rw [fillK_length l k hk]; exact hkl))
      rw [fillK_succ l k hkl] at HP
      have hLB := hh.hL.1
      have HBP := hb.setCell (p := ⟨L, k, none⟩) hLB (Value.int .i64 (l.getD k 0 : Nat))
      have HU : Hid (∀ U, U = wr.drew → U.cell? ⟨b, off + k, none⟩ = some (.int .u8 (l.getD k 0 : Nat)) ∧ U.cell? ⟨G, 0, none⟩ = some (.slice (some ⟨L, 0, none⟩) l.length c1) ∧ U.cell? ⟨L, k, none⟩ = some y ∧ U.frozen? ⟨L, k, none⟩ = false ∧
          Hid (RHeld (U.setCell ⟨L, k, none⟩ (.int .i64 (l.getD k 0 : Nat))) w.heap.size G L c1 (fillK l (k + 1))) ∧ Hid (Below w.heap.size w (U.setCell ⟨L, k, none⟩ (.int .i64 (l.getD k 0 : Nat))))) := by
        rintro U rfl
        exact ⟨hcc, hgc, hy, hf, ⟨HP.out.hG, HP.out.row, HP.out.own⟩, ⟨HBP.os, HBP.tape, HBP.output, HBP.size, HBP.block⟩⟩
      clear HP HBP hy hf
      clear HM H256 HC hbad hh hb
      generalize l.getD k 0 = x at *
      by_cases hbx : badB x = true
      · have hx3 : x ≠ 0 ∧ x ≠ 1 ∧ x ≠ 3 := by simpa [badB] using hbx
        obtain ⟨h0, h1', h3⟩ := hx3
        have HE : Hid (l.any badB = true) := HMk.out hbx
        have b0 : ((x : Int) != 0) = true := by simp; omega
        have b1 : ((x : Int) != 1) = true := by simp; omega
        have b3 : ((x : Int) != 3) = true := by simp; omega
        clear HMk HT hbx HU h0 h1' h3
        go_wp2
        refine bodyPost_ret (v := .tuple #[.pointer none, .int .i64 24]) (by simp [results, Try.results23, go_sem]) rfl ?_
        refine ⟨fun _ => rfl, fun h => ?_, HB.out⟩
        rw [HE.out] at h; cases h
      · have hbx : badB x = false := by simpa using hbx
        rw [hbx] at HT
        have key : x = 0 ∨ (x ≠ 0 ∧ x = 1) ∨ (x ≠ 0 ∧ x ≠ 1 ∧ x = 3) := by simp [badB] at hbx; omega
        clear HMk hbx
        rcases key with rfl | ⟨k1, rfl⟩ | ⟨k1, k2, rfl⟩
        all_goals
          go_wp2
          refine region_tail 11 (by kernel_rfl) (by kernel_rfl) (fun U hU => ?_)
          simp only [List.take_succ_cons, List.take_zero, List.drop_succ_cons, List.drop_zero]
          obtain ⟨q1, q2, q3, q4, HPU, HBU⟩ := HU.out U hU
          clear hcc hgc hU HU
          repeat still_step
          refine wpStill_nil ?_
          go_wp2
          go_roundw
          case rel => exact ⟨k + 1, by omega, by go_num, by rw [HT.out]; rfl, HPU.out, HBU.out⟩
          case measure => simp [intOf]; omega
    · obtain rfl : k = l.length := by omega
      rw [List.take_length] at hbad
      rw [fillK_all] at hh
      have HBd := Lib.hid hbad
      have HH := Lib.hid hh
      clear hbad hb hh HC H256 HM
      go_wp2
      refine bodyPost_ret (v := .tuple #[.pointer (some ⟨G, 0, none⟩), .int .i64 0]) (by simp [results, Try.results23, go_sem]) rfl ?_
      refine ⟨fun h => ?_, fun _ => ⟨G, L, c1, rfl, HH.out⟩, HB.out⟩
      rw [HBd.out] at h; cases h
end Go.Proofs.Ytallanlajecmhaa
