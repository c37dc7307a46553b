/- crash: Settle. -/
import Derived.Test.YtomigaldomiefaaCrMay
namespace Go.Proofs.Ytomigaldomiefaa
open Go.RowKit Go.Shelf Go.MapKept Go.ChangeMaps
attribute [local go_sem] Oper.semAt_some
attribute [local simp, local go_sem] wide_fn
set_option linter.unusedVariables false
set_option linter.unusedSimpArgs false
/-- What is so from now on, of the places before j. -/
def Cr.settled (S : Cr) (rd : Nat → List Nat) (j : Nat) : Cr := { n := S.n, sz := S.sz, has := fun q => if q < j ∧ (rd q).length = S.sz then some (rd q) else S.has q, loose := fun _ => false, groups := [], fly := [] }
theorem settled_step (S : Cr) (rd : Nat → List Nat) (j : Nat) (h : (rd j).length = S.sz) : S.settled rd (j + 1) = { S.settled rd j with has := updH (S.settled rd j).has j (rd j) } := by
  unfold Cr.settled updH
  congr 1
  funext q
  by_cases e : q = j
  · subst e; rw [if_pos ⟨by omega, h⟩, if_pos rfl]
  · rw [if_neg e]
    show _ = if q < j ∧ (rd q).length = S.sz then some (rd q) else S.has q
    by_cases h2 : q < j ∧ (rd q).length = S.sz
    · rw [if_pos h2, if_pos ⟨by omega, h2.2⟩]
    · rw [if_neg h2, if_neg (fun h3 => h2 ⟨by omega, h3.2⟩)]
theorem settled_skip (S : Cr) (rd : Nat → List Nat) (j : Nat) (h : ¬ (rd j).length = S.sz) : S.settled rd (j + 1) = S.settled rd j := by
  unfold Cr.settled
  congr 1
  funext q
  by_cases h2 : q < j ∧ (rd q).length = S.sz
  · rw [if_pos h2, if_pos ⟨by omega, h2.2⟩]
  · rw [if_neg h2, if_neg (fun h3 => by
      by_cases e : q = j
      · exact h (e ▸ h3.2)
      · exact h2 ⟨by omega, h3.2⟩)]
section
variable {w : World} {B C H L : Nat} {v4 v5 : Value} {S : Cr}
theorem CrIs.clearL (h : CrIs w B C H L v4 v5 S) (ty : TypeId) :
    ∃ w1, (Builtin.clear_ #[65] ty #[.map (some L)]).run Try.prog w = .ok (.tuple #[]) w1 ∧ CrIs w1 B C H L v4 v5 { S with loose := fun _ => false } ∧ Turns w w1 [L] := by
  obtain ⟨⟨m, f, h1, h2⟩, h3⟩ := h.loose
  obtain ⟨w1, hr, hm, hg⟩ := h1.clear (ty := ty) spotL_under
  exact ⟨w1, hr, h.putL (Turns.of_grown hg) ⟨⟨_, _, hm, by simp⟩, by simp⟩, Turns.of_grown hg⟩
set_option maxRecDepth 100000 in
set_option maxHeartbeats 4000000 in
theorem Settle_any (f : FuncId) (lb : Array Value) (rd : Nat → List Nat) (hrd : RdOk w [C, H, L] S.n f lb rd) (h : CrIs w B C H L v4 v5 S) :
    Calls Try.prog 17 #[.pointer (some ⟨C, 0, none⟩), .func (.func f) #[] lb] w fun e w' => e = .returned (.bool (S.may rd)) ∧ (if S.may rd = true then CrIs w' B C H L (.slice none 0 0) (.slice none 0 0) (S.settled rd S.n) else CrIs w' B C H L v4 v5 S) ∧ Turns w w' [C, H, L] := by
  have HM := Lib.hid (May_any B C H L v4 v5 S [C, H, L] f lb rd w hrd h)
  have HC0 := Lib.hid h
  have HRd := Lib.hid hrd
  clear h hrd
  cases hm : S.may rd with
  | false =>
    rw [hm] at HM
    clear hm
    go_enter Try.func17, Try.ntmps17
    go_wp2_with fail
    refine HM.out.mono ?_
    rintro e w1 ⟨rfl, hb⟩
    have HB := Lib.hid hb
    clear HM hb
    go_wp2
    go_ret
    exact ⟨rfl, HC0.out.below HB.out, Turns.of_below HB.out _⟩
  | true =>
    rw [hm] at HM
    clear hm
    go_enter Try.func17, Try.ntmps17
    go_wp2_with fail
    refine HM.out.mono ?_
    rintro e w1 ⟨rfl, hb⟩
    have HB := Lib.hid hb
    have HC1 := Lib.hid (HC0.out.below hb)
    obtain ⟨w2, hcl, hc2, ht2⟩ := HC1.out.clearL 0
    have HC2 := Lib.hid hc2
    have HT2 : Hid (Turns w w2 [C, H, L]) := (Turns.of_below hb _).trans ht2 (fun k hk => .inl (by rw [List.mem_singleton.1 hk]; simp))
    have c3 := HC1.out.row.cell 3
    have hc4 := HC2.out.put4 (GrsIs.nil w2 B) (by simp) (by simp)
    have HC4 := Lib.hid hc4
    have HC5 := Lib.hid (hc4.put5 (WrsIs.nil _ B) (by simp [OkL]) (by simp))
    have z4 := HC2.out.row.frozen 4
    have z5 := HC4.out.row.frozen 5
    have d4 := HC2.out.row.cell 4
    have d5 := HC4.out.row.cell 5
    simp only [List.getElem?_toArray, List.getElem?_cons_zero, List.getElem?_cons_succ] at c3 d4 d5
    obtain ⟨w5, hw5⟩ : ∃ w5, w5 = (w2.setCell ⟨C, 4, none⟩ (.slice none 0 0)).setCell ⟨C, 5, none⟩ (.slice none 0 0) := ⟨_, rfl⟩
    have HT5 : Hid (Turns w w5 [C, H, L]) := by unfold Hid; rw [hw5]; exact (HT2.out.setCell (by simp) _).setCell (by simp) _
    have HC6 : Hid (CrIs w5 B C H L (.slice none 0 0) (.slice none 0 0) (S.settled rd 0)) := by unfold Hid; rw [hw5]; exact HC5.out
    have HW5 := Lib.hid hw5
    obtain ⟨n, hn⟩ : ∃ n, n = S.n := ⟨_, rfl⟩
    have HN := Lib.hid hn
    have hn32 : n < 4294967296 := by rw [hn]; exact HC0.out.n.2
    have d0 : ((w2.setCell ⟨C, 4, none⟩ (.slice none 0 0)).setCell ⟨C, 5, none⟩ (.slice none 0 0)).cell? ⟨C, 0, none⟩ = some (.int .i64 n) := by rw [hn]; exact HC5.out.row.cell 0
    have HSz : Hid (S.sz ≤ 65536) := HC0.out.sz.2
    clear HM hb hc2 ht2 hw5 hn hc4
    go_wp2_with fail
    rw [← HW5.out]
    clear hcl z4 z5 c3 d4 d5 d0
    go_loopw [5, 6, 25] (fun _ _ i wr => ∃ j : Nat, i = .int .i64 j ∧ j ≤ n ∧ CrIs wr B C H L (.slice none 0 0) (.slice none 0 0) (S.settled rd j) ∧ Turns w wr [C, H, L]) (fun _ _ i _ => n - (intOf i).toNat)
    case atStart => exact ⟨0, rfl, by omega, HC6.out, HT5.out⟩
    case round =>
      obtain ⟨j, rfl, hj, hc, ht⟩ := hrel
      have HCj := Lib.hid hc
      have HTj := Lib.hid ht
      by_cases hjn : j < n
      · have HRj := Lib.hid (HRd.out.ok j (by rw [← HN.out]; exact hjn) wr ht)
        have hrun := HRd.out.run
        clear hc ht
        go_wp2_with fail
        refine HRj.out.mono ?_
        rintro e w7 ⟨A, c, rfl, hc8, hb⟩
        have HC7 := Lib.hid (HCj.out.below hb)
        have HT7 : Hid (Turns w w7 [C, H, L]) := HTj.out.then_below hb
        have H8 := Lib.hid hc8
        obtain ⟨sz, hsz⟩ : ∃ sz, sz = S.sz := ⟨_, rfl⟩
        have HSe := Lib.hid hsz
        have c1 : w7.cell? ⟨C, 1, none⟩ = some (.int .i64 sz) := by rw [hsz]; exact HC7.out.row.cell 1
        clear hb hc8 HRj hrun hsz
        by_cases hl : (rd j).length = sz
        · have HStep := Lib.hid (settled_step S rd j (by rw [hl]; exact HSe.out))
          have kc : ∀ t : Kept w7 [], (convert 22 9 (.slice A (rd j).length c)).run Try.prog t.u = .ok (.string (textOf (rd j))) t.u := fun t => conv_text (H8.out.keep fun a v h => t.h.cell h (by simp))
          have k1 : ∀ t : Kept w7 [], t.u.cell? ⟨C, 2, none⟩ = some (.map (some H)) := fun t => (t.h.row HC7.out.row (by simp)).cell 2
          obtain ⟨w8, hup, hc8, ht8⟩ := (HC7.out.drewN 1).put (x := (j, rd j)) ⟨by show j < S.n; rw [← HN.out]; exact hjn, by show (rd j).length = S.sz; rw [hl]; exact HSe.out, HRd.out.byte j⟩
          have HUp : Hid ((Instr.mapUpdate 64 (.map (some H)) (.agg #[.int .i64 j]) (.string (textOf (rd j)))).run Try.prog w7.drew = .ok () w8) := hup
          have HC8 : Hid (CrIs w8 B C H L (.slice none 0 0) (.slice none 0 0) (S.settled rd (j + 1))) := by rw [HStep.out]; exact hc8
          have HT8 : Hid (Turns w w8 [C, H, L]) := HT7.out.drew.trans (show Turns w7.drew w8 [H] from ht8) (fun k hk => .inl (by rw [List.mem_singleton.1 hk]; simp))
          rw [hl] at kc
          rw [hl]
          clear hup hc8 ht8 hl
          go_wp2_with fail
          (refine region_kept ([]) [0, 1, 2, 3, 4, 5, 6, 7] [8] (by kernel_rfl) (by kernel_rfl) (fun _ _ _ _ _ h => h) ?_; simp only [List.filterMap_cons, List.getElem?_cons_zero, List.getElem?_cons_succ, List.filterMap_nil]; (repeat ((show wpQuiet _ _ _ _ (_ :: _) _); go_big_quiet_step (fail))); refine wpQuiet_nil ?_)
          clear k1 kc
          have hup := HUp.out
          refine wpSeqS_last ?_
          go_wp2
          clear hup HUp
          go_roundw
          case rel => exact ⟨j + 1, by go_num, by omega, HC8.out, HT8.out⟩
          case measure => simp [intOf]; omega
        · have HStep := Lib.hid (settled_skip S rd j (fun h => hl (by rw [h]; exact HSe.out.symm)))
          have hl2 : ¬ ((rd j).length : Int) = sz := by omega
          generalize (rd j).length = ln at *
          go_wp2_with fail
          go_roundw
          case rel => exact ⟨j + 1, by go_num, by omega, by rw [HStep.out]; exact HC7.out, HT7.out⟩
          case measure => simp [intOf]; omega
      · obtain rfl : j = n := by omega
        clear hc ht
        go_wp2
        go_ret
        exact ⟨rfl, by rw [← HN.out]; exact HCj.out, HTj.out⟩
end
end Go.Proofs.Ytomigaldomiefaa
