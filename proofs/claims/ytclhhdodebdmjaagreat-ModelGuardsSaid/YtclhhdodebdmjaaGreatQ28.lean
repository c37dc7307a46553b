/- What follows is laid together from several texts of mine, in their order. -/
import Derived.Test.YtclhhdodebdmjaaGreatQ27
import Derived.Test.YtclhhdodebdmjaaGreatQ22
import Derived.Test.YtclhhdodebdmjaaGreatQ26
import Derived.Test.YtclhhdodebdmjaaGreatQ4
import Derived.Test.YtclhhdodebdmjaaGreatQ19

namespace Go.Proofs.YtclhhdodebdmjaaGreat
open Go.RowKit Go.MapKept Go.ChangeMaps
set_option linter.unusedVariables false
set_option linter.unusedSimpArgs false
set_option maxRecDepth 100000

/-- The document's machine in memory. -/
abbrev RphIs (w : World) (M : Nat) (s : Int) (a : Nat) (l : Int) : Prop := Row w M 72 #[.int .i64 s, .int .i64 l, .int .u16 a]
section
variable {w : World} {M : Nat} {s : Int} {a : Nat} {l : Int}
theorem mine_ph (h : RphIs w M s a l) (arg : Nat) (ha : a < 65536) (hg : arg < 4294967296) : Calls Tryz.prog 66 #[.pointer (some ⟨M, 0, none⟩), .int .u32 arg] w fun e w' => e = .returned (.bool (ownB a arg)) ∧ w' = w := by
  have c2 := h.cell 2
  simp only [List.getElem?_toArray, List.getElem?_cons_zero, List.getElem?_cons_succ] at c2
  clear h
  go_enter Tryz.func66, Tryz.ntmps66
  go_wp2
  go_ret
  refine ⟨?_, rfl⟩
  show Ending.returned (Value.bool ((arg : Int) / 65536 == (a : Int))) = _
  unfold ownB
  congr 2
  rw [Bool.eq_iff_iff]
  simp
  omega
theorem rLegal_ph (h : RphIs w M s a l) (hs : s ∈ statesL) (i : Int) (arg : Nat) (ha : a < 65536) (hg : arg < 4294967296) :
    Calls Tryz.prog 22 #[.pointer (some ⟨M, 0, none⟩), .int .i64 i, .int .u32 arg] w fun e w' => e = .returned (.bool (nextV s i (ownB a arg)).2) ∧ Below w.heap.size w w' := by
  have HO : Hid (∀ k, Calls Tryz.prog 66 #[.pointer (some ⟨M, 0, none⟩), .int .u32 arg] (w.drewN k) fun e w' => e = .returned (.bool (ownB a arg)) ∧ w' = w.drewN k) := fun k => mine_ph (w := w.drewN k) h arg ha hg
  have HN : Hid (∀ k own, Calls Tryz.prog 65 #[.int .i64 s, .int .i64 i, .bool own] (w.drewN k) fun e w' => e = .returned (.tuple #[.int .i64 (nextV s i own).1, .bool (nextV s i own).2]) ∧ w' = w.drewN k) := fun k own => (refNext_any s i own hs (w.drewN k)).mono fun e w' h => ⟨h.1, h.2.symm⟩
  have c0 := h.cell 0
  simp only [List.getElem?_toArray, List.getElem?_cons_zero] at c0
  have HH := Lib.hid h
  generalize ownB a arg = own at *
  clear h hs
  go_enter Tryz.func22, Tryz.ntmps22
  go_wp2
  go_quiet ((first | (go_at_call 66; exact Calls.quiet_of_same (HO.out _)) | (go_at_call 65; exact Calls.quiet_of_same (HN.out _ _))))
  go_wp2
  go_ret
  exact ⟨rfl, below_drewN0 (Below.refl _ _) _⟩
/-- What stands behind the stores. -/
def goW (u : World) (M : Nat) (s s' : Int) (i : Int) (arg : Nat) : World :=
  let u1 := if s = s' then u else if s' = 6 then (u.setCell ⟨M, 1, none⟩ (.int .i64 0)).setCell ⟨M, 1, none⟩ (.int .i64 1) else u.setCell ⟨M, 1, none⟩ (.int .i64 0)
  let u2 := u1.setCell ⟨M, 0, none⟩ (.int .i64 s')
  if i = 3 then u2.setCell ⟨M, 2, none⟩ (.int .u16 ((arg : Int) / 65536)) else u2
theorem goW_is {u : World} (h : RphIs u M s a l) (s' i : Int) (arg : Nat) : RphIs (goW u M s s' i arg) M s' (addrTo i a arg) (leftTo s s' l) ∧ Turns u (goW u M s s' i arg) [M] := by
  have hc : ((arg / 65536 : Nat) : Int) = (arg : Int) / 65536 := by omega
  unfold goW addrTo leftTo
  unfold RphIs at h ⊢
  by_cases h1 : s = s'
  · subst h1
    by_cases h3 : i = 3
    · simp only [if_true, if_pos h3]
      refine ⟨?_, ((Turns.refl _ _).setCell (by simp) _).setCell (by simp) _⟩
      have := (h.put 0 (.int .i64 s)).put 2 (.int .u16 ((arg : Int) / 65536)); simpa [hc] using this
    · simp only [if_true, if_neg h3]
      refine ⟨?_, (Turns.refl _ _).setCell (by simp) _⟩
      have := h.put 0 (.int .i64 s); simpa using this
  · by_cases h6 : s' = 6
    · subst h6
      by_cases h3 : i = 3
      · simp only [if_neg h1, if_true, if_pos h3]
        refine ⟨?_, ((((Turns.refl _ _).setCell (by simp) _).setCell (by simp) _).setCell (by simp) _).setCell (by simp) _⟩
        have := (((h.put 1 (.int .i64 0)).put 1 (.int .i64 1)).put 0 (.int .i64 6)).put 2 (.int .u16 ((arg : Int) / 65536)); simpa [hc] using this
      · simp only [if_neg h1, if_true, if_neg h3]
        refine ⟨?_, (((Turns.refl _ _).setCell (by simp) _).setCell (by simp) _).setCell (by simp) _⟩
        have := ((h.put 1 (.int .i64 0)).put 1 (.int .i64 1)).put 0 (.int .i64 6); simpa using this
    · by_cases h3 : i = 3
      · simp only [if_neg h1, if_neg h6, if_pos h3]
        refine ⟨?_, (((Turns.refl _ _).setCell (by simp) _).setCell (by simp) _).setCell (by simp) _⟩
        have := ((h.put 1 (.int .i64 0)).put 0 (.int .i64 s')).put 2 (.int .u16 ((arg : Int) / 65536)); simpa [hc] using this
      · simp only [if_neg h1, if_neg h6, if_neg h3]
        refine ⟨?_, ((Turns.refl _ _).setCell (by simp) _).setCell (by simp) _⟩
        have := (h.put 1 (.int .i64 0)).put 0 (.int .i64 s'); simpa using this
set_option maxHeartbeats 8000000 in
theorem rGo_yes (h : RphIs w M s a l) (hs : s ∈ statesL) (i : Int) (arg : Nat) (ha : a < 65536) (hg : arg < 4294967296) (s' : Int) (HV : nextV s i (ownB a arg) = (s', true)) :
    Calls Tryz.prog 122 #[.pointer (some ⟨M, 0, none⟩), .int .i64 i, .int .u32 arg] w fun e w' => e = .returned (.tuple #[.bool (answersB i (ownB a arg)), .bool true]) ∧ RphIs w' M s' (addrTo i a arg) (leftTo s s' l) ∧ Turns w w' [M] := by
  have HO : Hid (∀ k, Calls Tryz.prog 66 #[.pointer (some ⟨M, 0, none⟩), .int .u32 arg] (w.drewN k) fun e w' => e = .returned (.bool (ownB a arg)) ∧ w' = w.drewN k) := fun k => mine_ph (w := w.drewN k) h arg ha hg
  have HN : Hid (∀ k own, Calls Tryz.prog 65 #[.int .i64 s, .int .i64 i, .bool own] (w.drewN k) fun e w' => e = .returned (.tuple #[.int .i64 (nextV s i own).1, .bool (nextV s i own).2]) ∧ w' = w.drewN k) := fun k own => (refNext_any s i own hs (w.drewN k)).mono fun e w' h => ⟨h.1, h.2.symm⟩
  have c0 := h.cell 0
  simp only [List.getElem?_toArray, List.getElem?_cons_zero] at c0
  have HH := Lib.hid h
  have HV1 := congrArg Prod.fst HV
  have HV2 := congrArg Prod.snd HV
  dsimp only at HV1 HV2
  generalize ownB a arg = own at *
  clear h hs HV
  by_cases h7 : i = 7
  · subst h7
    have h3 : ¬ (7 : Int) = 3 := by decide
    have HAn : Hid (answersB 7 own = own) := by unfold Hid answersB; simp
    by_cases h1 : s = s'
    · subst h1
      have c1 := HH.out.cell 1
      have c2 := HH.out.cell 2
      have f0 := HH.out.frozen 0
      have f1 := HH.out.frozen 1
      have f2 := HH.out.frozen 2
      simp only [List.getElem?_toArray, List.getElem?_cons_zero, List.getElem?_cons_succ] at c1 c2
      have HRu : Hid (∀ k, RphIs (w.drewN k) M s a l) := fun k => HH.out.below (below_drewN0 (Below.refl _ _) _) HH.out.lt
      have HTu : Hid (∀ k, Turns w (w.drewN k) [M]) := fun k => (Turns.refl _ _).drewN _
      go_enter Tryz.func122, Tryz.ntmps122
      go_wp2
      go_quiet ((first | (go_at_call 66; exact Calls.quiet_of_same (HO.out _)) | (go_at_call 65; exact Calls.quiet_of_same (HN.out _ _))))
      go_wp2_with fail
      refine (HO.out nq).mono ?_
      rintro e w' ⟨rfl, rfl⟩
      go_wp2
      have hg := goW_is (HRu.out nq) s 7 arg
      simp only [goW, if_true, if_neg h3] at hg
      have HG := Lib.hid hg
      clear hg
      rw [HAn.out]
      refine bodyPost_ret (v := .tuple #[.bool own, .bool true]) (by first | (simp [results, Tryz.results122, go_sem, bne]; done) | (simp [results, Tryz.results122, go_sem, bne]; assumption)) rfl ?_
      exact ⟨rfl, HG.out.1, (HTu.out nq).trans HG.out.2 (fun g hg => .inl hg)⟩
    · have HNe := Lib.hid h1
      by_cases h6 : s' = 6
      · subst h6
        have hb : ((6 : Int) == s) = false := by simp; exact fun e => h1 e.symm
        have hb2 : ((6 : Int) != s) = true := by simp [bne, hb]
        clear h1
        have c1 := HH.out.cell 1
        have c2 := HH.out.cell 2
        have f0 := HH.out.frozen 0
        have f1 := HH.out.frozen 1
        have f2 := HH.out.frozen 2
        simp only [List.getElem?_toArray, List.getElem?_cons_zero, List.getElem?_cons_succ] at c1 c2
        have HRu : Hid (∀ k, RphIs (w.drewN k) M s a l) := fun k => HH.out.below (below_drewN0 (Below.refl _ _) _) HH.out.lt
        have HTu : Hid (∀ k, Turns w (w.drewN k) [M]) := fun k => (Turns.refl _ _).drewN _
        go_enter Tryz.func122, Tryz.ntmps122
        go_wp2
        go_quiet ((first | (go_at_call 66; exact Calls.quiet_of_same (HO.out _)) | (go_at_call 65; exact Calls.quiet_of_same (HN.out _ _))))
        go_wp2_with fail
        refine (HO.out nq).mono ?_
        rintro e w' ⟨rfl, rfl⟩
        go_wp2
        have hg := goW_is (HRu.out nq) 6 7 arg
        simp only [goW, if_neg HNe.out, if_true, if_neg h3] at hg
        have HG := Lib.hid hg
        clear hg
        rw [HAn.out]
        refine bodyPost_ret (v := .tuple #[.bool own, .bool true]) (by first | (simp [results, Tryz.results122, go_sem, bne]; done) | (simp [results, Tryz.results122, go_sem, bne]; assumption)) rfl ?_
        exact ⟨rfl, HG.out.1, (HTu.out nq).trans HG.out.2 (fun g hg => .inl hg)⟩
      · have hb : (s' == s) = false := by simp; exact fun e => h1 e.symm
        have hb2 : (s' != s) = true := by simp [bne, hb]
        have HN6 := Lib.hid h6
        have hb6 : (s' == 6) = false := by simpa using h6
        clear h1 h6
        have c1 := HH.out.cell 1
        have c2 := HH.out.cell 2
        have f0 := HH.out.frozen 0
        have f1 := HH.out.frozen 1
        have f2 := HH.out.frozen 2
        simp only [List.getElem?_toArray, List.getElem?_cons_zero, List.getElem?_cons_succ] at c1 c2
        have HRu : Hid (∀ k, RphIs (w.drewN k) M s a l) := fun k => HH.out.below (below_drewN0 (Below.refl _ _) _) HH.out.lt
        have HTu : Hid (∀ k, Turns w (w.drewN k) [M]) := fun k => (Turns.refl _ _).drewN _
        go_enter Tryz.func122, Tryz.ntmps122
        go_wp2
        go_quiet ((first | (go_at_call 66; exact Calls.quiet_of_same (HO.out _)) | (go_at_call 65; exact Calls.quiet_of_same (HN.out _ _))))
        go_wp2_with fail
        refine (HO.out nq).mono ?_
        rintro e w' ⟨rfl, rfl⟩
        go_wp2
        have hg := goW_is (HRu.out nq) s' 7 arg
        simp only [goW, if_neg HNe.out, if_neg HN6.out, if_neg h3] at hg
        have HG := Lib.hid hg
        clear hg
        rw [HAn.out]
        refine bodyPost_ret (v := .tuple #[.bool own, .bool true]) (by first | (simp [results, Tryz.results122, go_sem, bne]; done) | (simp [results, Tryz.results122, go_sem, bne]; assumption)) rfl ?_
        exact ⟨rfl, HG.out.1, (HTu.out nq).trans HG.out.2 (fun g hg => .inl hg)⟩
  · by_cases h0 : i = 0
    · subst h0
      have h3 : ¬ (0 : Int) = 3 := by decide
      have HAn : Hid (answersB 0 own = false) := by unfold Hid answersB; simp
      by_cases h1 : s = s'
      · subst h1
        have c1 := HH.out.cell 1
        have c2 := HH.out.cell 2
        have f0 := HH.out.frozen 0
        have f1 := HH.out.frozen 1
        have f2 := HH.out.frozen 2
        simp only [List.getElem?_toArray, List.getElem?_cons_zero, List.getElem?_cons_succ] at c1 c2
        have HRu : Hid (∀ k, RphIs (w.drewN k) M s a l) := fun k => HH.out.below (below_drewN0 (Below.refl _ _) _) HH.out.lt
        have HTu : Hid (∀ k, Turns w (w.drewN k) [M]) := fun k => (Turns.refl _ _).drewN _
        go_enter Tryz.func122, Tryz.ntmps122
        go_wp2
        go_quiet ((first | (go_at_call 66; exact Calls.quiet_of_same (HO.out _)) | (go_at_call 65; exact Calls.quiet_of_same (HN.out _ _))))
        go_wp2_with fail
        skip
        have hg := goW_is (HRu.out nq) s 0 arg
        simp only [goW, if_true, if_neg h3] at hg
        have HG := Lib.hid hg
        clear hg
        rw [HAn.out]
        refine bodyPost_ret (v := .tuple #[.bool false, .bool true]) (by first | (simp [results, Tryz.results122, go_sem, bne]; done) | (simp [results, Tryz.results122, go_sem, bne]; assumption)) rfl ?_
        exact ⟨rfl, HG.out.1, (HTu.out nq).trans HG.out.2 (fun g hg => .inl hg)⟩
      · have HNe := Lib.hid h1
        by_cases h6 : s' = 6
        · subst h6
          have hb : ((6 : Int) == s) = false := by simp; exact fun e => h1 e.symm
          have hb2 : ((6 : Int) != s) = true := by simp [bne, hb]
          clear h1
          have c1 := HH.out.cell 1
          have c2 := HH.out.cell 2
          have f0 := HH.out.frozen 0
          have f1 := HH.out.frozen 1
          have f2 := HH.out.frozen 2
          simp only [List.getElem?_toArray, List.getElem?_cons_zero, List.getElem?_cons_succ] at c1 c2
          have HRu : Hid (∀ k, RphIs (w.drewN k) M s a l) := fun k => HH.out.below (below_drewN0 (Below.refl _ _) _) HH.out.lt
          have HTu : Hid (∀ k, Turns w (w.drewN k) [M]) := fun k => (Turns.refl _ _).drewN _
          go_enter Tryz.func122, Tryz.ntmps122
          go_wp2
          go_quiet ((first | (go_at_call 66; exact Calls.quiet_of_same (HO.out _)) | (go_at_call 65; exact Calls.quiet_of_same (HN.out _ _))))
          go_wp2_with fail
          skip
          have hg := goW_is (HRu.out nq) 6 0 arg
          simp only [goW, if_neg HNe.out, if_true, if_neg h3] at hg
          have HG := Lib.hid hg
          clear hg
          rw [HAn.out]
          refine bodyPost_ret (v := .tuple #[.bool false, .bool true]) (by first | (simp [results, Tryz.results122, go_sem, bne]; done) | (simp [results, Tryz.results122, go_sem, bne]; assumption)) rfl ?_
          exact ⟨rfl, HG.out.1, (HTu.out nq).trans HG.out.2 (fun g hg => .inl hg)⟩
        · have hb : (s' == s) = false := by simp; exact fun e => h1 e.symm
          have hb2 : (s' != s) = true := by simp [bne, hb]
          have HN6 := Lib.hid h6
          have hb6 : (s' == 6) = false := by simpa using h6
          clear h1 h6
          have c1 := HH.out.cell 1
          have c2 := HH.out.cell 2
          have f0 := HH.out.frozen 0
          have f1 := HH.out.frozen 1
          have f2 := HH.out.frozen 2
          simp only [List.getElem?_toArray, List.getElem?_cons_zero, List.getElem?_cons_succ] at c1 c2
          have HRu : Hid (∀ k, RphIs (w.drewN k) M s a l) := fun k => HH.out.below (below_drewN0 (Below.refl _ _) _) HH.out.lt
          have HTu : Hid (∀ k, Turns w (w.drewN k) [M]) := fun k => (Turns.refl _ _).drewN _
          go_enter Tryz.func122, Tryz.ntmps122
          go_wp2
          go_quiet ((first | (go_at_call 66; exact Calls.quiet_of_same (HO.out _)) | (go_at_call 65; exact Calls.quiet_of_same (HN.out _ _))))
          go_wp2_with fail
          skip
          have hg := goW_is (HRu.out nq) s' 0 arg
          simp only [goW, if_neg HNe.out, if_neg HN6.out, if_neg h3] at hg
          have HG := Lib.hid hg
          clear hg
          rw [HAn.out]
          refine bodyPost_ret (v := .tuple #[.bool false, .bool true]) (by first | (simp [results, Tryz.results122, go_sem, bne]; done) | (simp [results, Tryz.results122, go_sem, bne]; assumption)) rfl ?_
          exact ⟨rfl, HG.out.1, (HTu.out nq).trans HG.out.2 (fun g hg => .inl hg)⟩
    · have e0 : (i == 0) = false := by simpa using h0
      have e7 : (i == 7) = false := by simpa using h7
      have HAn : Hid (answersB i own = true) := by unfold Hid answersB; rw [e0, e7]; rfl
      by_cases h3 : i = 3
      · subst h3
        clear h7 h0 e0 e7
        by_cases h1 : s = s'
        · subst h1
          have c1 := HH.out.cell 1
          have c2 := HH.out.cell 2
          have f0 := HH.out.frozen 0
          have f1 := HH.out.frozen 1
          have f2 := HH.out.frozen 2
          simp only [List.getElem?_toArray, List.getElem?_cons_zero, List.getElem?_cons_succ] at c1 c2
          have HRu : Hid (∀ k, RphIs (w.drewN k) M s a l) := fun k => HH.out.below (below_drewN0 (Below.refl _ _) _) HH.out.lt
          have HTu : Hid (∀ k, Turns w (w.drewN k) [M]) := fun k => (Turns.refl _ _).drewN _
          go_enter Tryz.func122, Tryz.ntmps122
          go_wp2
          go_quiet ((first | (go_at_call 66; exact Calls.quiet_of_same (HO.out _)) | (go_at_call 65; exact Calls.quiet_of_same (HN.out _ _))))
          go_wp2_with fail
          skip
          have hg := goW_is (HRu.out nq) s 3 arg
          simp only [goW, if_true, if_true] at hg
          have HG := Lib.hid hg
          clear hg
          rw [HAn.out]
          refine bodyPost_ret (v := .tuple #[.bool true, .bool true]) (by first | (simp [results, Tryz.results122, go_sem, bne]; done) | (simp [results, Tryz.results122, go_sem, bne]; assumption)) rfl ?_
          exact ⟨rfl, HG.out.1, (HTu.out nq).trans HG.out.2 (fun g hg => .inl hg)⟩
        · have HNe := Lib.hid h1
          by_cases h6 : s' = 6
          · subst h6
            have hb : ((6 : Int) == s) = false := by simp; exact fun e => h1 e.symm
            have hb2 : ((6 : Int) != s) = true := by simp [bne, hb]
            clear h1
            have c1 := HH.out.cell 1
            have c2 := HH.out.cell 2
            have f0 := HH.out.frozen 0
            have f1 := HH.out.frozen 1
            have f2 := HH.out.frozen 2
            simp only [List.getElem?_toArray, List.getElem?_cons_zero, List.getElem?_cons_succ] at c1 c2
            have HRu : Hid (∀ k, RphIs (w.drewN k) M s a l) := fun k => HH.out.below (below_drewN0 (Below.refl _ _) _) HH.out.lt
            have HTu : Hid (∀ k, Turns w (w.drewN k) [M]) := fun k => (Turns.refl _ _).drewN _
            go_enter Tryz.func122, Tryz.ntmps122
            go_wp2
            go_quiet ((first | (go_at_call 66; exact Calls.quiet_of_same (HO.out _)) | (go_at_call 65; exact Calls.quiet_of_same (HN.out _ _))))
            go_wp2_with fail
            skip
            have hg := goW_is (HRu.out nq) 6 3 arg
            simp only [goW, if_neg HNe.out, if_true, if_true] at hg
            have HG := Lib.hid hg
            clear hg
            rw [HAn.out]
            refine bodyPost_ret (v := .tuple #[.bool true, .bool true]) (by first | (simp [results, Tryz.results122, go_sem, bne]; done) | (simp [results, Tryz.results122, go_sem, bne]; assumption)) rfl ?_
            exact ⟨rfl, HG.out.1, (HTu.out nq).trans HG.out.2 (fun g hg => .inl hg)⟩
          · have hb : (s' == s) = false := by simp; exact fun e => h1 e.symm
            have hb2 : (s' != s) = true := by simp [bne, hb]
            have HN6 := Lib.hid h6
            have hb6 : (s' == 6) = false := by simpa using h6
            clear h1 h6
            have c1 := HH.out.cell 1
            have c2 := HH.out.cell 2
            have f0 := HH.out.frozen 0
            have f1 := HH.out.frozen 1
            have f2 := HH.out.frozen 2
            simp only [List.getElem?_toArray, List.getElem?_cons_zero, List.getElem?_cons_succ] at c1 c2
            have HRu : Hid (∀ k, RphIs (w.drewN k) M s a l) := fun k => HH.out.below (below_drewN0 (Below.refl _ _) _) HH.out.lt
            have HTu : Hid (∀ k, Turns w (w.drewN k) [M]) := fun k => (Turns.refl _ _).drewN _
            go_enter Tryz.func122, Tryz.ntmps122
            go_wp2
            go_quiet ((first | (go_at_call 66; exact Calls.quiet_of_same (HO.out _)) | (go_at_call 65; exact Calls.quiet_of_same (HN.out _ _))))
            go_wp2_with fail
            skip
            have hg := goW_is (HRu.out nq) s' 3 arg
            simp only [goW, if_neg HNe.out, if_neg HN6.out, if_true] at hg
            have HG := Lib.hid hg
            clear hg
            rw [HAn.out]
            refine bodyPost_ret (v := .tuple #[.bool true, .bool true]) (by first | (simp [results, Tryz.results122, go_sem, bne]; done) | (simp [results, Tryz.results122, go_sem, bne]; assumption)) rfl ?_
            exact ⟨rfl, HG.out.1, (HTu.out nq).trans HG.out.2 (fun g hg => .inl hg)⟩
      · skip
        by_cases h1 : s = s'
        · subst h1
          have c1 := HH.out.cell 1
          have c2 := HH.out.cell 2
          have f0 := HH.out.frozen 0
          have f1 := HH.out.frozen 1
          have f2 := HH.out.frozen 2
          simp only [List.getElem?_toArray, List.getElem?_cons_zero, List.getElem?_cons_succ] at c1 c2
          have HRu : Hid (∀ k, RphIs (w.drewN k) M s a l) := fun k => HH.out.below (below_drewN0 (Below.refl _ _) _) HH.out.lt
          have HTu : Hid (∀ k, Turns w (w.drewN k) [M]) := fun k => (Turns.refl _ _).drewN _
          go_enter Tryz.func122, Tryz.ntmps122
          go_wp2
          go_quiet ((first | (go_at_call 66; exact Calls.quiet_of_same (HO.out _)) | (go_at_call 65; exact Calls.quiet_of_same (HN.out _ _))))
          go_wp2_with fail
          skip
          have hg := goW_is (HRu.out nq) s i arg
          simp only [goW, if_true, if_neg h3] at hg
          have HG := Lib.hid hg
          clear hg
          rw [HAn.out]
          refine bodyPost_ret (v := .tuple #[.bool true, .bool true]) (by first | (simp [results, Tryz.results122, go_sem, bne]; done) | (simp [results, Tryz.results122, go_sem, bne]; assumption)) rfl ?_
          exact ⟨rfl, HG.out.1, (HTu.out nq).trans HG.out.2 (fun g hg => .inl hg)⟩
        · have HNe := Lib.hid h1
          by_cases h6 : s' = 6
          · subst h6
            have hb : ((6 : Int) == s) = false := by simp; exact fun e => h1 e.symm
            have hb2 : ((6 : Int) != s) = true := by simp [bne, hb]
            clear h1
            have c1 := HH.out.cell 1
            have c2 := HH.out.cell 2
            have f0 := HH.out.frozen 0
            have f1 := HH.out.frozen 1
            have f2 := HH.out.frozen 2
            simp only [List.getElem?_toArray, List.getElem?_cons_zero, List.getElem?_cons_succ] at c1 c2
            have HRu : Hid (∀ k, RphIs (w.drewN k) M s a l) := fun k => HH.out.below (below_drewN0 (Below.refl _ _) _) HH.out.lt
            have HTu : Hid (∀ k, Turns w (w.drewN k) [M]) := fun k => (Turns.refl _ _).drewN _
            go_enter Tryz.func122, Tryz.ntmps122
            go_wp2
            go_quiet ((first | (go_at_call 66; exact Calls.quiet_of_same (HO.out _)) | (go_at_call 65; exact Calls.quiet_of_same (HN.out _ _))))
            go_wp2_with fail
            skip
            have hg := goW_is (HRu.out nq) 6 i arg
            simp only [goW, if_neg HNe.out, if_true, if_neg h3] at hg
            have HG := Lib.hid hg
            clear hg
            rw [HAn.out]
            refine bodyPost_ret (v := .tuple #[.bool true, .bool true]) (by first | (simp [results, Tryz.results122, go_sem, bne]; done) | (simp [results, Tryz.results122, go_sem, bne]; assumption)) rfl ?_
            exact ⟨rfl, HG.out.1, (HTu.out nq).trans HG.out.2 (fun g hg => .inl hg)⟩
          · have hb : (s' == s) = false := by simp; exact fun e => h1 e.symm
            have hb2 : (s' != s) = true := by simp [bne, hb]
            have HN6 := Lib.hid h6
            have hb6 : (s' == 6) = false := by simpa using h6
            clear h1 h6
            have c1 := HH.out.cell 1
            have c2 := HH.out.cell 2
            have f0 := HH.out.frozen 0
            have f1 := HH.out.frozen 1
            have f2 := HH.out.frozen 2
            simp only [List.getElem?_toArray, List.getElem?_cons_zero, List.getElem?_cons_succ] at c1 c2
            have HRu : Hid (∀ k, RphIs (w.drewN k) M s a l) := fun k => HH.out.below (below_drewN0 (Below.refl _ _) _) HH.out.lt
            have HTu : Hid (∀ k, Turns w (w.drewN k) [M]) := fun k => (Turns.refl _ _).drewN _
            go_enter Tryz.func122, Tryz.ntmps122
            go_wp2
            go_quiet ((first | (go_at_call 66; exact Calls.quiet_of_same (HO.out _)) | (go_at_call 65; exact Calls.quiet_of_same (HN.out _ _))))
            go_wp2_with fail
            skip
            have hg := goW_is (HRu.out nq) s' i arg
            simp only [goW, if_neg HNe.out, if_neg HN6.out, if_neg h3] at hg
            have HG := Lib.hid hg
            clear hg
            rw [HAn.out]
            refine bodyPost_ret (v := .tuple #[.bool true, .bool true]) (by first | (simp [results, Tryz.results122, go_sem, bne]; done) | (simp [results, Tryz.results122, go_sem, bne]; assumption)) rfl ?_
            exact ⟨rfl, HG.out.1, (HTu.out nq).trans HG.out.2 (fun g hg => .inl hg)⟩
end
end Go.Proofs.YtclhhdodebdmjaaGreat

namespace Go.Proofs.YtclhhdodebdmjaaGreat
open Go.RowKit Go.MapKept Go.ChangeMaps
set_option linter.unusedVariables false
set_option linter.unusedSimpArgs false
set_option maxRecDepth 100000

/-- Where the document's card's parts lie. -/
structure Rn where
  M : Nat
  P : Nat
  R : Nat
  G : Nat
  L : Nat
  Lc : Nat
  T : Nat
  K : Nat
  Q : Nat
  qA : Option Addr
  qc : Nat
  HB : Nat
  WB : Nat
  IB : Nat
  OB : Nat
  nx : Option Addr
  cnx : Nat
  wr : Option Addr
  nwr : Nat
  cwr : Nat
def Rn.ts (b : Rn) : List Nat := [b.M, b.P, b.R, b.G, b.L, b.T, b.K, b.Q, b.HB, b.WB, b.IB, b.OB] ++ (Vca.blk b.qA ++ (Vca.blk b.nx ++ Vca.blk b.wr))
/-- What of it is no part of the card's state. -/
structure Rx where
  fr : Nat
  til : Nat
  op : Int
  sh : Int
def rcRow (c : Cf) (b : Rn) (S : Ab) (x : Rx) : Array Value :=
  (c.l ++ [Value.pointer (some ⟨b.P, 0, none⟩), .pointer (some ⟨b.R, 0, none⟩), .pointer (some ⟨b.G, 0, none⟩), .pointer (some ⟨b.T, 0, none⟩), .pointer (some ⟨b.K, 0, none⟩), .pointer (some ⟨b.Q, 0, none⟩),
    .slice (some ⟨b.HB, 0, none⟩) (totalI c).toNat (totalI c).toNat, .slice (some ⟨b.WB, 0, none⟩) (totalI c).toNat (totalI c).toNat, .slice (some ⟨b.IB, 0, none⟩) (totalI c).toNat (totalI c).toNat,
    .int .u32 (S.e.up : Int), .int .i64 (S.e.count : Int), .bool S.e.rel, .bool S.e.pack, .int .i64 (x.fr : Int), .int .i64 (x.til : Int), .bool S.e.frm.isSome, .bool S.e.til.isSome, .int .i64 S.e.area,
    .slice b.nx S.next.length b.cnx, .int .i64 (S.e.head : Int), .bool S.e.sure, .slice b.wr b.nwr b.cwr, .slice (some ⟨b.OB, 0, none⟩) (totalI c).toNat (totalI c).toNat, .int .i64 x.op, .int .i64 x.sh]).toArray
/-- The writes in the document's cache. -/
structure RqIs (w : World) (Q : Nat) (qA : Option Addr) (qc most : Nat) (g : Int) (items : List Vca.It) (F : List Nat) : Prop where
  row : Row w Q 230 #[.int .i64 most, .slice qA items.length qc, .int .i64 g]
  own : w.ownsRow 0 240 4 (.slice qA items.length qc) items.length (Vca.itsV items)
  dat : ∀ x ∈ items, Dat w F x.d x.l
/-- What lasted before of a loose one: any bytes. -/
def OldOk (w : World) (F : List Nat) (v : Value) : Prop := ∃ n xs, w.ownsRow 0 53 1 v n xs ∧ ∀ g, v.ownBlock = some g → g ∈ F
structure RcIs (w : World) (b : Rn) (T F : List Nat) (c : Cf) (S : Ab) : Prop where
  rM : ∃ x : Rx, Row w b.M 67 (rcRow c b S x) ∧ (∀ n, S.e.frm = some n → x.fr = n) ∧ (∀ n, S.e.til = some n → x.til = n) ∧ x.fr < 4294967296 ∧ x.til < 4294967296
  ph : RphIs w b.P S.s S.addr S.left
  rg : ∃ V', Row w b.R 139 (regRow V') ∧ (∀ i, i ≠ 34 → V' i = S.V i) ∧ V' 34 < 256
  gd : Grd.RHeld w 0 b.G b.L b.Lc S.G
  tb : RtIs w b.T c S.set S.now
  kk : RrIs w b.K c.rpa S.K
  q : ∃ items, RqIs w b.Q b.qA b.qc c.cache.toNat S.qg items F ∧ items.map kxOf = S.q
  hb : ∃ (dv : Nat → Value) (has' : Nat → Option (List Nat)), Row w b.HB 53 ((List.range (totalI c).toNat).map dv).toArray ∧ ∀ p, p < (totalI c).toNat → HasOk w F c (dv p) (has' p) ∧ (has' p).getD (List.replicate c.sector.toNat 0) = durL c S p
  wb : ∃ dv : Nat → Value, Row w b.WB 53 ((List.range (totalI c).toNat).map dv).toArray ∧ ∀ p, p < (totalI c).toNat → HasOk w F c (dv p) (S.was p)
  ib : Row w b.IB 4 ((List.range (totalI c).toNat).map fun p => Value.bool (S.was p).isSome).toArray
  ob : ∃ dv : Nat → Value, Row w b.OB 54 ((List.range (totalI c).toNat).map dv).toArray ∧ ∀ p, p < (totalI c).toNat → OldOk w F (dv p)
  nx : w.ownsRow 0 3 1 (.slice b.nx S.next.length b.cnx) S.next.length (intsV .i64 S.next)
  wr : ∃ xs, w.ownsRow 0 166 3 (.slice b.wr b.nwr b.cwr) b.nwr xs
  inT : ∀ k ∈ b.ts, k ∈ T
  TF : ∀ k ∈ T, k ∉ F
  Tlt : ∀ k ∈ T, k < w.heap.size
  Flt : ∀ k ∈ F, k < w.heap.size
  hw : b.HB ≠ b.WB
theorem slice_blk {A : Option Addr} {n cc k : Nat} (hk : (Value.slice A n cc).ownBlock = some k) : k ∈ Vca.blk A := by
  cases A with
  | none => simp [Value.ownBlock] at hk
  | some a => simp [Value.ownBlock] at hk; simp [Vca.blk]; exact hk.symm
theorem OldOk.turns {w w' : World} {F U : List Nat} {v : Value} (h : OldOk w F v) (ht : Turns w w' U) (hF : ∀ k ∈ U, k ∉ F) : OldOk w' F v := by
  obtain ⟨n, xs, h1, h2⟩ := h
  exact ⟨n, xs, ht.own h1 (fun g hg hm => hF g hm (h2 g hg)), h2⟩
theorem RqIs.turns {w w' : World} {Q : Nat} {qA : Option Addr} {qc most : Nat} {g : Int} {items : List Vca.It} {F U : List Nat} (h : RqIs w Q qA qc most g items F) (ht : Turns w w' U) (h1 : Q ∉ U) (h2 : ∀ k ∈ Vca.blk qA, k ∉ U) (hF : ∀ k ∈ U, k ∉ F) : RqIs w' Q qA qc most g items F :=
  ⟨ht.row h.row h1, ht.own h.own (fun k hk => h2 k (slice_blk hk)), fun x hx => (h.dat x hx).turns ht hF⟩
section
variable {w w' : World} {b : Rn} {T F : List Nat} {c : Cf} {S : Ab}
/-- The card stands where none of its blocks is turned. -/
theorem RcIs.turns (h : RcIs w b T F c S) {U : List Nat} (ht : Turns w w' U) (hU : ∀ k ∈ U, k ∉ T ∧ k ∉ F) : RcIs w' b T F c S := by
  have hin : ∀ k, k ∈ b.ts → k ∉ U := fun k hk hm => (hU k hm).1 (h.inT k hk)
  have hF : ∀ k ∈ U, k ∉ F := fun k hk => (hU k hk).2
  obtain ⟨x, hx1, hx2⟩ := h.rM
  obtain ⟨V', hV, hV2⟩ := h.rg
  obtain ⟨la, a, r, nc, y, ka, kr, ky, hk1, hk2⟩ := h.kk
  obtain ⟨items, hq, he⟩ := h.q
  obtain ⟨dv, has', hd, hh⟩ := h.hb
  obtain ⟨dw, hdw, hhw⟩ := h.wb
  obtain ⟨dO, hdo, hho⟩ := h.ob
  obtain ⟨xs, hx⟩ := h.wr
  exact ⟨⟨x, ht.row hx1 (hin _ (by simp [Rn.ts])), hx2⟩, ht.row h.ph (hin _ (by simp [Rn.ts])), ⟨V', ht.row hV (hin _ (by simp [Rn.ts])), hV2⟩, h.gd.turns ht (hin _ (by simp [Rn.ts])) (hin _ (by simp [Rn.ts])), ht.row h.tb (hin _ (by simp [Rn.ts])), ⟨la, a, r, nc, y, ka, kr, ky, ht.row hk1 (hin _ (by simp [Rn.ts])), hk2⟩,
    ⟨items, hq.turns ht (hin _ (by simp [Rn.ts])) (fun k hk => hin k (by simp [Rn.ts, hk])) hF, he⟩, ⟨dv, has', ht.row hd (hin _ (by simp [Rn.ts])), fun p hp => ⟨(hh p hp).1.turns ht hF, (hh p hp).2⟩⟩, ⟨dw, ht.row hdw (hin _ (by simp [Rn.ts])), fun p hp => (hhw p hp).turns ht hF⟩, ht.row h.ib (hin _ (by simp [Rn.ts])),
    ⟨dO, ht.row hdo (hin _ (by simp [Rn.ts])), fun p hp => (hho p hp).turns ht hF⟩, ht.own h.nx (fun k hk => hin _ (by have := slice_blk hk; simp [Rn.ts, this])), ⟨xs, ht.own hx (fun k hk => hin _ (by have := slice_blk hk; simp [Rn.ts, this]))⟩, h.inT, h.TF, fun k hk => Nat.lt_of_lt_of_le (h.Tlt k hk) ht.size, fun k hk => Nat.lt_of_lt_of_le (h.Flt k hk) ht.size, h.hw⟩
theorem RcIs.below (h : RcIs w b T F c S) (hb : Below w.heap.size w w') : RcIs w' b T F c S := h.turns (Turns.of_below hb []) (by simp)
theorem RcIs.drewN (h : RcIs w b T F c S) (n : Nat) : RcIs (w.drewN n) b T F c S := h.turns ((Turns.refl w []).drewN n) (by simp)
theorem RcIs.drew (h : RcIs w b T F c S) : RcIs w.drew b T F c S := h.turns (Turns.refl w []).drew (by simp)
/- All the parts, where some rows are turned. -/
/-- The state's phase was turned. -/
theorem RcIs.phase (h : RcIs w b T F c S) {s : Int} {a' : Nat} {l : Int} (ht : Turns w w' [b.P]) (hr : RphIs w' b.P s a' l) : RcIs w' b T F c { S with s := s, addr := a', left := l } := by
  have hU := RowsOf.one h.ph
  have hF : ∀ k ∈ [b.P], k ∉ F := fun k hk => h.TF k (h.inT k (by obtain rfl := List.mem_singleton.1 hk; simp [Rn.ts]))
  obtain ⟨x0, hx1, hx2, hx3, hx4, hx5⟩ := h.rM
  obtain ⟨V', hV, hV2⟩ := h.rg
  obtain ⟨la, a, r, nc, y, ka, kr, ky, hk1, hk2⟩ := h.kk
  obtain ⟨items, hq, he⟩ := h.q
  obtain ⟨dv, has', hd, hh⟩ := h.hb
  obtain ⟨dw, hdw, hhw⟩ := h.wb
  obtain ⟨dO, hdo, hho⟩ := h.ob
  obtain ⟨xs, hx⟩ := h.wr
  exact ⟨⟨x0, hU.row ht hx1 (by decide), hx2, hx3, hx4, hx5⟩, hr, ⟨V', hU.row ht hV (by decide), hV2⟩, (h.gd.turns ht (hU.not h.gd.row (by decide)) (hU.notOwn h.gd.own (by decide) _ rfl)), hU.row ht h.tb (by decide), ⟨la, a, r, nc, y, ka, kr, ky, hU.row ht hk1 (by decide), hk2⟩, (⟨items, ⟨hU.row ht hq.row (by decide), hU.own ht hq.own (by decide), fun x hx => (hq.dat x hx).turns ht hF⟩, he⟩), (⟨dv, has', hU.row ht hd (by decide), fun p hp => ⟨(hh p hp).1.turns ht hF, (hh p hp).2⟩⟩), (⟨dw, hU.row ht hdw (by decide), fun p hp => (hhw p hp).turns ht hF⟩), hU.row ht h.ib (by decide), (⟨dO, hU.row ht hdo (by decide), fun p hp => (hho p hp).turns ht hF⟩), hU.own ht h.nx (by decide), (⟨xs, hU.own ht hx (by decide)⟩), h.inT, h.TF, fun k hk => Nat.lt_of_lt_of_le (h.Tlt k hk) ht.size, fun k hk => Nat.lt_of_lt_of_le (h.Flt k hk) ht.size, h.hw⟩
/-- The card's own cells were turned; it waits for other sectors, or none; it is about other writes, or none. -/
theorem RcIs.own (h : RcIs w b T F c S) {e' : Es} {nx' : List Nat} {A1 A2 : Option Addr} {c1 n2 c2 : Nat} {x : Rx} {T' : List Nat} {xs' : List Value} (ht : Turns w w' [b.M]) (hr : Row w' b.M 67 (rcRow c { b with nx := A1, cnx := c1, wr := A2, nwr := n2, cwr := c2 } { S with e := e', next := nx' } x))
    (h1 : ∀ n, e'.frm = some n → x.fr = n) (h2 : ∀ n, e'.til = some n → x.til = n) (h3 : x.fr < 4294967296) (h4 : x.til < 4294967296) (hnx : w'.ownsRow 0 3 1 (.slice A1 nx'.length c1) nx'.length (intsV .i64 nx')) (hwr : w'.ownsRow 0 166 3 (.slice A2 n2 c2) n2 xs')
    (hT : ∀ k ∈ T, k ∈ T') (hA1 : ∀ k ∈ Vca.blk A1, k ∈ T') (hA2 : ∀ k ∈ Vca.blk A2, k ∈ T') (hTF : ∀ k ∈ T', k ∉ F) (hTl : ∀ k ∈ T', k < w'.heap.size) : RcIs w' { b with nx := A1, cnx := c1, wr := A2, nwr := n2, cwr := c2 } T' F c { S with e := e', next := nx' } := by
  have hU : RowsOf w [b.M] [67] := by obtain ⟨x, hx, _⟩ := h.rM; exact RowsOf.one hx
  have hF : ∀ k ∈ [b.M], k ∉ F := fun k hk => h.TF k (h.inT k (by obtain rfl := List.mem_singleton.1 hk; simp [Rn.ts]))
  obtain ⟨x0, hx1, hx2, hx3, hx4, hx5⟩ := h.rM
  obtain ⟨V', hV, hV2⟩ := h.rg
  obtain ⟨la, a, r, nc, y, ka, kr, ky, hk1, hk2⟩ := h.kk
  obtain ⟨items, hq, he⟩ := h.q
  obtain ⟨dv, has', hd, hh⟩ := h.hb
  obtain ⟨dw, hdw, hhw⟩ := h.wb
  obtain ⟨dO, hdo, hho⟩ := h.ob
  obtain ⟨xs, hx⟩ := h.wr
  refine ⟨⟨x, hr, h1, h2, h3, h4⟩, hU.row ht h.ph (by decide), ⟨V', hU.row ht hV (by decide), hV2⟩, (h.gd.turns ht (hU.not h.gd.row (by decide)) (hU.notOwn h.gd.own (by decide) _ rfl)), hU.row ht h.tb (by decide), ⟨la, a, r, nc, y, ka, kr, ky, hU.row ht hk1 (by decide), hk2⟩, (⟨items, ⟨hU.row ht hq.row (by decide), hU.own ht hq.own (by decide), fun x hx => (hq.dat x hx).turns ht hF⟩, he⟩), (⟨dv, has', hU.row ht hd (by decide), fun p hp => ⟨(hh p hp).1.turns ht hF, (hh p hp).2⟩⟩), (⟨dw, hU.row ht hdw (by decide), fun p hp => (hhw p hp).turns ht hF⟩), hU.row ht h.ib (by decide), (⟨dO, hU.row ht hdo (by decide), fun p hp => (hho p hp).turns ht hF⟩), hnx, ⟨xs', hwr⟩, fun k hk => ?_, hTF, hTl, fun k hk => Nat.lt_of_lt_of_le (h.Flt k hk) ht.size, h.hw⟩
  simp only [Rn.ts, List.mem_append] at hk
  rcases hk with hk | hk | hk | hk
  · exact hT k (h.inT k (by simp only [Rn.ts, List.mem_append]; exact .inl hk))
  · exact hT k (h.inT k (by simp only [Rn.ts, List.mem_append]; exact .inr (.inl hk)))
  · exact hA1 k hk
  · exact hA2 k hk
end
end Go.Proofs.YtclhhdodebdmjaaGreat

namespace Go.Proofs.YtclhhdodebdmjaaGreat
open Go.RowKit
set_option linter.unusedVariables false
set_option linter.unusedSimpArgs false

/-- A make: the operation's number, its slot, what it yields at a block, what it lays. -/
structure Mk where
  i : Nat
  d : Nat
  f : Nat → Value
  o : Obj
def putsM (a : Act) (mks : List Mk) (g : Nat → Nat) : Act := mks.foldl (fun a m => a.put (some m.d) (m.f (g m.i))) a
/-- What stands behind the makes. -/
structure MFacts (w0 w : World) (mks : List Mk) (g : Nat → Nat) : Prop where
  at' : ∀ m ∈ mks, w0.heap.size ≤ g m.i ∧ w.heap[g m.i]? = some m.o
  ne : ∀ m ∈ mks, ∀ m' ∈ mks, m.i ≠ m'.i → g m.i ≠ g m'.i
  below : Below w0.heap.size w0 w
/-- Each of the makes makes. -/
structure MksOk (P : Program) (l : List Oper) (n : Nat) (a1 : Act) (mks : List Mk) : Prop where
  nd : mks.Pairwise fun m m' => m.d ≠ m'.d
  inb : ∀ m ∈ mks, m.d < a1.tmps.size
  ex : ∀ m ∈ mks, ∃ o, l[m.i]? = some o ∧ m.i < n ∧ o.dst = some m.d ∧ o.guard = none ∧ ∀ (a : Act) w, (∀ t, (∀ m' ∈ mks, t ≠ m'.d) → a.tmps[t]? = a1.tmps[t]?) → (execOp a.eval o).run P w = .ok (.value (m.f w.heap.size)) (w.alloc m.o)
theorem listAll_getM : ∀ (s : List Nat) (l : Array Bool) (j : Nat), (listAll l s)[j]? = if j ∈ s then (l[j]?).map (fun _ => true) else l[j]?
  | [], l, j => by simp [listAll]
  | i :: s, l, j => by
    have := listAll_getM s (l.setIfInBounds i true) j
    unfold listAll at this ⊢
    rw [List.foldl_cons, this, Array.getElem?_setIfInBounds]
    by_cases h : i = j
    · subst h
      by_cases hb : i < l.size
      · simp [hb]
      · simp [hb, Array.getElem?_eq_none (by omega : l.size ≤ i)]
    · by_cases h2 : j ∈ s
      · simp [h, h2]
      · simp [h, h2, Ne.symm h]
/-- f holds of all lists that leave out some of these. -/
def subsB (f : List Nat → Bool) : List Nat → List Nat → Bool
  | [], acc => f acc
  | i :: is, acc => subsB f is acc && subsB f is (acc ++ [i])
theorem subsB_spec (f : List Nat → Bool) : ∀ (is acc : List Nat), subsB f is acc = true → ∀ p : Nat → Bool, f (acc ++ is.filter p) = true
  | [], acc, h, p => by simpa [subsB] using h
  | i :: is, acc, h, p => by
    simp only [subsB, Bool.and_eq_true] at h
    by_cases hp : p i = true
    · have := subsB_spec f is (acc ++ [i]) h.2 p
      rw [List.filter_cons_of_pos hp]
      simpa using this
    · have := subsB_spec f is acc h.1 p
      rw [List.filter_cons_of_neg hp]
      exact this
def makesB (ops : Array Oper) (listed : Array Bool) (idx : List Nat) : Bool :=
  subsB (fun d => (idx.filter fun i => !d.contains i).isEmpty || (Region.ready .any ops (listAll listed d)) == idx.filter fun i => !d.contains i) idx []
theorem makesB_spec {ops : Array Oper} {listed : Array Bool} {idx : List Nat} (h : makesB ops listed idx = true) (p : Nat → Bool) (hp : ∃ i ∈ idx, p i = false) : Region.ready .any ops (listAll listed (idx.filter p)) = idx.filter fun i => !p i := by
  have := subsB_spec _ idx [] h p
  rw [List.nil_append] at this
  have e : (idx.filter fun i => !(idx.filter p).contains i) = idx.filter fun i => !p i := by
    apply List.filter_congr
    intro i hi
    simp only [List.contains_eq_mem, List.mem_filter, hi, true_and]
    cases p i <;> simp
  simp only [e, Bool.or_eq_true, beq_iff_eq] at this
  rcases this with h1 | h1
  · obtain ⟨i, hi, hpi⟩ := hp
    rw [List.isEmpty_iff] at h1
    have : i ∈ idx.filter fun i => !p i := List.mem_filter.2 ⟨hi, by simp [hpi]⟩
    rw [h1] at this; cases this
  · exact h1
theorem putsM_other (g : Nat → Nat) : ∀ (mks : List Mk) (a : Act) (t : Nat), (∀ m ∈ mks, t ≠ m.d) → (putsM a mks g).tmps[t]? = a.tmps[t]?
  | [], a, t, _ => rfl
  | m :: mks, a, t, h => by
    have := putsM_other g mks (a.put (some m.d) (m.f (g m.i))) t (fun m' hm' => h m' (by simp [hm']))
    unfold putsM at this ⊢
    rw [List.foldl_cons, this]
    simp [Act.put, Array.getElem?_setIfInBounds, Ne.symm (h m (by simp))]
theorem putsM_same (g : Nat → Nat) : ∀ (mks : List Mk) (a : Act), (mks.Pairwise fun m m' => m.d ≠ m'.d) → (∀ m ∈ mks, m.d < a.tmps.size) → ∀ m ∈ mks, (putsM a mks g).tmps[m.d]? = some (m.f (g m.i))
  | [], a, _, _, m, h => by cases h
  | m0 :: mks, a, hp, hb, m, h => by
    obtain ⟨h1, h2⟩ := List.pairwise_cons.1 hp
    rcases List.mem_cons.1 h with rfl | h
    · have := putsM_other g mks (a.put (some m.d) (m.f (g m.i))) m.d (fun m' hm' => h1 m' hm')
      unfold putsM at this ⊢
      rw [List.foldl_cons, this]
      simp [Act.put, Array.getElem?_setIfInBounds, hb m (by simp)]
    · have := putsM_same g mks (a.put (some m0.d) (m0.f (g m0.i))) h2 (fun m' hm' => by simpa [Act.put] using hb m' (by simp [hm'])) m h
      unfold putsM at this ⊢
      rw [List.foldl_cons]; exact this
theorem putsM_size (g : Nat → Nat) : ∀ (mks : List Mk) (a : Act), (putsM a mks g).tmps.size = a.tmps.size ∧ (putsM a mks g).defers = a.defers
  | [], a => ⟨rfl, rfl⟩
  | m :: mks, a => by
    have := putsM_size g mks (a.put (some m.d) (m.f (g m.i)))
    unfold putsM at this ⊢
    rw [List.foldl_cons]
    exact ⟨by rw [this.1]; simp [Act.put], by rw [this.2]; simp [Act.put]⟩
/-- Amid the makes: those with p are made. -/
structure MInv (w0 : World) (a1 : Act) (mks : List Mk) (p : Nat → Bool) (g : Nat → Nat) (a : Act) (w : World) : Prop where
  other : ∀ t, (∀ m ∈ mks, t ≠ m.d) → a.tmps[t]? = a1.tmps[t]?
  size : a.tmps.size = a1.tmps.size
  defers : a.defers = a1.defers
  at' : ∀ m ∈ mks, p m.i = true → a.tmps[m.d]? = some (m.f (g m.i)) ∧ w0.heap.size ≤ g m.i ∧ w.heap[g m.i]? = some m.o
  ne : ∀ m ∈ mks, ∀ m' ∈ mks, p m.i = true → p m'.i = true → m.i ≠ m'.i → g m.i ≠ g m'.i
  below : Below w0.heap.size w0 w
theorem pair_ne {α : Type} {R : α → α → Prop} (hs : ∀ x y, R x y → R y x) : ∀ {l : List α}, l.Pairwise R → ∀ x ∈ l, ∀ y ∈ l, x ≠ y → R x y
  | [], _, x, hx, _, _, _ => by cases hx
  | z :: l, h, x, hx, y, hy, hne => by
    obtain ⟨h1, h2⟩ := List.pairwise_cons.1 h
    rcases List.mem_cons.1 hx with ex | hx'
    · rcases List.mem_cons.1 hy with ey | hy'
      · exact absurd (ex.trans ey.symm) hne
      · rw [ex]; exact h1 y hy'
    · rcases List.mem_cons.1 hy with ey | hy'
      · rw [ey]; exact hs _ _ (h1 x hx')
      · exact pair_ne hs h2 x hx' y hy' hne
section
variable {P : Program} {l : List Oper} {S : World → Prop} {Q : Exit → Act → World → Prop}
theorem anyH_makes (n : Nat) (mks : List Mk) (w0 : World) (a1 : Act) (listed0 : Array Bool) (N : Act → World → Prop) (fuel : Nat) (hok : MksOk P l n a1 mks) (hdi : mks.Pairwise fun m m' => m.i ≠ m'.i) (hck : makesB (l.take n).toArray listed0 (mks.map Mk.i) = true) (hal : ∀ u o, S u → S (u.alloc o))
    (hend : ∀ g w, S w → MFacts w0 w mks g → wpAnyH P .any (l.take n).toArray (outQ Q N) S fuel (listAll listed0 (mks.map Mk.i)) (putsM a1 mks g) w) :
    ∀ (k : Nat) (p : Nat → Bool) (g : Nat → Nat) (a : Act) (w : World), ((mks.map Mk.i).filter fun i => !p i).length = k → MInv w0 a1 mks p g a w → S w → wpAnyH P .any (l.take n).toArray (outQ Q N) S (fuel + k) (listAll listed0 ((mks.map Mk.i).filter p)) a w
  | 0, p, g, a, w, hk, hi, hS => by
    have hall : ∀ m ∈ mks, p m.i = true := fun m hm => by
      have h0 := List.length_eq_zero_iff.1 hk
      cases hp : p m.i with
      | true => rfl
      | false =>
        have : m.i ∈ (mks.map Mk.i).filter fun i => !p i := List.mem_filter.2 ⟨List.mem_map.2 ⟨m, hm, rfl⟩, by simp [hp]⟩
        rw [h0] at this; cases this
    have e1 : (mks.map Mk.i).filter p = mks.map Mk.i := List.filter_eq_self.2 fun i hi => by
      obtain ⟨m, hm, rfl⟩ := List.mem_map.1 hi
      exact hall m hm
    have hsz := putsM_size g mks a1
    have e2 : a = putsM a1 mks g := by
      have e3 : a.tmps = (putsM a1 mks g).tmps := by
        apply Array.ext_getElem?
        intro t
        by_cases ht : ∃ m ∈ mks, t = m.d
        · obtain ⟨m, hm, rfl⟩ := ht
          rw [putsM_same g mks a1 hok.nd hok.inb m hm, (hi.at' m hm (hall m hm)).1]
        · have ht' : ∀ m ∈ mks, t ≠ m.d := fun m hm e => ht ⟨m, hm, e⟩
          rw [putsM_other g mks a1 t ht', hi.other t ht']
      have e4 : a.defers = (putsM a1 mks g).defers := by rw [hsz.2]; exact hi.defers
      obtain ⟨at1, ad⟩ := a
      simp only at e3 e4
      subst e3; subst e4; rfl
    rw [e1, e2]
    exact hend g w hS ⟨fun m hm => (hi.at' m hm (hall m hm)).2, fun m hm m' hm' => hi.ne m hm m' hm' (hall m hm) (hall m' hm'), hi.below⟩
  | k + 1, p, g, a, w, hk, hi, hS => by
    have hex : ∃ i ∈ mks.map Mk.i, p i = false := by
      obtain ⟨i, hi⟩ := List.exists_mem_of_length_pos (l := (mks.map Mk.i).filter fun i => !p i) (by omega)
      obtain ⟨h1, h2⟩ := List.mem_filter.1 hi
      exact ⟨i, h1, by simpa using h2⟩
    have hr := makesB_spec hck p hex
    refine ⟨fun h0 => ?_, fun i hii => ?_⟩
    · rw [hr] at h0
      rw [h0] at hk; simp at hk
    · rw [hr] at hii
      obtain ⟨him, hip⟩ := List.mem_filter.1 hii
      obtain ⟨m, hm, rfl⟩ := List.mem_map.1 him
      have hpm : p m.i = false := by simpa using hip
      obtain ⟨o, ho, hin, hdst, hgd, hex⟩ := hok.ex m hm
      have ho' : (l.take n).toArray[m.i]? = some o := by simp [List.getElem?_take, hin, ho]
      have hrun := hex a w hi.other
      unfold wpOp
      simp only [ho']
      rw [if_pos (by unfold Region.wanted; rw [hgd])]
      left
      unfold Oper.wp
      rw [hrun, Oper.upon_value, hdst]
      refine ⟨hal _ _ hS, ?_⟩
      have hinj : ∀ m' ∈ mks, m'.i = m.i → m' = m := fun m' hm' e => by
        rcases Classical.em (m' = m) with h | h
        · exact h
        · exact absurd e (pair_ne (fun x y h => Ne.symm h) hdi m' hm' m hm h)
      have hdne : ∀ m' ∈ mks, m' ≠ m → m'.d ≠ m.d := fun m' hm' hne => pair_ne (fun x y h => Ne.symm h) hok.nd m' hm' m hm hne
      have hL : (listAll listed0 ((mks.map Mk.i).filter p)).setIfInBounds m.i true = listAll listed0 ((mks.map Mk.i).filter fun j => p j || j == m.i) := by
        apply Array.ext_getElem?
        intro j
        rw [Array.getElem?_setIfInBounds, listAll_getM, listAll_getM]
        have hsz : (listAll listed0 ((mks.map Mk.i).filter p)).size = listed0.size := by
          have : ∀ (s : List Nat) (l : Array Bool), (listAll l s).size = l.size := fun s => by
            induction s with
            | nil => intro l; rfl
            | cons i s ih => intro l; unfold listAll at ih ⊢; rw [List.foldl_cons, ih]; simp
          exact this _ _
        rw [hsz]
        by_cases e : m.i = j
        · subst e
          rw [if_pos rfl, if_pos (List.mem_filter.2 ⟨him, by simp⟩)]
          by_cases hb : m.i < listed0.size
          · simp [hb]
          · simp [hb, Array.getElem?_eq_none (by omega : listed0.size ≤ m.i)]
        · rw [if_neg e]
          have : (j ∈ (mks.map Mk.i).filter p) ↔ (j ∈ (mks.map Mk.i).filter fun j => p j || j == m.i) := by
            rw [List.mem_filter, List.mem_filter]
            simp [Ne.symm e]
          by_cases hj : j ∈ (mks.map Mk.i).filter p
          · rw [if_pos hj, if_pos (this.1 hj)]
          · rw [if_neg hj, if_neg (fun h => hj (this.2 h))]
      rw [hL]
      have hsw := hi.below.size
      refine anyH_makes n mks w0 a1 listed0 N fuel hok hdi hck hal hend k (fun j => p j || j == m.i) (fun j => if j = m.i then w.heap.size else g j) _ _ ?_ ?_ (hal _ _ hS)
      · have h2 : ∀ (L : List Nat), L.Pairwise (· ≠ ·) → m.i ∈ L → (L.filter fun i => !p i).length = (L.filter fun i => !(p i || i == m.i)).length + 1 := by
          intro L
          induction L with
          | nil => intro _ h; cases h
          | cons x L ih =>
            intro hL hx
            obtain ⟨h1, h2⟩ := List.pairwise_cons.1 hL
            by_cases e : x = m.i
            · subst e
              rw [List.filter_cons_of_pos (by simp [hpm]), List.filter_cons_of_neg (by simp), List.length_cons]
              congr 2
              apply List.filter_congr
              intro y hy
              have : y ≠ m.i := Ne.symm (h1 y hy)
              simp [this]
            · have hx' : m.i ∈ L := by
                rcases List.mem_cons.1 hx with h | h
                · exact absurd h.symm e
                · exact h
              have := ih h2 hx'
              by_cases hpx : p x = true
              · rw [List.filter_cons_of_neg (by simp [hpx]), List.filter_cons_of_neg (by simp [hpx])]; exact this
              · rw [List.filter_cons_of_pos (by simp [hpx]), List.filter_cons_of_pos (by simp [hpx, e]), List.length_cons, List.length_cons, this]
        have h3 := h2 (mks.map Mk.i) (List.pairwise_map.2 hdi) him
        omega
      · refine ⟨fun t ht => ?_, ?_, ?_, fun m' hm' hp' => ?_, fun m' hm' m2 hm2 hp' hp2 hne => ?_, hi.below.alloc hi.below.size _⟩
        · rw [← hi.other t ht]
          simp [Act.put, Array.getElem?_setIfInBounds, Ne.symm (ht m hm)]
        · simpa [Act.put] using hi.size
        · simpa [Act.put] using hi.defers
        · by_cases e : m'.i = m.i
          · obtain rfl := hinj m' hm' e
            rw [if_pos rfl]
            refine ⟨?_, hsw, heap_alloc_new _ _⟩
            have hb := hok.inb m' hm'
            rw [← hi.size] at hb
            simp [Act.put, Array.getElem?_setIfInBounds, hb]
          · rw [if_neg e]
            have hpp : p m'.i = true := by simpa [e] using hp'
            obtain ⟨h1, h2, h3⟩ := hi.at' m' hm' hpp
            refine ⟨?_, h2, ?_⟩
            · rw [← h1]
              have := hdne m' hm' (fun e2 => e (by rw [e2]))
              simp [Act.put, Array.getElem?_setIfInBounds, Ne.symm this]
            · rw [Below.heap_alloc w _ _ (Array.getElem?_eq_some_iff.1 h3).1]; exact h3
        · by_cases e : m'.i = m.i
          · rw [if_pos e, if_neg (fun e2 => hne (e.trans e2.symm))]
            have hpp : p m2.i = true := by simpa [show m2.i ≠ m.i from fun e2 => hne (e.trans e2.symm)] using hp2
            have := (Array.getElem?_eq_some_iff.1 (hi.at' m2 hm2 hpp).2.2).1
            omega
          · rw [if_neg e]
            have hpp : p m'.i = true := by simpa [e] using hp'
            by_cases e2 : m2.i = m.i
            · rw [if_pos e2]
              have := (Array.getElem?_eq_some_iff.1 (hi.at' m' hm' hpp).2.2).1
              omega
            · rw [if_neg e2]
              exact hi.ne m' hm' m2 hm2 hpp (by simpa [e2] using hp2) hne
def makesAllB (l : List Oper) (rs idx ts : List Nat) : Bool :=
  lastB l && Region.noSelect (l.take (l.length - 1)).toArray && takesB (l.take (l.length - 1)).toArray (Array.replicate (l.length - 1) false) rs && makesB (l.take (l.length - 1)).toArray (listAll (Array.replicate (l.length - 1) false) rs) idx &&
  chainB (l.take (l.length - 1)).toArray (listAll (listAll (Array.replicate (l.length - 1) false) rs) idx) ts.dropLast &&
  (decide (ts.getLast? = some (l.length - 1)) && decide (rs.length + (ts.dropLast.length + idx.length) = l.length - 1) && decide (0 < l.length)) &&
  rs.all (fun i => decide (i < l.length - 1) && atB l i fun o => yieldsOnly o && gOk (l.length - 1) o) && ts.dropLast.all (fun i => decide (i < l.length - 1) && atB l i fun o => gOk (l.length - 1) o) && decide (idx.Pairwise (· ≠ ·))
/-- **A REGION THAT DRAWS ITS ORDER**: its reads (rs); its makes (idx), in whatever order; the others (ts). -/
theorem region_makes {id : Nat} {a : Act} {w : World} (B : List Nat) (rs idx ts : List Nat) (hm : P.follows .mixedOrders = true) (hB : makesAllB l rs idx ts = true) (hQ : ∀ c (a : Act) k v w, Q (.panic c) { a with tmps := a.tmps.setIfInBounds k v } w → Q (.panic c) a w)
    (h : wpQuiet P l.toArray (fun u => ∃ t : Kept w B, u = t.u) (fun a' => ∃ mks, mks.map Mk.i = idx ∧ MksOk P l (l.length - 1) a' mks ∧ ∀ g u, MFacts w.drew u mks g → wpSeqS P l.toArray (fun u => Turns w u B) Q (ts.filterMap (l[·]?)) (putsM a' mks g) u) (rs.filterMap (l[·]?)) a) :
    (Code.region id l.toArray true).wp P Q a w := by
  have e : (fun u => ∃ t : Kept w B, u = t.u) = fun u => Turns w u B := by
    funext u; apply propext
    exact ⟨fun ⟨t, e⟩ => by subst e; exact t.h, fun h => ⟨⟨u, h⟩, rfl⟩⟩
  rw [e] at h
  simp only [makesAllB, Bool.and_eq_true, decide_eq_true_eq, List.all_eq_true] at hB
  obtain ⟨⟨⟨⟨⟨⟨⟨⟨h1, h2⟩, h3⟩, hmk⟩, h4⟩, ⟨⟨h5, h6⟩, h7⟩⟩, h8⟩, h9⟩, hnd⟩ := hB
  obtain ⟨n, hn⟩ : ∃ n, l.length = n + 1 := ⟨l.length - 1, by omega⟩
  rw [hn, Nat.add_sub_cancel] at h2 h3 h4 h5 h6 h8 h9 hmk
  rw [hn, Nat.add_sub_cancel] at h
  obtain ⟨last, hlast⟩ : ∃ last, l[n]? = some last := ⟨_, List.getElem?_eq_getElem (by omega)⟩
  have hts : ts = ts.dropLast ++ [n] := by
    obtain ⟨ys, hy⟩ := List.getLast?_eq_some_iff.1 h5
    rw [hy]; simp
  rw [hts, List.filterMap_append, List.filterMap_cons, hlast, List.filterMap_nil] at h
  refine wp_region_any hm ?_
  have hsz : l.toArray.size = n + 1 := by simpa using hn
  rw [hsz, show Array.replicate (n + 1) false = (Array.replicate n false).push false from Array.replicate_succ]
  refine any_last n hn hlast h1 n _ a _ (by simp) (fun j oj _ hj hlj => by simp [Array.getD, hj] at hlj) ?_
  have h10 := anyH_takes (P := P) (S := fun u => Turns w u B) (Q := Q) (N := fun a w => wpList P l.toArray Q [last] a w) n h2 rs (ts.dropLast.length + idx.length) (Array.replicate n false) a w.drew h3 (fun i hi => by
    obtain ⟨hin, hat⟩ := h8 i hi
    obtain ⟨o, ho, hy⟩ := atB_spec hat
    simp only [Bool.and_eq_true] at hy
    exact ⟨o, ho, hin, hy.1, hy.2⟩) (Turns.refl w B).drew (fun c a d v w h => by cases d with | none => exact h | some k => exact hQ c a k v w h) (quiet_imp (fun a' h' => by
      obtain ⟨mks, rfl, hok, hgo⟩ := h'
      have h11 := anyH_makes (P := P) (S := fun u => Turns w u B) (Q := Q) n mks w.drew a' (listAll (Array.replicate n false) rs) (fun a w => wpList P l.toArray Q [last] a w) ts.dropLast.length hok (List.pairwise_map.1 hnd) hmk (fun u o hu => hu.alloc o)
        (fun g u hS hf => anyH_chain (P := P) (S := fun u => Turns w u B) (Q := Q) n ts.dropLast _ _ u h4 (fun i hi => by
          obtain ⟨hin, hat⟩ := h9 i hi
          obtain ⟨o, ho, hy⟩ := atB_spec hat
          exact ⟨o, ho, hin, hy⟩) (hgo g u hf))
        (mks.map Mk.i).length (fun _ => false) (fun _ => 0) a' w.drew (congrArg List.length (List.filter_eq_self.2 (fun _ _ => rfl))) ⟨fun _ _ => rfl, rfl, rfl, fun _ _ h => (by cases h), fun _ _ _ _ h => (by cases h), Below.refl _ _⟩ (Turns.refl w B).drew
      have e0 : (mks.map Mk.i).filter (fun _ => false) = [] := by simp
      rw [e0] at h11
      exact h11) _ _ h)
  rw [Nat.add_comm, h6] at h10
  exact wpAny_of_held _ _ _ _ h10
theorem exec_mk {a : Act} {w w' : World} {o : Oper} {t : TypeId} {x : Nat} {v r : Value} (hop : o.op = .makeSlice t (.tmp x) (.tmp x)) (hv : a.tmps[x]? = some v) (hrun : (Instr.makeSlice t v v).run P w = .ok r w') : (execOp a.eval o).run P w = .ok (.value r) w' := by
  have e : a.eval (.tmp x) = v := by simp [Act.eval, Array.getD_eq_getD_getElem?, hv]
  simp [execOp, hop, e, hrun, Result.andThen]
end
end Go.Proofs.YtclhhdodebdmjaaGreat

namespace Go.Proofs.YtclhhdodebdmjaaGreat
open Go.RowKit Go.MapKept Go.ChangeMaps
set_option linter.unusedVariables false
set_option linter.unusedSimpArgs false
set_option maxRecDepth 100000

theorem sl_info : (Tryz.prog.info? 53).map (fun i => (i.zero, i.size, i.bytes)) = some (some (.slice none 0 0), 1, 24) := by kernel_rfl
theorem make_slices (n : Nat) (hn : n ≤ 20000) (v : World) : (Instr.makeSlice 54 (.int .i64 (n : Int)) (.int .i64 (n : Int))).run Tryz.prog v = .ok (.slice (some ⟨v.heap.size, 0, none⟩) n n) (v.alloc (.cells ((List.range n).map fun _ => Value.slice none 0 0).toArray 53)) := by
  obtain ⟨i, hi, hz0, hz1, hz2⟩ := info_parts sl_info
  rw [← made_nil]
  exact run_make_row (P := Tryz.prog) 54 53 i _ Tryz.underlying54 hi hz0 hz1 rfl .i64 .i64 n (by rw [hz2]; omega) (by omega) v
set_option maxHeartbeats 4000000 in
theorem New_ok (c : Cf) (h : OkC c) (w : World) : Calls Tryz.prog 19 #[.agg c.l.toArray] w fun e w' => ∃ b T F, e = .returned (.tuple #[.pointer (some ⟨b.n.M, 0, none⟩), .int .i64 0]) ∧ AbIs w' b T F c (Ab.new c) ∧ Below w.heap.size w w' ∧ (∀ k ∈ T, w.heap.size ≤ k) ∧ F = [] := by
  have HC := fun W => Lib.hid (Check_any c W)
  rw [checkV_ok h] at HC
  have hpl := h.1
  have HOk := Lib.hid h
  have hgr := h.1.group
  have hus := h.1.user
  have HG := fun W => Lib.hid (Groups_any c hgr.1 ⟨by omega, hus.2⟩ W)
  have HTo := fun W => Lib.hid (Total_any c hus h.1.boot h.1.rpa W)
  have hgn : 1 ≤ c.user / c.group ∧ c.user / c.group ≤ 32 := ⟨Int.le_ediv_of_mul_le (by omega) (by omega), h.1.k11⟩
  obtain ⟨gn, hgn'⟩ : ∃ gn : Nat, c.user / c.group = gn := ⟨(c.user / c.group).toNat, by omega⟩
  rw [hgn'] at HG hgn
  have HGN := fun W => Lib.hid (Grd.New_yes gn (by omega) (by omega) W)
  obtain ⟨tn, htn⟩ : ∃ tn : Nat, c.user + 2 * c.boot + c.rpa = tn := ⟨(c.user + 2 * c.boot + c.rpa).toNat, by have := h.1.boot; have := h.1.rpa; omega⟩
  rw [htn] at HTo
  have htn2 : tn ≤ 20000 := by have := h.1.boot; have := h.1.rpa; omega
  have hms := fun v => make_slices tn htn2 v
  have hmk : ∀ v : World, (Instr.makeMap 120 none).run Tryz.prog v = .ok (.map (some v.heap.size)) (v.alloc (.map #[] 0)) := fun v => run_makeMap _ v
  have HSt := fun D M R G W hR => Lib.hid (Start_ok c h D M R G (fun _ => 0) rfl W hR)
  simp only [show (stL .new).toArray = #[.int .u8 0, .int .u8 0, .int .u8 0, .int .u8 0, .int .u8 0, .int .u8 0, .int .u8 0, .int .u8 0, .int .u8 0, .int .u8 0, .int .u8 0, .int .u8 0, .int .u8 0, .int .u8 0, .int .u8 0, .int .u8 0, .int .u8 0, .int .u8 0, .int .u8 0, .int .u8 0, .int .u8 0, .int .u8 0, .int .u8 0, .int .u8 0, .int .u8 0, .int .u8 0, .int .u8 0, .int .u8 0, .int .u8 0, .int .u8 0, .int .u8 0, .int .u8 0, .bool false, .int .u32 0] from rfl] at HSt
  have HGn := Lib.hid hgn'
  have HTn := Lib.hid htn
  clear hgn' htn hgr hus hpl h
  have hR := fun o => Lib.hid (Row.fresh w 23 o)
  have HB1 : ∀ o, Hid (Below w.heap.size w (w.alloc o)) := fun o => (Below.refl _ _).alloc (Nat.le_refl _) _
  have HCf : Hid (c.l = [.int .i64 c.blocks, .int .i64 c.pages, .int .i64 c.sector, .int .i64 c.user, .int .i64 c.boot, .int .i64 c.rpa, .int .i64 c.group, .int .i64 c.cache, .int .i64 c.spare]) := rfl
  obtain ⟨cb, cp, cs, cu, co, cr, cg, ca, cz⟩ := c
  simp only [Cf.l] at HC HG HTo HSt ⊢
  go_enter Tryz.func19, Tryz.ntmps19
  go_wp2_with fail
  refine (HC _).out.mono ?_
  rintro e w1 ⟨rfl, hb⟩
  have HB2 : Hid (Below w.heap.size w w1) := (HB1 _).out.trans (hb.mono (by simp))
  have HR2 := Lib.hid ((hR _).out.below hb (hR _).out.lt)
  clear hb HB1 hR HC
  have q0 : w1.cell? ⟨w.heap.size, 0, none⟩ = some (.int .i64 cb) := by rw [HR2.out.cell]; rfl
  have q1 : w1.cell? ⟨w.heap.size, 1, none⟩ = some (.int .i64 cp) := by rw [HR2.out.cell]; rfl
  have q2 : w1.cell? ⟨w.heap.size, 2, none⟩ = some (.int .i64 cs) := by rw [HR2.out.cell]; rfl
  have q3 : w1.cell? ⟨w.heap.size, 3, none⟩ = some (.int .i64 cu) := by rw [HR2.out.cell]; rfl
  have q4 : w1.cell? ⟨w.heap.size, 4, none⟩ = some (.int .i64 co) := by rw [HR2.out.cell]; rfl
  have q5 : w1.cell? ⟨w.heap.size, 5, none⟩ = some (.int .i64 cr) := by rw [HR2.out.cell]; rfl
  have q6 : w1.cell? ⟨w.heap.size, 6, none⟩ = some (.int .i64 cg) := by rw [HR2.out.cell]; rfl
  have q7 : w1.cell? ⟨w.heap.size, 7, none⟩ = some (.int .i64 ca) := by rw [HR2.out.cell]; rfl
  have q8 : w1.cell? ⟨w.heap.size, 8, none⟩ = some (.int .i64 cz) := by rw [HR2.out.cell]; rfl
  go_wp2_with fail
  refine (HG _).out.mono ?_
  rintro e w2 ⟨rfl, hb⟩
  have HB3 : Hid (Below w.heap.size w w2) := HB2.out.trans (hb.mono HB2.out.size)
  have HR3 := Lib.hid (HR2.out.below hb HR2.out.lt)
  clear hb HR2 HB2 HG q0 q1 q2 q3 q4 q5 q6 q7 q8
  go_wp2_with fail
  refine (HGN _).out.mono ?_
  rintro e w3 ⟨G, L, Lc, rfl, hG, hb⟩
  have HB4 : Hid (Below w.heap.size w w3) := HB3.out.trans (hb.mono HB3.out.size)
  have HR4 := Lib.hid (HR3.out.below hb HR3.out.lt)
  have HG4 := Lib.hid (hG.mono HB3.out.size)
  clear hb HR3 HB3 hG HGN
  go_wp2
  refine wp_region_noPanic ?_
  have hKR : ∀ t : Kept w3 [], Row t.u w.heap.size 23 #[.int .i64 cb, .int .i64 cp, .int .i64 cs, .int .i64 cu, .int .i64 co, .int .i64 cr, .int .i64 cg, .int .i64 ca, .int .i64 cz] := fun t => t.h.row HR4.out (by simp)
  have q0 : ∀ t : Kept w3 [], t.u.cell? ⟨w.heap.size, 0, none⟩ = some (.int .i64 cb) := fun t => by rw [(hKR t).cell]; rfl
  have q1 : ∀ t : Kept w3 [], t.u.cell? ⟨w.heap.size, 1, none⟩ = some (.int .i64 cp) := fun t => by rw [(hKR t).cell]; rfl
  have q2 : ∀ t : Kept w3 [], t.u.cell? ⟨w.heap.size, 2, none⟩ = some (.int .i64 cs) := fun t => by rw [(hKR t).cell]; rfl
  have q3 : ∀ t : Kept w3 [], t.u.cell? ⟨w.heap.size, 3, none⟩ = some (.int .i64 cu) := fun t => by rw [(hKR t).cell]; rfl
  have q4 : ∀ t : Kept w3 [], t.u.cell? ⟨w.heap.size, 4, none⟩ = some (.int .i64 co) := fun t => by rw [(hKR t).cell]; rfl
  have q5 : ∀ t : Kept w3 [], t.u.cell? ⟨w.heap.size, 5, none⟩ = some (.int .i64 cr) := fun t => by rw [(hKR t).cell]; rfl
  have q6 : ∀ t : Kept w3 [], t.u.cell? ⟨w.heap.size, 6, none⟩ = some (.int .i64 cg) := fun t => by rw [(hKR t).cell]; rfl
  have q7 : ∀ t : Kept w3 [], t.u.cell? ⟨w.heap.size, 7, none⟩ = some (.int .i64 ca) := fun t => by rw [(hKR t).cell]; rfl
  have q8 : ∀ t : Kept w3 [], t.u.cell? ⟨w.heap.size, 8, none⟩ = some (.int .i64 cz) := fun t => by rw [(hKR t).cell]; rfl
  clear hKR
  refine region_treeW (fun u => ∃ t : Kept w3 [], u = t.u) (Tn.takes [0, 1, 2] (.two 3 5 (.two 4 5 (.one 5 (.take 6 (.one 7 (.take 8 (.one 9 (.take 10 .nil)))))) (.one 4 (.take 6 (.one 7 (.take 8 (.one 9 (.take 10 .nil))))))) (.one 3 (.one 4 (.take 6 (.one 7 (.take 8 (.one 9 (.take 10 .nil))))))))) (by kernel_rfl) (by kernel_rfl) (fun _ _ _ _ _ h => h) ⟨⟨_, Turns.of_below (Below.refl _ _).drew _⟩, rfl⟩ ?_
  simp only [Tn.takes]
  (repeat ((with_reducible refine wpTree_take (by with_unfolding_all exact rfl) ?_); (with_reducible (show wpQuiet _ _ _ _ (_ :: _) _)); go_big_quiet_step (fail); (with_reducible refine wpQuiet_nil ?_)))
  clear q0 q1 q2 q3 q4 q5 q6 q7 q8
  with_reducible refine wpTree_two (by with_unfolding_all exact rfl) (by with_unfolding_all exact rfl) ?_ ?_
  · gi_wp2_with fail
    (first | refine ⟨trivial, ((callsIn_wide (n := 8)).2 ((HTo _).out)).mono ?_⟩ | refine ((callsIn_wide (n := 8)).2 ((HTo _).out)).mono ?_)
    rintro e u ⟨rfl, hb⟩
    have hbu : Below w3.heap.size w3 u := (Below.refl _ _).drew.trans hb
    clear hb HTo
    gi_wp2_with fail
    ((with_reducible refine outQ_normal ?_ ?_); exact ⟨⟨_, Turns.of_below hbu _⟩, rfl⟩)
    with_reducible refine wpTree_two (by with_unfolding_all exact rfl) (by with_unfolding_all exact rfl) ?_ ?_
    · gi_wp2_with fail
      ((with_reducible refine outQ_normal ?_ ?_); exact ⟨⟨_, (Turns.of_below hbu _).alloc _⟩, rfl⟩)
      (with_reducible refine wpTree_one (by with_unfolding_all exact rfl) ?_)
      gi_wp2_with fail
      ((with_reducible refine outQ_normal ?_ ?_); exact ⟨⟨_, ((Turns.of_below hbu _).alloc _).alloc _⟩, rfl⟩)
      obtain ⟨WM, hWM⟩ : ∃ WM, WM = u.heap.size + 1 := ⟨_, rfl⟩
      obtain ⟨LB, hLB⟩ : ∃ LB, LB = u.heap.size := ⟨_, rfl⟩
      have HL : Hid (Row ((u.alloc (.cells ((List.range tn).map fun _ => Value.slice none 0 0).toArray 53)).alloc (.map #[] 0)) LB 53 ((List.range tn).map fun _ => Value.slice none 0 0).toArray) := by rw [hLB]; exact (Row.fresh u _ _).alloc _
      have HM : Hid (MapIs Tryz.prog 3 ((u.alloc (.cells ((List.range tn).map fun _ => Value.slice none 0 0).toArray 53)).alloc (.map #[] 0)) WM 0 (fun _ => none)) := by rw [hWM]; have := MapIs.fresh Tryz.prog 3 (u.alloc (.cells ((List.range tn).map fun _ => Value.slice none 0 0).toArray 53)); unfold Hid; simpa using this
      have HBu : Hid (Below w3.heap.size w3 ((u.alloc (.cells ((List.range tn).map fun _ => Value.slice none 0 0).toArray 53)).alloc (.map #[] 0))) := by have := hbu; unfold Hid; (have hsz0 := Below.size hbu; repeat (first | (with_reducible refine Below.drew ?_) | (with_reducible refine below_drewN0 ?_ _) | ((with_reducible refine Below.setCell ?_ ?_ _); rotate_left; focus (first | omega | (simp; done) | (simp; omega) | (simp at *; omega))) | ((with_reducible refine Below.alloc ?_ ?_ _); rotate_left; focus (first | omega | (simp; done) | (simp; omega) | (simp at *; omega))) | ((with_reducible refine Below.trans ?_ (Below.mono hbu ?_)); rotate_left; focus (first | omega | (simp; done) | (simp; omega) | (simp at *; omega))) | (with_reducible exact Below.refl _ _)))
      have hLl : w.heap.size ≤ LB := by have := HB4.out.size; have := hbu.size; (try simp at this); omega
      have hWl : w.heap.size ≤ WM := by have := HB4.out.size; have := hbu.size; (try simp at this); omega
      rw [← hWM, ← hLB]
      clear hWM hLB hbu
      generalize (u.alloc (.cells ((List.range tn).map fun _ => Value.slice none 0 0).toArray 53)).alloc (.map #[] 0) = v at *
      (repeat ((with_reducible refine wpTree_take (by with_unfolding_all exact rfl) ?_); (with_reducible (show wpQuiet _ _ _ _ (_ :: _) _)); go_big_quiet_step (fail); (with_reducible refine wpQuiet_nil ?_)))
      (with_reducible refine wpTree_one (by with_unfolding_all exact rfl) ?_)
      gi_wp2_with fail
      ((with_reducible refine outQ_normal ?_ ?_); exact ⟨⟨_, ((Turns.of_below HBu.out _).alloc _)⟩, rfl⟩)
      (repeat ((with_reducible refine wpTree_take (by with_unfolding_all exact rfl) ?_); (with_reducible (show wpQuiet _ _ _ _ (_ :: _) _)); go_big_quiet_step (fail); (with_reducible refine wpQuiet_nil ?_)))
      (with_reducible refine wpTree_one (by with_unfolding_all exact rfl) ?_)
      gi_wp2_with fail
      ((with_reducible refine outQ_normal ?_ ?_); exact ⟨⟨_, (((Turns.of_below HBu.out _).alloc _).alloc _)⟩, rfl⟩)
      (repeat ((with_reducible refine wpTree_take (by with_unfolding_all exact rfl) ?_); (with_reducible (show wpQuiet _ _ _ _ (_ :: _) _)); go_big_quiet_step (fail); (with_reducible refine wpQuiet_nil ?_)))
      with_reducible refine wpTree_nil ?_
      refine NoPanic.normal ?_
      obtain ⟨M, hM⟩ : ∃ M, M = v.heap.size + 1 := ⟨_, rfl⟩
      obtain ⟨D, hD⟩ : ∃ D, D = v.heap.size := ⟨_, rfl⟩
      rw [← hM, ← hD]
      have HRD : Hid (Row ((v.alloc (.cells #[.int .i64 cs, .slice (some ⟨LB, 0, none⟩) tn tn, .map (some WM), .func (.func 52) #[] #[]] 123)).alloc (.cells #[.pointer none, .pointer (some ⟨D, 0, none⟩)] 36)) D 123 #[.int .i64 cs, .slice (some ⟨LB, 0, none⟩) tn tn, .map (some WM), .func (.func 52) #[] #[]]) := by rw [hD]; exact (Row.fresh v _ _).alloc _
      have HRM : Hid (Row ((v.alloc (.cells #[.int .i64 cs, .slice (some ⟨LB, 0, none⟩) tn tn, .map (some WM), .func (.func 52) #[] #[]] 123)).alloc (.cells #[.pointer none, .pointer (some ⟨D, 0, none⟩)] 36)) M 36 #[.pointer none, .pointer (some ⟨D, 0, none⟩)]) := by
        have := Row.fresh (v.alloc (.cells #[.int .i64 cs, .slice (some ⟨LB, 0, none⟩) tn tn, .map (some WM), .func (.func 52) #[] #[]] 123)) 36 #[.pointer none, .pointer (some ⟨D, 0, none⟩)]
        rw [hM]; unfold Hid; simpa using this
      have hbx : Below w3.heap.size w3 ((v.alloc (.cells #[.int .i64 cs, .slice (some ⟨LB, 0, none⟩) tn tn, .map (some WM), .func (.func 52) #[] #[]] 123)).alloc (.cells #[.pointer none, .pointer (some ⟨D, 0, none⟩)] 36)) := (HBu.out.alloc HBu.out.size _).alloc (by have := HBu.out.size; simp; omega) _
      have HLx := Lib.hid ((HL.out.alloc (.cells #[.int .i64 cs, .slice (some ⟨LB, 0, none⟩) tn tn, .map (some WM), .func (.func 52) #[] #[]] 123)).alloc (.cells #[.pointer none, .pointer (some ⟨D, 0, none⟩)] 36))
      have HMx := Lib.hid (HM.out.turns (((Turns.refl v []).alloc (.cells #[.int .i64 cs, .slice (some ⟨LB, 0, none⟩) tn tn, .map (some WM), .func (.func 52) #[] #[]] 123)).alloc (.cells #[.pointer none, .pointer (some ⟨D, 0, none⟩)] 36)) (by simp))
      have HRx := Lib.hid (HR4.out.below hbx HR4.out.lt)
      have HGx := Lib.hid (HG4.out.turns (Turns.of_below hbx []) (by simp) (by simp))
      have HBx : Hid (Below w.heap.size w ((v.alloc (.cells #[.int .i64 cs, .slice (some ⟨LB, 0, none⟩) tn tn, .map (some WM), .func (.func 52) #[] #[]] 123)).alloc (.cells #[.pointer none, .pointer (some ⟨D, 0, none⟩)] 36))) := HB4.out.trans (hbx.mono HB4.out.size)
      have hDl : w.heap.size ≤ D := by have := HB4.out.size; have := HBu.out.size; omega
      have hMl : w.heap.size ≤ M := by omega
      clear hM hD HL HM HBu HR4 HG4 HB4 hbx
      generalize (v.alloc (.cells #[.int .i64 cs, .slice (some ⟨LB, 0, none⟩) tn tn, .map (some WM), .func (.func 52) #[] #[]] 123)).alloc (.cells #[.pointer none, .pointer (some ⟨D, 0, none⟩)] 36) = x at *
      go_wp2
      refine wp_region_noPanic ?_
      have hKR : ∀ t : Kept x [], Row t.u w.heap.size 23 #[.int .i64 cb, .int .i64 cp, .int .i64 cs, .int .i64 cu, .int .i64 co, .int .i64 cr, .int .i64 cg, .int .i64 ca, .int .i64 cz] := fun t => t.h.row HRx.out (by simp)
      have hKM : ∀ t : Kept x [], Row t.u M 36 #[.pointer none, .pointer (some ⟨D, 0, none⟩)] := fun t => t.h.row HRM.out (by simp)
      have q0 : ∀ t : Kept x [], t.u.cell? ⟨w.heap.size, 0, none⟩ = some (.int .i64 cb) := fun t => by rw [(hKR t).cell]; rfl
      have q1 : ∀ t : Kept x [], t.u.cell? ⟨w.heap.size, 1, none⟩ = some (.int .i64 cp) := fun t => by rw [(hKR t).cell]; rfl
      have q2 : ∀ t : Kept x [], t.u.cell? ⟨w.heap.size, 2, none⟩ = some (.int .i64 cs) := fun t => by rw [(hKR t).cell]; rfl
      have q3 : ∀ t : Kept x [], t.u.cell? ⟨w.heap.size, 3, none⟩ = some (.int .i64 cu) := fun t => by rw [(hKR t).cell]; rfl
      have q4 : ∀ t : Kept x [], t.u.cell? ⟨w.heap.size, 4, none⟩ = some (.int .i64 co) := fun t => by rw [(hKR t).cell]; rfl
      have q5 : ∀ t : Kept x [], t.u.cell? ⟨w.heap.size, 5, none⟩ = some (.int .i64 cr) := fun t => by rw [(hKR t).cell]; rfl
      have q6 : ∀ t : Kept x [], t.u.cell? ⟨w.heap.size, 6, none⟩ = some (.int .i64 cg) := fun t => by rw [(hKR t).cell]; rfl
      have q7 : ∀ t : Kept x [], t.u.cell? ⟨w.heap.size, 7, none⟩ = some (.int .i64 ca) := fun t => by rw [(hKR t).cell]; rfl
      have q8 : ∀ t : Kept x [], t.u.cell? ⟨w.heap.size, 8, none⟩ = some (.int .i64 cz) := fun t => by rw [(hKR t).cell]; rfl
      have qM : ∀ t : Kept x [], t.u.cell? ⟨M, 1, none⟩ = some (.pointer (some ⟨D, 0, none⟩)) := fun t => by rw [(hKM t).cell]; rfl
      clear hKR hKM
      refine region_treeW (fun u => ∃ t : Kept x [], u = t.u) (Tn.takes [0, 1, 2, 3, 4, 5, 6, 7, 9, 10] (.one 8 (.one 11 (Tn.takes [12, 13, 14, 15, 16] .nil)))) (by kernel_rfl) (by kernel_rfl) (fun _ _ _ _ _ h => h) ⟨⟨_, Turns.of_below (Below.refl _ _).drew _⟩, rfl⟩ ?_
      simp only [Tn.takes]
      (repeat ((with_reducible refine wpTree_take (by with_unfolding_all exact rfl) ?_); (with_reducible (show wpQuiet _ _ _ _ (_ :: _) _)); go_big_quiet_step (fail); (with_reducible refine wpQuiet_nil ?_)))
      clear q0 q1 q2 q3 q4 q5 q6 q7 q8 qM
      (with_reducible refine wpTree_one (by with_unfolding_all exact rfl) ?_)
      gi_wp2_with fail
      (first | refine ⟨trivial, ((callsIn_wide (n := 8)).2 (RegsNew_any _)).mono ?_⟩ | refine ((callsIn_wide (n := 8)).2 (RegsNew_any _)).mono ?_)
      rintro e y ⟨rfl, hRg, hb⟩
      obtain ⟨R, hR⟩ : ∃ R, R = x.drew.heap.size := ⟨_, rfl⟩
      rw [← hR] at hRg ⊢
      have hRl : w.heap.size ≤ R := by rw [hR]; exact HBx.out.size
      have hby : Below x.heap.size x y := (Below.refl _ _).drew.trans hb
      have HRg := Lib.hid hRg
      have HKy := Lib.hid hby
      clear hR hb hRg
      gi_wp2_with fail
      ((with_reducible refine outQ_normal ?_ ?_); exact ⟨⟨_, Turns.of_below hby _⟩, rfl⟩)
      (with_reducible refine wpTree_one (by with_unfolding_all exact rfl) ?_)
      gi_wp2_with fail
      (first | refine ⟨trivial, ((callsIn_wide (n := 8)).2 ((HSt D M R G _ HRg.out).out)).mono ?_⟩ | refine ((callsIn_wide (n := 8)).2 ((HSt D M R G _ HRg.out).out)).mono ?_)
      rintro e z ⟨E, P, T, K, C, mb, rfl, hE, hP, hT, hK, hC, hEl, hPl, hTl, hKl, hb⟩
      have hyx := HKy.out.size
      have hxw := HBx.out.size
      have hmb := hC.hm
      have hCl := hC.hC
      have HKz : Hid (Below x.heap.size x z) := HKy.out.trans (hb.mono hyx)
      have HBz : Hid (Below w.heap.size w z) := HBx.out.trans (HKz.out.mono hxw)
      have HRD2 := Lib.hid (HRD.out.below HKz.out HRD.out.lt)
      have HRM2 := Lib.hid (HRM.out.below HKz.out HRM.out.lt)
      have HL2 := Lib.hid (HLx.out.below HKz.out HLx.out.lt)
      have HM2 := Lib.hid (HMx.out.turns (Turns.of_below HKz.out []) (by simp))
      have HG2 := Lib.hid (HGx.out.turns (Turns.of_below HKz.out []) (by simp) (by simp))
      have HR2 := Lib.hid (HRg.out.below hb HRg.out.lt)
      have hWx : WM < x.heap.size := HMx.out.lt
      have hLx : LB < x.heap.size := HLx.out.lt
      have HE2 := Lib.hid hE
      have HP2 := Lib.hid hP
      have HT2 := Lib.hid hT
      have HK2 := Lib.hid hK
      have HC2 := Lib.hid hC
      clear hb hE hP hT hK hC HRD HRM HLx HMx HRx HGx HRg HSt
      gi_wp2_with fail
      ((with_reducible refine outQ_normal ?_ ?_); exact ⟨⟨_, Turns.of_below HKz.out _⟩, rfl⟩)
      (repeat ((with_reducible refine wpTree_take (by with_unfolding_all exact rfl) ?_); (with_reducible (show wpQuiet _ _ _ _ (_ :: _) _)); go_big_quiet_step (fail); (with_reducible refine wpQuiet_nil ?_)))
      with_reducible refine wpTree_nil ?_
      refine NoPanic.normal ?_
      have m0 : z.cell? ⟨M, 0, none⟩ = some (.pointer none) := by rw [HRM2.out.cell]; rfl
      have n0 := HRM2.out.frozen 0
      have hU : RowsOf z [M] [36] := RowsOf.one HRM2.out
      have hTM : Turns z (z.setCell ⟨M, 0, none⟩ (.pointer (some ⟨E, 0, none⟩))) [M] := (Turns.refl _ _).setCell (by simp) _
      have HRM3 : Hid (Row (z.setCell ⟨M, 0, none⟩ (.pointer (some ⟨E, 0, none⟩))) M 36 #[.pointer (some ⟨E, 0, none⟩), .pointer (some ⟨D, 0, none⟩)]) := by
        have := HRM2.out.put 0 (.pointer (some ⟨E, 0, none⟩))
        unfold Hid; simpa using this
      have hGL := HG2.out.hL
      have hGl := HG2.out.hG
      have hLM : L ∉ [M] := hU.notOwn HG2.out.own (by decide) _ rfl
      have hsz : (z.setCell ⟨M, 0, none⟩ (.pointer (some ⟨E, 0, none⟩))).heap.size = z.heap.size := by simp
      have hlts : D < z.heap.size ∧ M < z.heap.size ∧ R < z.heap.size ∧ G < z.heap.size ∧ E < z.heap.size ∧ P < z.heap.size ∧ T < z.heap.size ∧ K < z.heap.size ∧ C < z.heap.size ∧ mb < z.heap.size ∧ LB < z.heap.size ∧ WM < z.heap.size ∧ L < z.heap.size := ⟨HRD2.out.lt, HRM2.out.lt, HR2.out.lt, HG2.out.row.lt, HE2.out.lt, HP2.out.lt, HT2.out.lt, Row.lt HK2.out, HC2.out.row.lt, HC2.out.cnt.lt, HL2.out.lt, HM2.out.lt, hGL.2.1⟩
      have HF : Hid (AbIs (z.setCell ⟨M, 0, none⟩ (.pointer (some ⟨E, 0, none⟩))) ⟨⟨P, D, M, R, G, T, K, C⟩, E, L, Lc, mb, none, 0, LB, WM, none, 0, none, 0, 0⟩ (Bn.ts ⟨⟨P, D, M, R, G, T, K, C⟩, E, L, Lc, mb, none, 0, LB, WM, none, 0, none, 0, 0⟩) [] ⟨cb, cp, cs, cu, co, cr, cg, ca, cz⟩ (Ab.new ⟨cb, cp, cs, cu, co, cr, cg, ca, cz⟩)) := by
        have ht : (totalI ⟨cb, cp, cs, cu, co, cr, cg, ca, cz⟩).toNat = tn := by have := HTn.out; simp only [totalI] at *; omega
        have hg : (cu / cg).toNat = gn := by have := HGn.out; (try simp only at *); omega
        refine ⟨AbOk.new HOk.out, HRM3.out, hU.row hTM HE2.out (by decide), ?_, hU.row hTM HP2.out (by decide), hU.row hTM HR2.out (by decide), ?_, ⟨false, hU.row hTM HT2.out (by decide)⟩, hU.row hTM HK2.out (by decide), ⟨[], ?_, rfl, by simp⟩, ⟨fun _ => .slice none 0 0, ?_, fun p hp => rfl⟩, ⟨0, fun _ => Option.none, ?_, ⟨by simp, by simp [Ab.new]⟩⟩, World.ownsRow_nil _ _ _ _, ⟨[], World.ownsRow_nil _ _ _ _⟩, fun k hk => hk, by simp, ?_, by simp, by show mb ≠ WM; omega⟩
        · rw [ht]; exact hU.row hTM HRD2.out (by decide)
        · show Grd.GHeld _ 0 G L Lc (List.replicate (cu / cg).toNat 0)
          rw [hg]; exact guard_rows hU hTM (HG2.out.mono (Nat.zero_le _)) (by decide) hLM
        · have := held_rows hU hTM HC2.out (by decide) (by decide) (by simp)
          exact this.mono (Nat.zero_le _)
        · rw [ht]; exact hU.row hTM HL2.out (by decide)
        · exact hU.map hTM HM2.out
        · intro k hk
          rw [hsz]
          simp only [Bn.ts, Vca.blk, List.append_nil, List.mem_cons, List.not_mem_nil, or_false] at hk
          omega
      have HBf : Hid (Below w.heap.size w (z.setCell ⟨M, 0, none⟩ (.pointer (some ⟨E, 0, none⟩)))) := HBz.out.setCell hMl _
      have HTl : Hid (∀ k ∈ Bn.ts ⟨⟨P, D, M, R, G, T, K, C⟩, E, L, Lc, mb, none, 0, LB, WM, none, 0, none, 0, 0⟩, w.heap.size ≤ k) := by
        intro k hk
        simp only [Bn.ts, Vca.blk, List.append_nil, List.mem_cons, List.not_mem_nil, or_false] at hk
        omega
      clear hU hTM HRM3 hGL hGl hLM hsz hlts HE2 HP2 HT2 HK2 HC2 HRD2 HRM2 HL2 HM2 HG2 HR2
      go_wp2
      go_ret2
      exact ⟨_, _, _, rfl, HF.out, HBf.out, HTl.out, rfl⟩
    · gi_wp2_with fail
      ((with_reducible refine outQ_normal ?_ ?_); exact ⟨⟨_, (Turns.of_below hbu _).alloc _⟩, rfl⟩)
      (with_reducible refine wpTree_one (by with_unfolding_all exact rfl) ?_)
      gi_wp2_with fail
      ((with_reducible refine outQ_normal ?_ ?_); exact ⟨⟨_, ((Turns.of_below hbu _).alloc _).alloc _⟩, rfl⟩)
      obtain ⟨WM, hWM⟩ : ∃ WM, WM = u.heap.size := ⟨_, rfl⟩
      obtain ⟨LB, hLB⟩ : ∃ LB, LB = u.heap.size + 1 := ⟨_, rfl⟩
      have HL : Hid (Row ((u.alloc (.map #[] 0)).alloc (.cells ((List.range tn).map fun _ => Value.slice none 0 0).toArray 53)) LB 53 ((List.range tn).map fun _ => Value.slice none 0 0).toArray) := by rw [hLB]; have := Row.fresh (u.alloc (.map #[] 0)) 53 ((List.range tn).map fun _ => Value.slice none 0 0).toArray; unfold Hid; simpa using this
      have HM : Hid (MapIs Tryz.prog 3 ((u.alloc (.map #[] 0)).alloc (.cells ((List.range tn).map fun _ => Value.slice none 0 0).toArray 53)) WM 0 (fun _ => none)) := by rw [hWM]; exact (MapIs.fresh Tryz.prog 3 u).turns ((Turns.refl _ []).alloc _) (by simp)
      have HBu : Hid (Below w3.heap.size w3 ((u.alloc (.map #[] 0)).alloc (.cells ((List.range tn).map fun _ => Value.slice none 0 0).toArray 53))) := by have := hbu; unfold Hid; (have hsz0 := Below.size hbu; repeat (first | (with_reducible refine Below.drew ?_) | (with_reducible refine below_drewN0 ?_ _) | ((with_reducible refine Below.setCell ?_ ?_ _); rotate_left; focus (first | omega | (simp; done) | (simp; omega) | (simp at *; omega))) | ((with_reducible refine Below.alloc ?_ ?_ _); rotate_left; focus (first | omega | (simp; done) | (simp; omega) | (simp at *; omega))) | ((with_reducible refine Below.trans ?_ (Below.mono hbu ?_)); rotate_left; focus (first | omega | (simp; done) | (simp; omega) | (simp at *; omega))) | (with_reducible exact Below.refl _ _)))
      have hLl : w.heap.size ≤ LB := by have := HB4.out.size; have := hbu.size; (try simp at this); omega
      have hWl : w.heap.size ≤ WM := by have := HB4.out.size; have := hbu.size; (try simp at this); omega
      rw [← hLB, ← hWM]
      clear hWM hLB hbu
      generalize (u.alloc (.map #[] 0)).alloc (.cells ((List.range tn).map fun _ => Value.slice none 0 0).toArray 53) = v at *
      (repeat ((with_reducible refine wpTree_take (by with_unfolding_all exact rfl) ?_); (with_reducible (show wpQuiet _ _ _ _ (_ :: _) _)); go_big_quiet_step (fail); (with_reducible refine wpQuiet_nil ?_)))
      (with_reducible refine wpTree_one (by with_unfolding_all exact rfl) ?_)
      gi_wp2_with fail
      ((with_reducible refine outQ_normal ?_ ?_); exact ⟨⟨_, ((Turns.of_below HBu.out _).alloc _)⟩, rfl⟩)
      (repeat ((with_reducible refine wpTree_take (by with_unfolding_all exact rfl) ?_); (with_reducible (show wpQuiet _ _ _ _ (_ :: _) _)); go_big_quiet_step (fail); (with_reducible refine wpQuiet_nil ?_)))
      (with_reducible refine wpTree_one (by with_unfolding_all exact rfl) ?_)
      gi_wp2_with fail
      ((with_reducible refine outQ_normal ?_ ?_); exact ⟨⟨_, (((Turns.of_below HBu.out _).alloc _).alloc _)⟩, rfl⟩)
      (repeat ((with_reducible refine wpTree_take (by with_unfolding_all exact rfl) ?_); (with_reducible (show wpQuiet _ _ _ _ (_ :: _) _)); go_big_quiet_step (fail); (with_reducible refine wpQuiet_nil ?_)))
      with_reducible refine wpTree_nil ?_
      refine NoPanic.normal ?_
      obtain ⟨M, hM⟩ : ∃ M, M = v.heap.size + 1 := ⟨_, rfl⟩
      obtain ⟨D, hD⟩ : ∃ D, D = v.heap.size := ⟨_, rfl⟩
      rw [← hM, ← hD]
      have HRD : Hid (Row ((v.alloc (.cells #[.int .i64 cs, .slice (some ⟨LB, 0, none⟩) tn tn, .map (some WM), .func (.func 52) #[] #[]] 123)).alloc (.cells #[.pointer none, .pointer (some ⟨D, 0, none⟩)] 36)) D 123 #[.int .i64 cs, .slice (some ⟨LB, 0, none⟩) tn tn, .map (some WM), .func (.func 52) #[] #[]]) := by rw [hD]; exact (Row.fresh v _ _).alloc _
      have HRM : Hid (Row ((v.alloc (.cells #[.int .i64 cs, .slice (some ⟨LB, 0, none⟩) tn tn, .map (some WM), .func (.func 52) #[] #[]] 123)).alloc (.cells #[.pointer none, .pointer (some ⟨D, 0, none⟩)] 36)) M 36 #[.pointer none, .pointer (some ⟨D, 0, none⟩)]) := by
        have := Row.fresh (v.alloc (.cells #[.int .i64 cs, .slice (some ⟨LB, 0, none⟩) tn tn, .map (some WM), .func (.func 52) #[] #[]] 123)) 36 #[.pointer none, .pointer (some ⟨D, 0, none⟩)]
        rw [hM]; unfold Hid; simpa using this
      have hbx : Below w3.heap.size w3 ((v.alloc (.cells #[.int .i64 cs, .slice (some ⟨LB, 0, none⟩) tn tn, .map (some WM), .func (.func 52) #[] #[]] 123)).alloc (.cells #[.pointer none, .pointer (some ⟨D, 0, none⟩)] 36)) := (HBu.out.alloc HBu.out.size _).alloc (by have := HBu.out.size; simp; omega) _
      have HLx := Lib.hid ((HL.out.alloc (.cells #[.int .i64 cs, .slice (some ⟨LB, 0, none⟩) tn tn, .map (some WM), .func (.func 52) #[] #[]] 123)).alloc (.cells #[.pointer none, .pointer (some ⟨D, 0, none⟩)] 36))
      have HMx := Lib.hid (HM.out.turns (((Turns.refl v []).alloc (.cells #[.int .i64 cs, .slice (some ⟨LB, 0, none⟩) tn tn, .map (some WM), .func (.func 52) #[] #[]] 123)).alloc (.cells #[.pointer none, .pointer (some ⟨D, 0, none⟩)] 36)) (by simp))
      have HRx := Lib.hid (HR4.out.below hbx HR4.out.lt)
      have HGx := Lib.hid (HG4.out.turns (Turns.of_below hbx []) (by simp) (by simp))
      have HBx : Hid (Below w.heap.size w ((v.alloc (.cells #[.int .i64 cs, .slice (some ⟨LB, 0, none⟩) tn tn, .map (some WM), .func (.func 52) #[] #[]] 123)).alloc (.cells #[.pointer none, .pointer (some ⟨D, 0, none⟩)] 36))) := HB4.out.trans (hbx.mono HB4.out.size)
      have hDl : w.heap.size ≤ D := by have := HB4.out.size; have := HBu.out.size; omega
      have hMl : w.heap.size ≤ M := by omega
      clear hM hD HL HM HBu HR4 HG4 HB4 hbx
      generalize (v.alloc (.cells #[.int .i64 cs, .slice (some ⟨LB, 0, none⟩) tn tn, .map (some WM), .func (.func 52) #[] #[]] 123)).alloc (.cells #[.pointer none, .pointer (some ⟨D, 0, none⟩)] 36) = x at *
      go_wp2
      refine wp_region_noPanic ?_
      have hKR : ∀ t : Kept x [], Row t.u w.heap.size 23 #[.int .i64 cb, .int .i64 cp, .int .i64 cs, .int .i64 cu, .int .i64 co, .int .i64 cr, .int .i64 cg, .int .i64 ca, .int .i64 cz] := fun t => t.h.row HRx.out (by simp)
      have hKM : ∀ t : Kept x [], Row t.u M 36 #[.pointer none, .pointer (some ⟨D, 0, none⟩)] := fun t => t.h.row HRM.out (by simp)
      have q0 : ∀ t : Kept x [], t.u.cell? ⟨w.heap.size, 0, none⟩ = some (.int .i64 cb) := fun t => by rw [(hKR t).cell]; rfl
      have q1 : ∀ t : Kept x [], t.u.cell? ⟨w.heap.size, 1, none⟩ = some (.int .i64 cp) := fun t => by rw [(hKR t).cell]; rfl
      have q2 : ∀ t : Kept x [], t.u.cell? ⟨w.heap.size, 2, none⟩ = some (.int .i64 cs) := fun t => by rw [(hKR t).cell]; rfl
      have q3 : ∀ t : Kept x [], t.u.cell? ⟨w.heap.size, 3, none⟩ = some (.int .i64 cu) := fun t => by rw [(hKR t).cell]; rfl
      have q4 : ∀ t : Kept x [], t.u.cell? ⟨w.heap.size, 4, none⟩ = some (.int .i64 co) := fun t => by rw [(hKR t).cell]; rfl
      have q5 : ∀ t : Kept x [], t.u.cell? ⟨w.heap.size, 5, none⟩ = some (.int .i64 cr) := fun t => by rw [(hKR t).cell]; rfl
      have q6 : ∀ t : Kept x [], t.u.cell? ⟨w.heap.size, 6, none⟩ = some (.int .i64 cg) := fun t => by rw [(hKR t).cell]; rfl
      have q7 : ∀ t : Kept x [], t.u.cell? ⟨w.heap.size, 7, none⟩ = some (.int .i64 ca) := fun t => by rw [(hKR t).cell]; rfl
      have q8 : ∀ t : Kept x [], t.u.cell? ⟨w.heap.size, 8, none⟩ = some (.int .i64 cz) := fun t => by rw [(hKR t).cell]; rfl
      have qM : ∀ t : Kept x [], t.u.cell? ⟨M, 1, none⟩ = some (.pointer (some ⟨D, 0, none⟩)) := fun t => by rw [(hKM t).cell]; rfl
      clear hKR hKM
      refine region_treeW (fun u => ∃ t : Kept x [], u = t.u) (Tn.takes [0, 1, 2, 3, 4, 5, 6, 7, 9, 10] (.one 8 (.one 11 (Tn.takes [12, 13, 14, 15, 16] .nil)))) (by kernel_rfl) (by kernel_rfl) (fun _ _ _ _ _ h => h) ⟨⟨_, Turns.of_below (Below.refl _ _).drew _⟩, rfl⟩ ?_
      simp only [Tn.takes]
      (repeat ((with_reducible refine wpTree_take (by with_unfolding_all exact rfl) ?_); (with_reducible (show wpQuiet _ _ _ _ (_ :: _) _)); go_big_quiet_step (fail); (with_reducible refine wpQuiet_nil ?_)))
      clear q0 q1 q2 q3 q4 q5 q6 q7 q8 qM
      (with_reducible refine wpTree_one (by with_unfolding_all exact rfl) ?_)
      gi_wp2_with fail
      (first | refine ⟨trivial, ((callsIn_wide (n := 8)).2 (RegsNew_any _)).mono ?_⟩ | refine ((callsIn_wide (n := 8)).2 (RegsNew_any _)).mono ?_)
      rintro e y ⟨rfl, hRg, hb⟩
      obtain ⟨R, hR⟩ : ∃ R, R = x.drew.heap.size := ⟨_, rfl⟩
      rw [← hR] at hRg ⊢
      have hRl : w.heap.size ≤ R := by rw [hR]; exact HBx.out.size
      have hby : Below x.heap.size x y := (Below.refl _ _).drew.trans hb
      have HRg := Lib.hid hRg
      have HKy := Lib.hid hby
      clear hR hb hRg
      gi_wp2_with fail
      ((with_reducible refine outQ_normal ?_ ?_); exact ⟨⟨_, Turns.of_below hby _⟩, rfl⟩)
      (with_reducible refine wpTree_one (by with_unfolding_all exact rfl) ?_)
      gi_wp2_with fail
      (first | refine ⟨trivial, ((callsIn_wide (n := 8)).2 ((HSt D M R G _ HRg.out).out)).mono ?_⟩ | refine ((callsIn_wide (n := 8)).2 ((HSt D M R G _ HRg.out).out)).mono ?_)
      rintro e z ⟨E, P, T, K, C, mb, rfl, hE, hP, hT, hK, hC, hEl, hPl, hTl, hKl, hb⟩
      have hyx := HKy.out.size
      have hxw := HBx.out.size
      have hmb := hC.hm
      have hCl := hC.hC
      have HKz : Hid (Below x.heap.size x z) := HKy.out.trans (hb.mono hyx)
      have HBz : Hid (Below w.heap.size w z) := HBx.out.trans (HKz.out.mono hxw)
      have HRD2 := Lib.hid (HRD.out.below HKz.out HRD.out.lt)
      have HRM2 := Lib.hid (HRM.out.below HKz.out HRM.out.lt)
      have HL2 := Lib.hid (HLx.out.below HKz.out HLx.out.lt)
      have HM2 := Lib.hid (HMx.out.turns (Turns.of_below HKz.out []) (by simp))
      have HG2 := Lib.hid (HGx.out.turns (Turns.of_below HKz.out []) (by simp) (by simp))
      have HR2 := Lib.hid (HRg.out.below hb HRg.out.lt)
      have hWx : WM < x.heap.size := HMx.out.lt
      have hLx : LB < x.heap.size := HLx.out.lt
      have HE2 := Lib.hid hE
      have HP2 := Lib.hid hP
      have HT2 := Lib.hid hT
      have HK2 := Lib.hid hK
      have HC2 := Lib.hid hC
      clear hb hE hP hT hK hC HRD HRM HLx HMx HRx HGx HRg HSt
      gi_wp2_with fail
      ((with_reducible refine outQ_normal ?_ ?_); exact ⟨⟨_, Turns.of_below HKz.out _⟩, rfl⟩)
      (repeat ((with_reducible refine wpTree_take (by with_unfolding_all exact rfl) ?_); (with_reducible (show wpQuiet _ _ _ _ (_ :: _) _)); go_big_quiet_step (fail); (with_reducible refine wpQuiet_nil ?_)))
      with_reducible refine wpTree_nil ?_
      refine NoPanic.normal ?_
      have m0 : z.cell? ⟨M, 0, none⟩ = some (.pointer none) := by rw [HRM2.out.cell]; rfl
      have n0 := HRM2.out.frozen 0
      have hU : RowsOf z [M] [36] := RowsOf.one HRM2.out
      have hTM : Turns z (z.setCell ⟨M, 0, none⟩ (.pointer (some ⟨E, 0, none⟩))) [M] := (Turns.refl _ _).setCell (by simp) _
      have HRM3 : Hid (Row (z.setCell ⟨M, 0, none⟩ (.pointer (some ⟨E, 0, none⟩))) M 36 #[.pointer (some ⟨E, 0, none⟩), .pointer (some ⟨D, 0, none⟩)]) := by
        have := HRM2.out.put 0 (.pointer (some ⟨E, 0, none⟩))
        unfold Hid; simpa using this
      have hGL := HG2.out.hL
      have hGl := HG2.out.hG
      have hLM : L ∉ [M] := hU.notOwn HG2.out.own (by decide) _ rfl
      have hsz : (z.setCell ⟨M, 0, none⟩ (.pointer (some ⟨E, 0, none⟩))).heap.size = z.heap.size := by simp
      have hlts : D < z.heap.size ∧ M < z.heap.size ∧ R < z.heap.size ∧ G < z.heap.size ∧ E < z.heap.size ∧ P < z.heap.size ∧ T < z.heap.size ∧ K < z.heap.size ∧ C < z.heap.size ∧ mb < z.heap.size ∧ LB < z.heap.size ∧ WM < z.heap.size ∧ L < z.heap.size := ⟨HRD2.out.lt, HRM2.out.lt, HR2.out.lt, HG2.out.row.lt, HE2.out.lt, HP2.out.lt, HT2.out.lt, Row.lt HK2.out, HC2.out.row.lt, HC2.out.cnt.lt, HL2.out.lt, HM2.out.lt, hGL.2.1⟩
      have HF : Hid (AbIs (z.setCell ⟨M, 0, none⟩ (.pointer (some ⟨E, 0, none⟩))) ⟨⟨P, D, M, R, G, T, K, C⟩, E, L, Lc, mb, none, 0, LB, WM, none, 0, none, 0, 0⟩ (Bn.ts ⟨⟨P, D, M, R, G, T, K, C⟩, E, L, Lc, mb, none, 0, LB, WM, none, 0, none, 0, 0⟩) [] ⟨cb, cp, cs, cu, co, cr, cg, ca, cz⟩ (Ab.new ⟨cb, cp, cs, cu, co, cr, cg, ca, cz⟩)) := by
        have ht : (totalI ⟨cb, cp, cs, cu, co, cr, cg, ca, cz⟩).toNat = tn := by have := HTn.out; simp only [totalI] at *; omega
        have hg : (cu / cg).toNat = gn := by have := HGn.out; (try simp only at *); omega
        refine ⟨AbOk.new HOk.out, HRM3.out, hU.row hTM HE2.out (by decide), ?_, hU.row hTM HP2.out (by decide), hU.row hTM HR2.out (by decide), ?_, ⟨false, hU.row hTM HT2.out (by decide)⟩, hU.row hTM HK2.out (by decide), ⟨[], ?_, rfl, by simp⟩, ⟨fun _ => .slice none 0 0, ?_, fun p hp => rfl⟩, ⟨0, fun _ => Option.none, ?_, ⟨by simp, by simp [Ab.new]⟩⟩, World.ownsRow_nil _ _ _ _, ⟨[], World.ownsRow_nil _ _ _ _⟩, fun k hk => hk, by simp, ?_, by simp, by show mb ≠ WM; omega⟩
        · rw [ht]; exact hU.row hTM HRD2.out (by decide)
        · show Grd.GHeld _ 0 G L Lc (List.replicate (cu / cg).toNat 0)
          rw [hg]; exact guard_rows hU hTM (HG2.out.mono (Nat.zero_le _)) (by decide) hLM
        · have := held_rows hU hTM HC2.out (by decide) (by decide) (by simp)
          exact this.mono (Nat.zero_le _)
        · rw [ht]; exact hU.row hTM HL2.out (by decide)
        · exact hU.map hTM HM2.out
        · intro k hk
          rw [hsz]
          simp only [Bn.ts, Vca.blk, List.append_nil, List.mem_cons, List.not_mem_nil, or_false] at hk
          omega
      have HBf : Hid (Below w.heap.size w (z.setCell ⟨M, 0, none⟩ (.pointer (some ⟨E, 0, none⟩)))) := HBz.out.setCell hMl _
      have HTl : Hid (∀ k ∈ Bn.ts ⟨⟨P, D, M, R, G, T, K, C⟩, E, L, Lc, mb, none, 0, LB, WM, none, 0, none, 0, 0⟩, w.heap.size ≤ k) := by
        intro k hk
        simp only [Bn.ts, Vca.blk, List.append_nil, List.mem_cons, List.not_mem_nil, or_false] at hk
        omega
      clear hU hTM HRM3 hGL hGl hLM hsz hlts HE2 HP2 HT2 HK2 HC2 HRD2 HRM2 HL2 HM2 HG2 HR2
      go_wp2
      go_ret2
      exact ⟨_, _, _, rfl, HF.out, HBf.out, HTl.out, rfl⟩
  · gi_wp2_with fail
    ((with_reducible refine outQ_normal ?_ ?_); exact ⟨⟨_, ((Turns.refl w3 []).drew.alloc _)⟩, rfl⟩)
    (with_reducible refine wpTree_one (by with_unfolding_all exact rfl) ?_)
    gi_wp2_with fail
    (first | refine ⟨trivial, ((callsIn_wide (n := 8)).2 ((HTo _).out)).mono ?_⟩ | refine ((callsIn_wide (n := 8)).2 ((HTo _).out)).mono ?_)
    rintro e u ⟨rfl, hb⟩
    have hm0 : MapIs Tryz.prog 3 (w3.drew.alloc (.map #[] 0)) w3.heap.size 0 (fun _ => none) := MapIs.fresh _ _ _
    have hbm : Below w3.heap.size w3 (w3.drew.alloc (.map #[] 0)) := (Below.refl _ _).drew.alloc (Nat.le_refl _) _
    have hb' : Below (w3.drew.alloc (.map #[] 0)).heap.size (w3.drew.alloc (.map #[] 0)) u := hb
    have hmu := hm0.turns (Turns.of_below hb' []) (by simp)
    have hbu : Below w3.heap.size w3 u := hbm.trans (hb'.mono hbm.size)
    clear hb hb' hbm hm0 HTo
    gi_wp2_with fail
    ((with_reducible refine outQ_normal ?_ ?_); exact ⟨⟨_, Turns.of_below hbu _⟩, rfl⟩)
    (with_reducible refine wpTree_one (by with_unfolding_all exact rfl) ?_)
    gi_wp2_with fail
    ((with_reducible refine outQ_normal ?_ ?_); exact ⟨⟨_, (Turns.of_below hbu _).alloc _⟩, rfl⟩)
    obtain ⟨WM, hWM⟩ : ∃ WM, WM = w3.heap.size := ⟨_, rfl⟩
    obtain ⟨LB, hLB⟩ : ∃ LB, LB = u.heap.size := ⟨_, rfl⟩
    have HL : Hid (Row (u.alloc (.cells ((List.range tn).map fun _ => Value.slice none 0 0).toArray 53)) LB 53 ((List.range tn).map fun _ => Value.slice none 0 0).toArray) := by rw [hLB]; exact Row.fresh u _ _
    have HM : Hid (MapIs Tryz.prog 3 (u.alloc (.cells ((List.range tn).map fun _ => Value.slice none 0 0).toArray 53)) WM 0 (fun _ => none)) := by rw [hWM]; exact hmu.turns ((Turns.refl _ []).alloc _) (by simp)
    have HBu : Hid (Below w3.heap.size w3 (u.alloc (.cells ((List.range tn).map fun _ => Value.slice none 0 0).toArray 53))) := by have := hbu; unfold Hid; (have hsz0 := Below.size hbu; repeat (first | (with_reducible refine Below.drew ?_) | (with_reducible refine below_drewN0 ?_ _) | ((with_reducible refine Below.setCell ?_ ?_ _); rotate_left; focus (first | omega | (simp; done) | (simp; omega) | (simp at *; omega))) | ((with_reducible refine Below.alloc ?_ ?_ _); rotate_left; focus (first | omega | (simp; done) | (simp; omega) | (simp at *; omega))) | ((with_reducible refine Below.trans ?_ (Below.mono hbu ?_)); rotate_left; focus (first | omega | (simp; done) | (simp; omega) | (simp at *; omega))) | (with_reducible exact Below.refl _ _)))
    have hLl : w.heap.size ≤ LB := by have := HB4.out.size; have := hbu.size; (try simp at this); omega
    have hWl : w.heap.size ≤ WM := by have := HB4.out.size; have := hbu.size; (try simp at this); omega
    rw [← hLB, ← hWM]
    clear hWM hLB hbu
    generalize u.alloc (.cells ((List.range tn).map fun _ => Value.slice none 0 0).toArray 53) = v at *
    (repeat ((with_reducible refine wpTree_take (by with_unfolding_all exact rfl) ?_); (with_reducible (show wpQuiet _ _ _ _ (_ :: _) _)); go_big_quiet_step (fail); (with_reducible refine wpQuiet_nil ?_)))
    (with_reducible refine wpTree_one (by with_unfolding_all exact rfl) ?_)
    gi_wp2_with fail
    ((with_reducible refine outQ_normal ?_ ?_); exact ⟨⟨_, ((Turns.of_below HBu.out _).alloc _)⟩, rfl⟩)
    (repeat ((with_reducible refine wpTree_take (by with_unfolding_all exact rfl) ?_); (with_reducible (show wpQuiet _ _ _ _ (_ :: _) _)); go_big_quiet_step (fail); (with_reducible refine wpQuiet_nil ?_)))
    (with_reducible refine wpTree_one (by with_unfolding_all exact rfl) ?_)
    gi_wp2_with fail
    ((with_reducible refine outQ_normal ?_ ?_); exact ⟨⟨_, (((Turns.of_below HBu.out _).alloc _).alloc _)⟩, rfl⟩)
    (repeat ((with_reducible refine wpTree_take (by with_unfolding_all exact rfl) ?_); (with_reducible (show wpQuiet _ _ _ _ (_ :: _) _)); go_big_quiet_step (fail); (with_reducible refine wpQuiet_nil ?_)))
    with_reducible refine wpTree_nil ?_
    refine NoPanic.normal ?_
    obtain ⟨M, hM⟩ : ∃ M, M = v.heap.size + 1 := ⟨_, rfl⟩
    obtain ⟨D, hD⟩ : ∃ D, D = v.heap.size := ⟨_, rfl⟩
    rw [← hM, ← hD]
    have HRD : Hid (Row ((v.alloc (.cells #[.int .i64 cs, .slice (some ⟨LB, 0, none⟩) tn tn, .map (some WM), .func (.func 52) #[] #[]] 123)).alloc (.cells #[.pointer none, .pointer (some ⟨D, 0, none⟩)] 36)) D 123 #[.int .i64 cs, .slice (some ⟨LB, 0, none⟩) tn tn, .map (some WM), .func (.func 52) #[] #[]]) := by rw [hD]; exact (Row.fresh v _ _).alloc _
    have HRM : Hid (Row ((v.alloc (.cells #[.int .i64 cs, .slice (some ⟨LB, 0, none⟩) tn tn, .map (some WM), .func (.func 52) #[] #[]] 123)).alloc (.cells #[.pointer none, .pointer (some ⟨D, 0, none⟩)] 36)) M 36 #[.pointer none, .pointer (some ⟨D, 0, none⟩)]) := by
      have := Row.fresh (v.alloc (.cells #[.int .i64 cs, .slice (some ⟨LB, 0, none⟩) tn tn, .map (some WM), .func (.func 52) #[] #[]] 123)) 36 #[.pointer none, .pointer (some ⟨D, 0, none⟩)]
      rw [hM]; unfold Hid; simpa using this
    have hbx : Below w3.heap.size w3 ((v.alloc (.cells #[.int .i64 cs, .slice (some ⟨LB, 0, none⟩) tn tn, .map (some WM), .func (.func 52) #[] #[]] 123)).alloc (.cells #[.pointer none, .pointer (some ⟨D, 0, none⟩)] 36)) := (HBu.out.alloc HBu.out.size _).alloc (by have := HBu.out.size; simp; omega) _
    have HLx := Lib.hid ((HL.out.alloc (.cells #[.int .i64 cs, .slice (some ⟨LB, 0, none⟩) tn tn, .map (some WM), .func (.func 52) #[] #[]] 123)).alloc (.cells #[.pointer none, .pointer (some ⟨D, 0, none⟩)] 36))
    have HMx := Lib.hid (HM.out.turns (((Turns.refl v []).alloc (.cells #[.int .i64 cs, .slice (some ⟨LB, 0, none⟩) tn tn, .map (some WM), .func (.func 52) #[] #[]] 123)).alloc (.cells #[.pointer none, .pointer (some ⟨D, 0, none⟩)] 36)) (by simp))
    have HRx := Lib.hid (HR4.out.below hbx HR4.out.lt)
    have HGx := Lib.hid (HG4.out.turns (Turns.of_below hbx []) (by simp) (by simp))
    have HBx : Hid (Below w.heap.size w ((v.alloc (.cells #[.int .i64 cs, .slice (some ⟨LB, 0, none⟩) tn tn, .map (some WM), .func (.func 52) #[] #[]] 123)).alloc (.cells #[.pointer none, .pointer (some ⟨D, 0, none⟩)] 36))) := HB4.out.trans (hbx.mono HB4.out.size)
    have hDl : w.heap.size ≤ D := by have := HB4.out.size; have := HBu.out.size; omega
    have hMl : w.heap.size ≤ M := by omega
    clear hM hD HL HM HBu HR4 HG4 HB4 hbx
    generalize (v.alloc (.cells #[.int .i64 cs, .slice (some ⟨LB, 0, none⟩) tn tn, .map (some WM), .func (.func 52) #[] #[]] 123)).alloc (.cells #[.pointer none, .pointer (some ⟨D, 0, none⟩)] 36) = x at *
    go_wp2
    refine wp_region_noPanic ?_
    have hKR : ∀ t : Kept x [], Row t.u w.heap.size 23 #[.int .i64 cb, .int .i64 cp, .int .i64 cs, .int .i64 cu, .int .i64 co, .int .i64 cr, .int .i64 cg, .int .i64 ca, .int .i64 cz] := fun t => t.h.row HRx.out (by simp)
    have hKM : ∀ t : Kept x [], Row t.u M 36 #[.pointer none, .pointer (some ⟨D, 0, none⟩)] := fun t => t.h.row HRM.out (by simp)
    have q0 : ∀ t : Kept x [], t.u.cell? ⟨w.heap.size, 0, none⟩ = some (.int .i64 cb) := fun t => by rw [(hKR t).cell]; rfl
    have q1 : ∀ t : Kept x [], t.u.cell? ⟨w.heap.size, 1, none⟩ = some (.int .i64 cp) := fun t => by rw [(hKR t).cell]; rfl
    have q2 : ∀ t : Kept x [], t.u.cell? ⟨w.heap.size, 2, none⟩ = some (.int .i64 cs) := fun t => by rw [(hKR t).cell]; rfl
    have q3 : ∀ t : Kept x [], t.u.cell? ⟨w.heap.size, 3, none⟩ = some (.int .i64 cu) := fun t => by rw [(hKR t).cell]; rfl
    have q4 : ∀ t : Kept x [], t.u.cell? ⟨w.heap.size, 4, none⟩ = some (.int .i64 co) := fun t => by rw [(hKR t).cell]; rfl
    have q5 : ∀ t : Kept x [], t.u.cell? ⟨w.heap.size, 5, none⟩ = some (.int .i64 cr) := fun t => by rw [(hKR t).cell]; rfl
    have q6 : ∀ t : Kept x [], t.u.cell? ⟨w.heap.size, 6, none⟩ = some (.int .i64 cg) := fun t => by rw [(hKR t).cell]; rfl
    have q7 : ∀ t : Kept x [], t.u.cell? ⟨w.heap.size, 7, none⟩ = some (.int .i64 ca) := fun t => by rw [(hKR t).cell]; rfl
    have q8 : ∀ t : Kept x [], t.u.cell? ⟨w.heap.size, 8, none⟩ = some (.int .i64 cz) := fun t => by rw [(hKR t).cell]; rfl
    have qM : ∀ t : Kept x [], t.u.cell? ⟨M, 1, none⟩ = some (.pointer (some ⟨D, 0, none⟩)) := fun t => by rw [(hKM t).cell]; rfl
    clear hKR hKM
    refine region_treeW (fun u => ∃ t : Kept x [], u = t.u) (Tn.takes [0, 1, 2, 3, 4, 5, 6, 7, 9, 10] (.one 8 (.one 11 (Tn.takes [12, 13, 14, 15, 16] .nil)))) (by kernel_rfl) (by kernel_rfl) (fun _ _ _ _ _ h => h) ⟨⟨_, Turns.of_below (Below.refl _ _).drew _⟩, rfl⟩ ?_
    simp only [Tn.takes]
    (repeat ((with_reducible refine wpTree_take (by with_unfolding_all exact rfl) ?_); (with_reducible (show wpQuiet _ _ _ _ (_ :: _) _)); go_big_quiet_step (fail); (with_reducible refine wpQuiet_nil ?_)))
    clear q0 q1 q2 q3 q4 q5 q6 q7 q8 qM
    (with_reducible refine wpTree_one (by with_unfolding_all exact rfl) ?_)
    gi_wp2_with fail
    (first | refine ⟨trivial, ((callsIn_wide (n := 8)).2 (RegsNew_any _)).mono ?_⟩ | refine ((callsIn_wide (n := 8)).2 (RegsNew_any _)).mono ?_)
    rintro e y ⟨rfl, hRg, hb⟩
    obtain ⟨R, hR⟩ : ∃ R, R = x.drew.heap.size := ⟨_, rfl⟩
    rw [← hR] at hRg ⊢
    have hRl : w.heap.size ≤ R := by rw [hR]; exact HBx.out.size
    have hby : Below x.heap.size x y := (Below.refl _ _).drew.trans hb
    have HRg := Lib.hid hRg
    have HKy := Lib.hid hby
    clear hR hb hRg
    gi_wp2_with fail
    ((with_reducible refine outQ_normal ?_ ?_); exact ⟨⟨_, Turns.of_below hby _⟩, rfl⟩)
    (with_reducible refine wpTree_one (by with_unfolding_all exact rfl) ?_)
    gi_wp2_with fail
    (first | refine ⟨trivial, ((callsIn_wide (n := 8)).2 ((HSt D M R G _ HRg.out).out)).mono ?_⟩ | refine ((callsIn_wide (n := 8)).2 ((HSt D M R G _ HRg.out).out)).mono ?_)
    rintro e z ⟨E, P, T, K, C, mb, rfl, hE, hP, hT, hK, hC, hEl, hPl, hTl, hKl, hb⟩
    have hyx := HKy.out.size
    have hxw := HBx.out.size
    have hmb := hC.hm
    have hCl := hC.hC
    have HKz : Hid (Below x.heap.size x z) := HKy.out.trans (hb.mono hyx)
    have HBz : Hid (Below w.heap.size w z) := HBx.out.trans (HKz.out.mono hxw)
    have HRD2 := Lib.hid (HRD.out.below HKz.out HRD.out.lt)
    have HRM2 := Lib.hid (HRM.out.below HKz.out HRM.out.lt)
    have HL2 := Lib.hid (HLx.out.below HKz.out HLx.out.lt)
    have HM2 := Lib.hid (HMx.out.turns (Turns.of_below HKz.out []) (by simp))
    have HG2 := Lib.hid (HGx.out.turns (Turns.of_below HKz.out []) (by simp) (by simp))
    have HR2 := Lib.hid (HRg.out.below hb HRg.out.lt)
    have hWx : WM < x.heap.size := HMx.out.lt
    have hLx : LB < x.heap.size := HLx.out.lt
    have HE2 := Lib.hid hE
    have HP2 := Lib.hid hP
    have HT2 := Lib.hid hT
    have HK2 := Lib.hid hK
    have HC2 := Lib.hid hC
    clear hb hE hP hT hK hC HRD HRM HLx HMx HRx HGx HRg HSt
    gi_wp2_with fail
    ((with_reducible refine outQ_normal ?_ ?_); exact ⟨⟨_, Turns.of_below HKz.out _⟩, rfl⟩)
    (repeat ((with_reducible refine wpTree_take (by with_unfolding_all exact rfl) ?_); (with_reducible (show wpQuiet _ _ _ _ (_ :: _) _)); go_big_quiet_step (fail); (with_reducible refine wpQuiet_nil ?_)))
    with_reducible refine wpTree_nil ?_
    refine NoPanic.normal ?_
    have m0 : z.cell? ⟨M, 0, none⟩ = some (.pointer none) := by rw [HRM2.out.cell]; rfl
    have n0 := HRM2.out.frozen 0
    have hU : RowsOf z [M] [36] := RowsOf.one HRM2.out
    have hTM : Turns z (z.setCell ⟨M, 0, none⟩ (.pointer (some ⟨E, 0, none⟩))) [M] := (Turns.refl _ _).setCell (by simp) _
    have HRM3 : Hid (Row (z.setCell ⟨M, 0, none⟩ (.pointer (some ⟨E, 0, none⟩))) M 36 #[.pointer (some ⟨E, 0, none⟩), .pointer (some ⟨D, 0, none⟩)]) := by
      have := HRM2.out.put 0 (.pointer (some ⟨E, 0, none⟩))
      unfold Hid; simpa using this
    have hGL := HG2.out.hL
    have hGl := HG2.out.hG
    have hLM : L ∉ [M] := hU.notOwn HG2.out.own (by decide) _ rfl
    have hsz : (z.setCell ⟨M, 0, none⟩ (.pointer (some ⟨E, 0, none⟩))).heap.size = z.heap.size := by simp
    have hlts : D < z.heap.size ∧ M < z.heap.size ∧ R < z.heap.size ∧ G < z.heap.size ∧ E < z.heap.size ∧ P < z.heap.size ∧ T < z.heap.size ∧ K < z.heap.size ∧ C < z.heap.size ∧ mb < z.heap.size ∧ LB < z.heap.size ∧ WM < z.heap.size ∧ L < z.heap.size := ⟨HRD2.out.lt, HRM2.out.lt, HR2.out.lt, HG2.out.row.lt, HE2.out.lt, HP2.out.lt, HT2.out.lt, Row.lt HK2.out, HC2.out.row.lt, HC2.out.cnt.lt, HL2.out.lt, HM2.out.lt, hGL.2.1⟩
    have HF : Hid (AbIs (z.setCell ⟨M, 0, none⟩ (.pointer (some ⟨E, 0, none⟩))) ⟨⟨P, D, M, R, G, T, K, C⟩, E, L, Lc, mb, none, 0, LB, WM, none, 0, none, 0, 0⟩ (Bn.ts ⟨⟨P, D, M, R, G, T, K, C⟩, E, L, Lc, mb, none, 0, LB, WM, none, 0, none, 0, 0⟩) [] ⟨cb, cp, cs, cu, co, cr, cg, ca, cz⟩ (Ab.new ⟨cb, cp, cs, cu, co, cr, cg, ca, cz⟩)) := by
      have ht : (totalI ⟨cb, cp, cs, cu, co, cr, cg, ca, cz⟩).toNat = tn := by have := HTn.out; simp only [totalI] at *; omega
      have hg : (cu / cg).toNat = gn := by have := HGn.out; (try simp only at *); omega
      refine ⟨AbOk.new HOk.out, HRM3.out, hU.row hTM HE2.out (by decide), ?_, hU.row hTM HP2.out (by decide), hU.row hTM HR2.out (by decide), ?_, ⟨false, hU.row hTM HT2.out (by decide)⟩, hU.row hTM HK2.out (by decide), ⟨[], ?_, rfl, by simp⟩, ⟨fun _ => .slice none 0 0, ?_, fun p hp => rfl⟩, ⟨0, fun _ => Option.none, ?_, ⟨by simp, by simp [Ab.new]⟩⟩, World.ownsRow_nil _ _ _ _, ⟨[], World.ownsRow_nil _ _ _ _⟩, fun k hk => hk, by simp, ?_, by simp, by show mb ≠ WM; omega⟩
      · rw [ht]; exact hU.row hTM HRD2.out (by decide)
      · show Grd.GHeld _ 0 G L Lc (List.replicate (cu / cg).toNat 0)
        rw [hg]; exact guard_rows hU hTM (HG2.out.mono (Nat.zero_le _)) (by decide) hLM
      · have := held_rows hU hTM HC2.out (by decide) (by decide) (by simp)
        exact this.mono (Nat.zero_le _)
      · rw [ht]; exact hU.row hTM HL2.out (by decide)
      · exact hU.map hTM HM2.out
      · intro k hk
        rw [hsz]
        simp only [Bn.ts, Vca.blk, List.append_nil, List.mem_cons, List.not_mem_nil, or_false] at hk
        omega
    have HBf : Hid (Below w.heap.size w (z.setCell ⟨M, 0, none⟩ (.pointer (some ⟨E, 0, none⟩)))) := HBz.out.setCell hMl _
    have HTl : Hid (∀ k ∈ Bn.ts ⟨⟨P, D, M, R, G, T, K, C⟩, E, L, Lc, mb, none, 0, LB, WM, none, 0, none, 0, 0⟩, w.heap.size ≤ k) := by
      intro k hk
      simp only [Bn.ts, Vca.blk, List.append_nil, List.mem_cons, List.not_mem_nil, or_false] at hk
      omega
    clear hU hTM HRM3 hGL hGl hLM hsz hlts HE2 HP2 HT2 HK2 HC2 HRD2 HRM2 HL2 HM2 HG2 HR2
    go_wp2
    go_ret2
    exact ⟨_, _, _, rfl, HF.out, HBf.out, HTl.out, rfl⟩
end Go.Proofs.YtclhhdodebdmjaaGreat

namespace Go.Proofs.YtclhhdodebdmjaaGreat
open Go.RowKit Go.MapKept Go.ChangeMaps
set_option linter.unusedVariables false
set_option linter.unusedSimpArgs false
set_option maxRecDepth 100000

theorem exec_box {P : Program} {a : Act} {w : World} {o : Oper} {t : TypeId} {x : Nat} {v : Value} {cs : Array Value} (hop : o.op = .box t (.tmp x)) (hv : a.tmps[x]? = some v) (hc : v.cells = cs) : (execOp a.eval o).run P w = .ok (.value (.pointer (some ⟨w.heap.size, 0, none⟩))) (w.alloc (.cells cs t)) := by
  have e : a.eval (.tmp x) = v := by simp [Act.eval, Array.getD_eq_getD_getElem?, hv]
  subst hc
  simp only [execOp, hop, e, Sem.run_bind, Instr.box, newVar, newRow, run_newObj_alloc, Sem.run_pure, Result.andThen_ok]
theorem rGroups_any (c : Cf) (hg : 1 ≤ c.group) (hu : 0 ≤ c.user ∧ c.user ≤ 16384) (w : World) : Calls Tryz.prog 56 #[.agg c.l.toArray] w fun e w' => e = .returned (.int .i64 (c.user / c.group)) ∧ Below w.heap.size w w' := by
  obtain ⟨cb, cp, cs, cu, co, cr, cg, ca, cz⟩ := c
  simp only [Cf.l] at *
  have m11 : cu.tdiv cg = cu / cg := Int.tdiv_eq_ediv_of_nonneg (by omega)
  have g0 : ¬ cg = 0 := by omega
  have g1 : ¬ cg < 1 := by omega
  have HD : 0 ≤ cu / cg ∧ cu / cg ≤ cu := ⟨Int.ediv_nonneg (by omega) (by omega), Int.ediv_le_self _ (by omega)⟩
  have w11 : wrap64 (cu / cg) = cu / cg := by unfold wrap64; omega
  clear HD
  have HB : Hid (Below w.heap.size w (w.alloc (.cells #[.int .i64 cb, .int .i64 cp, .int .i64 cs, .int .i64 cu, .int .i64 co, .int .i64 cr, .int .i64 cg, .int .i64 ca, .int .i64 cz] 23))) := by unfold Hid; (repeat (first | (with_reducible refine Below.drew ?_) | (with_reducible refine below_drewN0 ?_ _) | ((with_reducible refine Below.setCell ?_ ?_ _); rotate_left; focus (first | omega | (simp; done) | (simp; omega) | (simp at *; omega))) | ((with_reducible refine Below.alloc ?_ ?_ _); rotate_left; focus (first | omega | (simp; done) | (simp; omega) | (simp at *; omega))) | (with_reducible exact Below.refl _ _)))
  go_enter Tryz.func56, Tryz.ntmps56
  go_wp2
  go_ret
  exact ⟨rfl, HB.out⟩
theorem rQNew_yes (n : Int) (h0 : 0 ≤ n) (h1 : n ≤ 64) (w : World) : Calls Tryz.prog 59 #[.int .i64 n] w fun e w' => ∃ Q, e = .returned (.tuple #[.pointer (some ⟨Q, 0, none⟩), .int .i64 0]) ∧ Row w' Q 230 #[.int .i64 n, .slice none 0 0, .int .i64 0] ∧ w.heap.size ≤ Q ∧ Below w.heap.size w w' := by
  have d1 : ¬ n < 0 := by omega
  have d2 : ¬ n > 64 := by omega
  go_enter Tryz.func59, Tryz.ntmps59
  go_wp2
  go_ret2
  exact ⟨w.heap.size, rfl, Row.fresh _ _ _, Nat.le_refl _, (Below.refl _ _).alloc (Nat.le_refl _) _⟩
theorem bool_info : (Tryz.prog.info? 4).map (fun i => (i.zero, i.size, i.bytes)) = some (some (.bool false), 1, 1) := by kernel_rfl
theorem blss_info : (Tryz.prog.info? 54).map (fun i => (i.zero, i.size, i.bytes)) = some (some (.slice none 0 0), 1, 24) := by kernel_rfl
theorem made_rep (v : Value) (n : Nat) : madeCells #[v] n = ((List.range n).map fun _ => v).toArray := by
  apply Array.ext
  · simp [madeCells]
  · intro i h1 h2; simp [madeCells, Nat.mod_one]
theorem make_bools (n : Nat) (hn : n ≤ 100000) (v : World) : (Instr.makeSlice 64 (.int .i64 (n : Int)) (.int .i64 (n : Int))).run Tryz.prog v = .ok (.slice (some ⟨v.heap.size, 0, none⟩) n n) (v.alloc (.cells ((List.range n).map fun _ => Value.bool false).toArray 4)) := by
  obtain ⟨i, hi, hz0, hz1, hz2⟩ := info_parts bool_info
  rw [← made_rep]
  exact run_make_row (P := Tryz.prog) 64 4 i _ Tryz.underlying64 hi hz0 hz1 rfl .i64 .i64 n (by rw [hz2]; omega) (by omega) v
theorem make_blss (n : Nat) (hn : n ≤ 100000) (v : World) : (Instr.makeSlice 65 (.int .i64 (n : Int)) (.int .i64 (n : Int))).run Tryz.prog v = .ok (.slice (some ⟨v.heap.size, 0, none⟩) n n) (v.alloc (.cells ((List.range n).map fun _ => Value.slice none 0 0).toArray 54)) := by
  obtain ⟨i, hi, hz0, hz1, hz2⟩ := info_parts blss_info
  rw [← made_rep]
  exact run_make_row (P := Tryz.prog) 65 54 i _ Tryz.underlying65 hi hz0 hz1 rfl .i64 .i64 n (by rw [hz2]; omega) (by omega) v
end Go.Proofs.YtclhhdodebdmjaaGreat

namespace Go.Proofs.YtclhhdodebdmjaaGreat
open Go.RowKit Go.MapKept Go.ChangeMaps
set_option linter.unusedVariables false
set_option linter.unusedSimpArgs false
set_option maxRecDepth 100000

def z64 : Array Value := #[.int .u8 0, .int .u8 0, .int .u8 0, .int .u8 0, .int .u8 0, .int .u8 0, .int .u8 0, .int .u8 0, .int .u8 0, .int .u8 0, .int .u8 0, .int .u8 0, .int .u8 0, .int .u8 0, .int .u8 0, .int .u8 0, .int .u8 0, .int .u8 0, .int .u8 0, .int .u8 0, .int .u8 0, .int .u8 0, .int .u8 0, .int .u8 0, .int .u8 0, .int .u8 0, .int .u8 0, .int .u8 0, .int .u8 0, .int .u8 0, .int .u8 0, .int .u8 0, .int .u8 0, .int .u8 0, .int .u8 0, .int .u8 0, .int .u8 0, .int .u8 0, .int .u8 0, .int .u8 0, .int .u8 0, .int .u8 0, .int .u8 0, .int .u8 0, .int .u8 0, .int .u8 0, .int .u8 0, .int .u8 0, .int .u8 0, .int .u8 0, .int .u8 0, .int .u8 0, .int .u8 0, .int .u8 0, .int .u8 0, .int .u8 0, .int .u8 0, .int .u8 0, .int .u8 0, .int .u8 0, .int .u8 0, .int .u8 0, .int .u8 0, .int .u8 0]
def nilsA (n : Nat) : Array Value := ((List.range n).map fun _ => Value.slice none 0 0).toArray
def boolsA (n : Nat) : Array Value := ((List.range n).map fun _ => Value.bool false).toArray
def rmks (n : Nat) : List Mk :=
  [⟨2, 20, fun g => .pointer (some ⟨g, 0, none⟩), .cells #[.int .i64 0, .int .i64 0, .int .u16 0] 72⟩, ⟨4, 22, fun g => .pointer (some ⟨g, 0, none⟩), .cells z64 139⟩,
   ⟨6, 24, fun g => .slice (some ⟨g, 0, none⟩) n n, .cells (nilsA n) 53⟩, ⟨8, 26, fun g => .slice (some ⟨g, 0, none⟩) n n, .cells (nilsA n) 53⟩, ⟨10, 28, fun g => .slice (some ⟨g, 0, none⟩) n n, .cells (boolsA n) 4⟩, ⟨12, 30, fun g => .slice (some ⟨g, 0, none⟩) n n, .cells (nilsA n) 54⟩]
def madeRow (c : Cf) (tn P R HB WB IB OB : Nat) (g t k q : Value) : Array Value :=
  (c.l ++ [Value.pointer (some ⟨P, 0, none⟩), .pointer (some ⟨R, 0, none⟩), g, t, k, q, .slice (some ⟨HB, 0, none⟩) tn tn, .slice (some ⟨WB, 0, none⟩) tn tn, .slice (some ⟨IB, 0, none⟩) tn tn,
    .int .u32 0, .int .i64 0, .bool false, .bool false, .int .i64 0, .int .i64 0, .bool false, .bool false, .int .i64 0, .slice none 0 0, .int .i64 0, .bool false, .slice none 0 0, .slice (some ⟨OB, 0, none⟩) tn tn, .int .i64 0, .int .i64 0]).toArray
abbrev ptV (n : Nat) : Value := .pointer (some ⟨n, 0, none⟩)
/-- What has been made so far. -/
structure RMade (w0 X : World) (c : Cf) (tn M P R HB WB IB OB : Nat) (g t k q : Value) : Prop where
  cf : Row X w0.heap.size 23 c.l.toArray
  m : Row X M 67 (madeRow c tn P R HB WB IB OB g t k q)
  p : Row X P 72 #[.int .i64 0, .int .i64 0, .int .u16 0]
  r : Row X R 139 z64
  hb : Row X HB 53 (nilsA tn)
  wb : Row X WB 53 (nilsA tn)
  ib : Row X IB 4 (boolsA tn)
  ob : Row X OB 54 (nilsA tn)
  bel : Below w0.heap.size w0 X
  lo : w0.heap.size ≤ M ∧ w0.heap.size ≤ P ∧ w0.heap.size ≤ R ∧ w0.heap.size ≤ HB ∧ w0.heap.size ≤ WB ∧ w0.heap.size ≤ IB ∧ w0.heap.size ≤ OB
  ne : HB ≠ WB
section
variable {w0 X X' : World} {c : Cf} {tn M P R HB WB IB OB : Nat} {g t k q : Value}
theorem RMade.below (h : RMade w0 X c tn M P R HB WB IB OB g t k q) (hb : Below X.heap.size X X') : RMade w0 X' c tn M P R HB WB IB OB g t k q :=
  ⟨h.cf.below hb h.cf.lt, h.m.below hb h.m.lt, h.p.below hb h.p.lt, h.r.below hb h.r.lt, h.hb.below hb h.hb.lt, h.wb.below hb h.wb.lt, h.ib.below hb h.ib.lt, h.ob.below hb h.ob.lt, h.bel.trans (hb.mono h.bel.size), h.lo, h.ne⟩
theorem RMade.put (h : RMade w0 X c tn M P R HB WB IB OB g t k q) {g' t' k' q' : Value} {i : Nat} {v : Value} (hr : Row (X.setCell ⟨M, i, none⟩ v) M 67 (madeRow c tn P R HB WB IB OB g' t' k' q')) : RMade w0 (X.setCell ⟨M, i, none⟩ v) c tn M P R HB WB IB OB g' t' k' q' ∧ Turns X (X.setCell ⟨M, i, none⟩ v) [M] := by
  have hT : Turns X (X.setCell ⟨M, i, none⟩ v) [M] := (Turns.refl _ _).setCell (by simp) _
  have hU := RowsOf.one h.m
  exact ⟨⟨hU.row hT h.cf (by decide), hr, hU.row hT h.p (by decide), hU.row hT h.r (by decide), hU.row hT h.hb (by decide), hU.row hT h.wb (by decide), hU.row hT h.ib (by decide), hU.row hT h.ob (by decide), h.bel.setCell h.lo.1 _, h.lo, h.ne⟩, hT⟩
end
/- A pointer of the card is stored. -/
set_option maxHeartbeats 4000000 in
theorem rcNew_ok (c : Cf) (h : OkC c) (w : World) : Calls Tryz.prog 20 #[.agg c.l.toArray] w fun e w' => ∃ b T, e = .returned (.tuple #[.pointer (some ⟨b.M, 0, none⟩), .int .i64 0]) ∧ RcIs w' b T [] c (Ab.new c) ∧ Below w.heap.size w w' ∧ ∀ k ∈ T, w.heap.size ≤ k := by
  have HC := fun W => Lib.hid (rCheck_any c W)
  rw [checkV_ok h] at HC
  have hpl := h.1
  have HOk := Lib.hid h
  have hgr := h.1.group
  have hus := h.1.user
  have hbo := h.1.boot
  have hrp := h.1.rpa
  have hca := h.1.cache
  have HG := fun W => Lib.hid (rGroups_any c hgr.1 ⟨by omega, hus.2⟩ W)
  have hgn : 1 ≤ c.user / c.group ∧ c.user / c.group ≤ 32 := ⟨Int.le_ediv_of_mul_le (by omega) (by omega), h.1.k11⟩
  obtain ⟨gn, hgn'⟩ : ∃ gn : Nat, c.user / c.group = gn := ⟨(c.user / c.group).toNat, by omega⟩
  rw [hgn'] at HG hgn
  have HGN := fun W => Lib.hid (Grd.refNew_yes gn (by omega) (by omega) W)
  obtain ⟨tn, htn⟩ : ∃ tn : Nat, c.user + 2 * c.boot + c.rpa = tn := ⟨(c.user + 2 * c.boot + c.rpa).toNat, by omega⟩
  have htn2 : tn ≤ 20000 := by omega
  have s1 : wrap64 (2 * c.boot) = 2 * c.boot := by unfold wrap64; omega
  have s2 : wrap64 (c.user + 2 * c.boot) = c.user + 2 * c.boot := by unfold wrap64; omega
  have s3 : wrap64 (c.user + 2 * c.boot + c.rpa) = tn := by unfold wrap64; omega
  have HAN := fun W => Lib.hid (rANew_ok c h 0 0 0 0 0 W)
  have HRN := fun W => Lib.hid (rRNew_any c.rpa hrp .new ⟨by simp [Rk.new], by simp [Rk.new], by simp [Rk.new], fun _ => ⟨rfl, rfl⟩⟩ W)
  have HQN := fun W => Lib.hid (rQNew_yes c.cache hca.1 hca.2 W)
  have HMs := fun v => Lib.hid (make_slices tn (by omega) v)
  have HMb := fun v => Lib.hid (make_bools tn (by omega) v)
  have HMl := fun v => Lib.hid (make_blss tn (by omega) v)
  have HGn := Lib.hid hgn'
  have HTn := Lib.hid htn
  clear hgn' htn hgr hus hbo hrp hca hpl h
  have hR := fun o => Lib.hid (Row.fresh w 23 o)
  have HB1 : ∀ o, Hid (Below w.heap.size w (w.alloc o)) := fun o => (Below.refl _ _).alloc (Nat.le_refl _) _
  obtain ⟨cb, cp, cs, cu, co, cr, cg, ca, cz⟩ := c
  simp only [Cf.l] at HC HG HAN s1 s2 s3 HRN HQN ⊢
  go_enter Tryz.func20, Tryz.ntmps20
  go_wp2_with fail
  refine (HC _).out.mono ?_
  rintro e w1 ⟨rfl, hb⟩
  have HB2 : Hid (Below w.heap.size w w1) := (HB1 _).out.trans (hb.mono (by simp))
  have HR2 := Lib.hid ((hR _).out.below hb (hR _).out.lt)
  clear hb HB1 hR HC
  have q3 : w1.cell? ⟨w.heap.size, 3, none⟩ = some (.int .i64 cu) := by rw [HR2.out.cell]; rfl
  have q4 : w1.cell? ⟨w.heap.size, 4, none⟩ = some (.int .i64 co) := by rw [HR2.out.cell]; rfl
  have q5 : w1.cell? ⟨w.heap.size, 5, none⟩ = some (.int .i64 cr) := by rw [HR2.out.cell]; rfl
  go_wp2
  simp only [s1, s2, s3]
  clear q3 q4 q5 s1 s2 s3
  have hKR : ∀ t : Kept w1 [], Row t.u w.heap.size 23 #[.int .i64 cb, .int .i64 cp, .int .i64 cs, .int .i64 cu, .int .i64 co, .int .i64 cr, .int .i64 cg, .int .i64 ca, .int .i64 cz] := fun t => t.h.row HR2.out (by simp)
  have q0 : ∀ t : Kept w1 [], t.u.cell? ⟨w.heap.size, 0, none⟩ = some (.int .i64 cb) := fun t => by rw [(hKR t).cell]; rfl
  have q1 : ∀ t : Kept w1 [], t.u.cell? ⟨w.heap.size, 1, none⟩ = some (.int .i64 cp) := fun t => by rw [(hKR t).cell]; rfl
  have q2 : ∀ t : Kept w1 [], t.u.cell? ⟨w.heap.size, 2, none⟩ = some (.int .i64 cs) := fun t => by rw [(hKR t).cell]; rfl
  have q3 : ∀ t : Kept w1 [], t.u.cell? ⟨w.heap.size, 3, none⟩ = some (.int .i64 cu) := fun t => by rw [(hKR t).cell]; rfl
  have q4 : ∀ t : Kept w1 [], t.u.cell? ⟨w.heap.size, 4, none⟩ = some (.int .i64 co) := fun t => by rw [(hKR t).cell]; rfl
  have q5 : ∀ t : Kept w1 [], t.u.cell? ⟨w.heap.size, 5, none⟩ = some (.int .i64 cr) := fun t => by rw [(hKR t).cell]; rfl
  have q6 : ∀ t : Kept w1 [], t.u.cell? ⟨w.heap.size, 6, none⟩ = some (.int .i64 cg) := fun t => by rw [(hKR t).cell]; rfl
  have q7 : ∀ t : Kept w1 [], t.u.cell? ⟨w.heap.size, 7, none⟩ = some (.int .i64 ca) := fun t => by rw [(hKR t).cell]; rfl
  have q8 : ∀ t : Kept w1 [], t.u.cell? ⟨w.heap.size, 8, none⟩ = some (.int .i64 cz) := fun t => by rw [(hKR t).cell]; rfl
  clear hKR
  refine region_makes [] [0, 1, 3, 5, 7, 9, 11] [2, 4, 6, 8, 10, 12] [13, 14, 15] (by kernel_rfl) (by kernel_rfl) (fun _ _ _ _ _ h => h) ?_
  simp only [List.filterMap_cons, List.getElem?_cons_zero, List.getElem?_cons_succ, List.filterMap_nil]
  (repeat ((show wpQuiet _ _ _ _ (_ :: _) _); go_big_quiet_step (fail)))
  refine wpQuiet_nil ?_
  clear q0 q1 q2 q3 q4 q5 q6 q7 q8
  refine ⟨rmks tn, rfl, ⟨by unfold rmks; simp, by unfold rmks; simp, fun m hm => ?_⟩, fun g u hf => ?_⟩
  · unfold rmks at hm
    simp only [List.mem_cons, List.not_mem_nil, or_false] at hm
    rcases hm with rfl | rfl | rfl | rfl | rfl | rfl
    · exact ⟨_, rfl, (by show (2 : Nat) < 15; omega), rfl, rfl, fun a v h => exec_box rfl ((h 19 (by unfold rmks; simp)).trans rfl) rfl⟩
    · exact ⟨_, rfl, (by show (4 : Nat) < 15; omega), rfl, rfl, fun a v h => exec_box rfl ((h 21 (by unfold rmks; simp)).trans rfl) rfl⟩
    · exact ⟨_, rfl, (by show (6 : Nat) < 15; omega), rfl, rfl, fun a v h => exec_mk rfl ((h 23 (by unfold rmks; simp)).trans rfl) (HMs v).out⟩
    · exact ⟨_, rfl, (by show (8 : Nat) < 15; omega), rfl, rfl, fun a v h => exec_mk rfl ((h 25 (by unfold rmks; simp)).trans rfl) (HMs v).out⟩
    · exact ⟨_, rfl, (by show (10 : Nat) < 15; omega), rfl, rfl, fun a v h => exec_mk rfl ((h 27 (by unfold rmks; simp)).trans rfl) (HMb v).out⟩
    · exact ⟨_, rfl, (by show (12 : Nat) < 15; omega), rfl, rfl, fun a v h => exec_mk rfl ((h 29 (by unfold rmks; simp)).trans rfl) (HMl v).out⟩
  · have hbu := hf.below
    have hP := hf.at' ⟨2, 20, fun g => .pointer (some ⟨g, 0, none⟩), .cells #[.int .i64 0, .int .i64 0, .int .u16 0] 72⟩ (by unfold rmks; exact List.mem_cons_self)
    have hR := hf.at' ⟨4, 22, fun g => .pointer (some ⟨g, 0, none⟩), .cells z64 139⟩ (by unfold rmks; exact (List.mem_cons_of_mem _ List.mem_cons_self))
    have hHB := hf.at' ⟨6, 24, fun g => .slice (some ⟨g, 0, none⟩) tn tn, .cells (nilsA tn) 53⟩ (by unfold rmks; exact (List.mem_cons_of_mem _ (List.mem_cons_of_mem _ List.mem_cons_self)))
    have hWB := hf.at' ⟨8, 26, fun g => .slice (some ⟨g, 0, none⟩) tn tn, .cells (nilsA tn) 53⟩ (by unfold rmks; exact (List.mem_cons_of_mem _ (List.mem_cons_of_mem _ (List.mem_cons_of_mem _ List.mem_cons_self))))
    have hIB := hf.at' ⟨10, 28, fun g => .slice (some ⟨g, 0, none⟩) tn tn, .cells (boolsA tn) 4⟩ (by unfold rmks; exact (List.mem_cons_of_mem _ (List.mem_cons_of_mem _ (List.mem_cons_of_mem _ (List.mem_cons_of_mem _ List.mem_cons_self)))))
    have hOB := hf.at' ⟨12, 30, fun g => .slice (some ⟨g, 0, none⟩) tn tn, .cells (nilsA tn) 54⟩ (by unfold rmks; exact (List.mem_cons_of_mem _ (List.mem_cons_of_mem _ (List.mem_cons_of_mem _ (List.mem_cons_of_mem _ (List.mem_cons_of_mem _ List.mem_cons_self))))))
    have hne := hf.ne ⟨6, 24, fun g => .slice (some ⟨g, 0, none⟩) tn tn, .cells (nilsA tn) 53⟩ (by unfold rmks; exact (List.mem_cons_of_mem _ (List.mem_cons_of_mem _ List.mem_cons_self))) ⟨8, 26, fun g => .slice (some ⟨g, 0, none⟩) tn tn, .cells (nilsA tn) 53⟩ (by unfold rmks; exact (List.mem_cons_of_mem _ (List.mem_cons_of_mem _ (List.mem_cons_of_mem _ List.mem_cons_self)))) (fun e => absurd e (by decide : (6 : Nat) ≠ 8))
    simp only at hP hR hHB hWB hIB hOB hne
    have e0 : ∀ a : Act, putsM a (rmks tn) g = (((((a.put (some 20) (.pointer (some ⟨g 2, 0, none⟩))).put (some 22) (.pointer (some ⟨g 4, 0, none⟩))).put (some 24) (.slice (some ⟨g 6, 0, none⟩) tn tn)).put (some 26) (.slice (some ⟨g 8, 0, none⟩) tn tn)).put (some 28) (.slice (some ⟨g 10, 0, none⟩) tn tn)).put (some 30) (.slice (some ⟨g 12, 0, none⟩) tn tn) := fun a => rfl
    rw [e0]
    clear e0 hf
    obtain ⟨P, eP⟩ : ∃ P, g 2 = P := ⟨_, rfl⟩
    obtain ⟨R, eR⟩ : ∃ R, g 4 = R := ⟨_, rfl⟩
    obtain ⟨HB, eHB⟩ : ∃ HB, g 6 = HB := ⟨_, rfl⟩
    obtain ⟨WB, eWB⟩ : ∃ WB, g 8 = WB := ⟨_, rfl⟩
    obtain ⟨IB, eIB⟩ : ∃ IB, g 10 = IB := ⟨_, rfl⟩
    obtain ⟨OB, eOB⟩ : ∃ OB, g 12 = OB := ⟨_, rfl⟩
    rw [eP] at hP ⊢
    rw [eR] at hR ⊢
    rw [eHB] at hHB hne ⊢
    rw [eWB] at hWB hne ⊢
    rw [eIB] at hIB ⊢
    rw [eOB] at hOB ⊢
    clear eP eR eHB eWB eIB eOB
    have HP0 : Hid (Row u P 72 #[.int .i64 0, .int .i64 0, .int .u16 0]) := hP.2
    have HR0 : Hid (Row u R 139 z64) := hR.2
    have HHB0 : Hid (Row u HB 53 (nilsA tn)) := hHB.2
    have HWB0 : Hid (Row u WB 53 (nilsA tn)) := hWB.2
    have HIB0 : Hid (Row u IB 4 (boolsA tn)) := hIB.2
    have HOB0 : Hid (Row u OB 54 (nilsA tn)) := hOB.2
    have HBu : Hid (Below w1.heap.size w1 u) := by
      have : Below w1.drew.heap.size w1.drew u := hbu
      exact ⟨this.os, this.tape, this.output, this.size, fun k hk => this.block k hk⟩
    have HLo : Hid (w1.heap.size ≤ P ∧ w1.heap.size ≤ R ∧ w1.heap.size ≤ HB ∧ w1.heap.size ≤ WB ∧ w1.heap.size ≤ IB ∧ w1.heap.size ≤ OB) := ⟨hP.1, hR.1, hHB.1, hWB.1, hIB.1, hOB.1⟩
    have HNe := Lib.hid hne
    clear hP hR hHB hWB hIB hOB hne hbu HMs HMb HMl
    simp only [Act.put, List.setIfInBounds_toArray, List.set_cons_zero, List.set_cons_succ]
    refine wpSeqS_step ?_
    go_wp2_with fail
    refine outQ_normal (Turns.of_below HBu.out []) ?_
    refine wpSeqS_step ?_
    obtain ⟨c0, hc0⟩ : ∃ c0 : Cf, c0 = ⟨cb, cp, cs, cu, co, cr, cg, ca, cz⟩ := ⟨_, rfl⟩
    obtain ⟨v, hv⟩ : ∃ v, v = u.alloc (.cells (madeRow ⟨cb, cp, cs, cu, co, cr, cg, ca, cz⟩ tn P R HB WB IB OB (.pointer none) (.pointer none) (.pointer none) (.pointer none)) 67) := ⟨_, rfl⟩
    obtain ⟨M, hM⟩ : ∃ M, M = u.heap.size := ⟨_, rfl⟩
    have hbv : Below u.heap.size u v := by rw [hv]; exact (Below.refl _ _).alloc (Nat.le_refl _) _
    have HA0 : Hid (RMade w v ⟨cb, cp, cs, cu, co, cr, cg, ca, cz⟩ tn M P R HB WB IB OB (.pointer none) (.pointer none) (.pointer none) (.pointer none)) := by
      have hs := HB2.out.size
      have hl := HLo.out
      have hbs := HBu.out.size
      refine ⟨(HR2.out.below HBu.out HR2.out.lt).below hbv (HR2.out.below HBu.out HR2.out.lt).lt, by rw [hv, hM]; exact Row.fresh _ _ _, HP0.out.below hbv HP0.out.lt, HR0.out.below hbv HR0.out.lt, HHB0.out.below hbv HHB0.out.lt, HWB0.out.below hbv HWB0.out.lt, HIB0.out.below hbv HIB0.out.lt, HOB0.out.below hbv HOB0.out.lt, (HB2.out.trans (HBu.out.mono hs)).trans (hbv.mono (by omega)), by omega, HNe.out⟩
    have HTv : Hid (Turns w1 v []) := Turns.of_below (HBu.out.trans (hbv.mono HBu.out.size)) []
    clear HP0 HR0 HHB0 HWB0 HIB0 HOB0 hbv HLo HNe HBu HR2 HB2 hc0
    go_wp2_with fail
    rw [← hM]
    refine outQ_normal (by have h := HTv.out; rw [hv] at h; exact h) ?_
    rw [hM]
    have hv2 : v = u.alloc (.cells #[.int .i64 cb, .int .i64 cp, .int .i64 cs, .int .i64 cu, .int .i64 co, .int .i64 cr, .int .i64 cg, .int .i64 ca, .int .i64 cz, .pointer (some ⟨P, 0, none⟩), .pointer (some ⟨R, 0, none⟩), .pointer none, .pointer none, .pointer none, .pointer none, .slice (some ⟨HB, 0, none⟩) tn tn, .slice (some ⟨WB, 0, none⟩) tn tn, .slice (some ⟨IB, 0, none⟩) tn tn, .int .u32 0, .int .i64 0, .bool false, .bool false, .int .i64 0, .int .i64 0, .bool false, .bool false, .int .i64 0, .slice none 0 0, .int .i64 0, .bool false, .slice none 0 0, .slice (some ⟨OB, 0, none⟩) tn tn, .int .i64 0, .int .i64 0] 67) := hv
    rw [← hM, ← hv2]
    clear hv hv2 hM HTv
    refine wpSeqS_last ?_
    have q0 : v.cell? ⟨w.heap.size, 0, none⟩ = some (.int .i64 cb) := by rw [HA0.out.cf.cell]; rfl
    have q1 : v.cell? ⟨w.heap.size, 1, none⟩ = some (.int .i64 cp) := by rw [HA0.out.cf.cell]; rfl
    have q2 : v.cell? ⟨w.heap.size, 2, none⟩ = some (.int .i64 cs) := by rw [HA0.out.cf.cell]; rfl
    have q3 : v.cell? ⟨w.heap.size, 3, none⟩ = some (.int .i64 cu) := by rw [HA0.out.cf.cell]; rfl
    have q4 : v.cell? ⟨w.heap.size, 4, none⟩ = some (.int .i64 co) := by rw [HA0.out.cf.cell]; rfl
    have q5 : v.cell? ⟨w.heap.size, 5, none⟩ = some (.int .i64 cr) := by rw [HA0.out.cf.cell]; rfl
    have q6 : v.cell? ⟨w.heap.size, 6, none⟩ = some (.int .i64 cg) := by rw [HA0.out.cf.cell]; rfl
    have q7 : v.cell? ⟨w.heap.size, 7, none⟩ = some (.int .i64 ca) := by rw [HA0.out.cf.cell]; rfl
    have q8 : v.cell? ⟨w.heap.size, 8, none⟩ = some (.int .i64 cz) := by rw [HA0.out.cf.cell]; rfl
    go_wp2_with fail
    refine (HG _).out.mono ?_
    rintro e v1 ⟨rfl, hb⟩
    have HA1 := Lib.hid (HA0.out.below hb)
    clear hb HG q0 q1 q2 q3 q4 q5 q6 q7 q8 HA0
    go_wp2_with fail
    refine (HGN _).out.mono ?_
    rintro e v2 ⟨G, L, Lc, rfl, hG, hb⟩
    have HG2 := Lib.hid (hG.mono HA1.out.bel.size)
    have HA2 := Lib.hid (HA1.out.below hb)
    clear hb hG HGN HA1
    have hU := RowsOf.one HA2.out.m
    obtain ⟨v3, hset⟩ : ∃ v3, v3 = v2.setCell ⟨M, 11, none⟩ (.pointer (some ⟨G, 0, none⟩)) := ⟨_, rfl⟩
    have hput := RMade.put (i := 11) (v := .pointer (some ⟨G, 0, none⟩)) HA2.out (HA2.out.m.put 11 (.pointer (some ⟨G, 0, none⟩)) : Row _ M 67 (madeRow ⟨cb, cp, cs, cu, co, cr, cg, ca, cz⟩ tn P R HB WB IB OB (ptV G) (.pointer none) (.pointer none) (.pointer none)))
    rw [← hset] at hput
    obtain ⟨hmade, hturn⟩ := hput
    have HA3 := Lib.hid hmade
    have HTu := Lib.hid hturn
    have m0 : v2.cell? ⟨M, 11, none⟩ = some (.pointer none) := by rw [HA2.out.m.cell]; rfl
    have g0 := HA2.out.m.frozen 11
    clear hmade hturn
    go_upto_region 6 with fail
    rw [← hset]
    clear hset m0 g0
    have HG3 : Hid (Grd.RHeld v3 w.heap.size G L Lc (List.replicate gn 0)) := HG2.out.turns HTu.out (hU.not HG2.out.row (by decide)) (hU.notOwn HG2.out.own (by decide) _ rfl)
    clear hU HTu HA2 HG2 v
    have q0 : v3.cell? ⟨w.heap.size, 0, none⟩ = some (.int .i64 cb) := by rw [HA3.out.cf.cell]; rfl
    have q1 : v3.cell? ⟨w.heap.size, 1, none⟩ = some (.int .i64 cp) := by rw [HA3.out.cf.cell]; rfl
    have q2 : v3.cell? ⟨w.heap.size, 2, none⟩ = some (.int .i64 cs) := by rw [HA3.out.cf.cell]; rfl
    have q3 : v3.cell? ⟨w.heap.size, 3, none⟩ = some (.int .i64 cu) := by rw [HA3.out.cf.cell]; rfl
    have q4 : v3.cell? ⟨w.heap.size, 4, none⟩ = some (.int .i64 co) := by rw [HA3.out.cf.cell]; rfl
    have q5 : v3.cell? ⟨w.heap.size, 5, none⟩ = some (.int .i64 cr) := by rw [HA3.out.cf.cell]; rfl
    have q6 : v3.cell? ⟨w.heap.size, 6, none⟩ = some (.int .i64 cg) := by rw [HA3.out.cf.cell]; rfl
    have q7 : v3.cell? ⟨w.heap.size, 7, none⟩ = some (.int .i64 ca) := by rw [HA3.out.cf.cell]; rfl
    have q8 : v3.cell? ⟨w.heap.size, 8, none⟩ = some (.int .i64 cz) := by rw [HA3.out.cf.cell]; rfl
    go_wp2_with fail
    refine (HAN _).out.mono ?_
    rintro e v4 ⟨T, rfl, hT, hTl, hb⟩
    have HA4 := Lib.hid (HA3.out.below hb)
    have HT4 := Lib.hid hT
    have HG4 := Lib.hid (HG3.out.below hb)
    have HTl : Hid (w.heap.size ≤ T) := Nat.le_trans HA3.out.bel.size hTl
    clear hb hT hTl HAN HA3 HG3 q0 q1 q2 q3 q4 q5 q6 q7 q8
    have hU := RowsOf.one HA4.out.m
    obtain ⟨v5, hset⟩ : ∃ v5, v5 = v4.setCell ⟨M, 12, none⟩ (.pointer (some ⟨T, 0, none⟩)) := ⟨_, rfl⟩
    have hput := RMade.put (i := 12) (v := .pointer (some ⟨T, 0, none⟩)) HA4.out (HA4.out.m.put 12 (.pointer (some ⟨T, 0, none⟩)) : Row _ M 67 (madeRow ⟨cb, cp, cs, cu, co, cr, cg, ca, cz⟩ tn P R HB WB IB OB (ptV G) (ptV T) (.pointer none) (.pointer none)))
    rw [← hset] at hput
    obtain ⟨hmade, hturn⟩ := hput
    have HA5 := Lib.hid hmade
    have HTu := Lib.hid hturn
    have m0 : v4.cell? ⟨M, 12, none⟩ = some (.pointer none) := by rw [HA4.out.m.cell]; rfl
    have g0 := HA4.out.m.frozen 12
    clear hmade hturn
    go_upto_region 7 with fail
    rw [← hset]
    clear hset m0 g0
    have HG5 : Hid (Grd.RHeld v5 w.heap.size G L Lc (List.replicate gn 0)) := HG4.out.turns HTu.out (hU.not HG4.out.row (by decide)) (hU.notOwn HG4.out.own (by decide) _ rfl)
    have HT5 := Lib.hid (hU.row HTu.out HT4.out (by decide))
    clear hU HTu HA4 HG4 HT4 v3
    have q5 : v5.cell? ⟨w.heap.size, 5, none⟩ = some (.int .i64 cr) := by rw [HA5.out.cf.cell]; rfl
    go_wp2_with fail
    refine (HRN _).out.mono ?_
    rintro e v6 ⟨K, rfl, hK, hKl, hb⟩
    have HA6 := Lib.hid (HA5.out.below hb)
    have HT6 := Lib.hid (HT5.out.below hb HT5.out.lt)
    have HG6 := Lib.hid (HG5.out.below hb)
    have HK6 := Lib.hid hK
    have HKl : Hid (w.heap.size ≤ K) := Nat.le_trans HA5.out.bel.size hKl
    clear hb hK hKl HRN HA5 HG5 HT5 q5
    have hU := RowsOf.one HA6.out.m
    obtain ⟨v7, hset⟩ : ∃ v7, v7 = v6.setCell ⟨M, 13, none⟩ (.pointer (some ⟨K, 0, none⟩)) := ⟨_, rfl⟩
    have hput := RMade.put (i := 13) (v := .pointer (some ⟨K, 0, none⟩)) HA6.out (HA6.out.m.put 13 (.pointer (some ⟨K, 0, none⟩)) : Row _ M 67 (madeRow ⟨cb, cp, cs, cu, co, cr, cg, ca, cz⟩ tn P R HB WB IB OB (ptV G) (ptV T) (ptV K) (.pointer none)))
    rw [← hset] at hput
    obtain ⟨hmade, hturn⟩ := hput
    have HA7 := Lib.hid hmade
    have HTu := Lib.hid hturn
    have m0 : v6.cell? ⟨M, 13, none⟩ = some (.pointer none) := by rw [HA6.out.m.cell]; rfl
    have g0 := HA6.out.m.frozen 13
    clear hmade hturn
    go_upto_region 8 with fail
    rw [← hset]
    clear hset m0 g0
    have HG7 : Hid (Grd.RHeld v7 w.heap.size G L Lc (List.replicate gn 0)) := HG6.out.turns HTu.out (hU.not HG6.out.row (by decide)) (hU.notOwn HG6.out.own (by decide) _ rfl)
    have HT7 := Lib.hid (hU.row HTu.out HT6.out (by decide))
    have HK7 : Hid (RrIs v7 K cr { Rk.new with now := .no, last := .no }) := by
      obtain ⟨la, a, r, nc, y, ka, kr, ky, hk1, hk2⟩ := HK6.out
      exact ⟨la, a, r, nc, y, ka, kr, ky, hU.row HTu.out hk1 (by decide), hk2⟩
    clear hU HTu HA6 HG6 HT6 HK6 v5
    have q7 : v7.cell? ⟨w.heap.size, 7, none⟩ = some (.int .i64 ca) := by rw [HA7.out.cf.cell]; rfl
    go_wp2_with fail
    refine (HQN _).out.mono ?_
    rintro e v8 ⟨Q, rfl, hQ, hQl, hb⟩
    have HA8 := Lib.hid (HA7.out.below hb)
    have HT8 := Lib.hid (HT7.out.below hb HT7.out.lt)
    have HG8 := Lib.hid (HG7.out.below hb)
    have HK8 : Hid (RrIs v8 K cr { Rk.new with now := .no, last := .no }) := by
      obtain ⟨la, a, r, nc, y, ka, kr, ky, hk1, hk2⟩ := HK7.out
      exact ⟨la, a, r, nc, y, ka, kr, ky, hk1.below hb hk1.lt, hk2⟩
    have HQ8 := Lib.hid hQ
    have HQl : Hid (w.heap.size ≤ Q) := Nat.le_trans HA7.out.bel.size hQl
    clear hb hQ hQl HQN HA7 HG7 HT7 HK7 q7
    have hU := RowsOf.one HA8.out.m
    obtain ⟨v9, hset⟩ : ∃ v9, v9 = v8.setCell ⟨M, 14, none⟩ (.pointer (some ⟨Q, 0, none⟩)) := ⟨_, rfl⟩
    have hput := RMade.put (i := 14) (v := .pointer (some ⟨Q, 0, none⟩)) HA8.out (HA8.out.m.put 14 (.pointer (some ⟨Q, 0, none⟩)) : Row _ M 67 (madeRow ⟨cb, cp, cs, cu, co, cr, cg, ca, cz⟩ tn P R HB WB IB OB (ptV G) (ptV T) (ptV K) (ptV Q)))
    rw [← hset] at hput
    obtain ⟨hmade, hturn⟩ := hput
    have HA9 := Lib.hid hmade
    have HTu := Lib.hid hturn
    have m0 : v8.cell? ⟨M, 14, none⟩ = some (.pointer none) := by rw [HA8.out.m.cell]; rfl
    have g0 := HA8.out.m.frozen 14
    clear hmade hturn
    go_upto_region 9 with fail
    rw [← hset]
    clear hset m0 g0
    have HG9 : Hid (Grd.RHeld v9 w.heap.size G L Lc (List.replicate gn 0)) := HG8.out.turns HTu.out (hU.not HG8.out.row (by decide)) (hU.notOwn HG8.out.own (by decide) _ rfl)
    have HT9 := Lib.hid (hU.row HTu.out HT8.out (by decide))
    have HK9 : Hid (RrIs v9 K cr { Rk.new with now := .no, last := .no }) := by
      obtain ⟨la, a, r, nc, y, ka, kr, ky, hk1, hk2⟩ := HK8.out
      exact ⟨la, a, r, nc, y, ka, kr, ky, hU.row HTu.out hk1 (by decide), hk2⟩
    have HQ9 := Lib.hid (hU.row HTu.out HQ8.out (by decide))
    clear hU HTu HA8 HG8 HT8 HK8 HQ8 v7
    have hlo := HA9.out.lo
    have hGlo := HG9.out.hG
    have hLlo := (Vca.own_blk HG9.out.own L (by simp [Vca.blk])).1
    have HF : Hid (RcIs v9 ⟨M, P, R, G, L, Lc, T, K, Q, none, 0, HB, WB, IB, OB, none, 0, none, 0, 0⟩ (Rn.ts ⟨M, P, R, G, L, Lc, T, K, Q, none, 0, HB, WB, IB, OB, none, 0, none, 0, 0⟩) [] ⟨cb, cp, cs, cu, co, cr, cg, ca, cz⟩ (Ab.new ⟨cb, cp, cs, cu, co, cr, cg, ca, cz⟩)) := by
      have ht : (totalI ⟨cb, cp, cs, cu, co, cr, cg, ca, cz⟩).toNat = tn := by have := HTn.out; simp only [totalI] at *; omega
      have hg : (cu / cg).toNat = gn := by have := HGn.out; (try simp only at *); omega
      have hca := HOk.out.1.cache
      refine ⟨⟨⟨0, 0, 0, 0⟩, ?_, by simp [Ab.new], by simp [Ab.new], by decide, by decide⟩, HA9.out.p, ⟨fun _ => 0, HA9.out.r, fun _ _ => rfl, by decide⟩, ?_, HT9.out, HK9.out, ⟨[], ⟨?_, World.ownsRow_nil _ _ _ _, by simp⟩, rfl⟩, ⟨fun _ => .slice none 0 0, fun _ => Option.none, ?_, fun p hp => ⟨rfl, rfl⟩⟩, ⟨fun _ => .slice none 0 0, ?_, fun p hp => rfl⟩, ?_, ⟨fun _ => .slice none 0 0, ?_, fun p hp => ⟨0, [], World.ownsRow_nil _ _ _ _, by simp [Value.ownBlock]⟩⟩, World.ownsRow_nil _ _ _ _, ⟨[], World.ownsRow_nil _ _ _ _⟩, fun k hk => hk, by simp, ?_, by simp, HA9.out.ne⟩
      · have h := HA9.out.m
        unfold rcRow
        rw [ht]
        exact h
      · show Grd.RHeld _ 0 G L Lc (List.replicate (cu / cg).toNat 0)
        rw [hg]; exact HG9.out.mono (Nat.zero_le _)
      · have h := HQ9.out
        have e : ((ca.toNat : Nat) : Int) = ca := by have : (0 : Int) ≤ ca := hca.1; omega
        show Row v9 Q 230 #[.int .i64 ((ca.toNat : Nat) : Int), .slice none 0 0, .int .i64 0]
        rw [e]; exact h
      · rw [ht]; exact HA9.out.hb
      · rw [ht]; exact HA9.out.wb
      · rw [ht]; exact HA9.out.ib
      · rw [ht]; exact HA9.out.ob
      · intro k hk
        have h1 := HA9.out.m.lt; have h2 := HA9.out.p.lt; have h3 := HA9.out.r.lt; have h4 := HA9.out.hb.lt; have h5 := HA9.out.wb.lt; have h6 := HA9.out.ib.lt; have h7 := HA9.out.ob.lt
        have h8 := HG9.out.row.lt; have h9 := HT9.out.lt; have h11 := HQ9.out.lt
        have h10 : K < v9.heap.size := by obtain ⟨la, a, r, nc, y, ka, kr, ky, hk1, hk2⟩ := HK9.out; exact hk1.lt
        have h12 : L < v9.heap.size := by obtain ⟨_, cur, hr⟩ := Vca.own_blk HG9.out.own L (by simp [Vca.blk]); exact hr.lt
        simp only [Rn.ts, Vca.blk, List.append_nil, List.mem_cons, List.not_mem_nil, or_false] at hk
        omega
    have HTs : Hid (∀ k ∈ Rn.ts ⟨M, P, R, G, L, Lc, T, K, Q, none, 0, HB, WB, IB, OB, none, 0, none, 0, 0⟩, w.heap.size ≤ k) := by
      intro k hk
      have h1 := HTl.out; have h2 := HKl.out; have h3 := HQl.out
      simp only [Rn.ts, Vca.blk, List.append_nil, List.mem_cons, List.not_mem_nil, or_false] at hk
      omega
    have HBf := Lib.hid HA9.out.bel
    clear HA9 HG9 HT9 HK9 HQ9 hlo hGlo hLlo
    go_wp2
    go_ret2
    exact ⟨_, _, rfl, HF.out, HBf.out, HTs.out⟩
end Go.Proofs.YtclhhdodebdmjaaGreat
