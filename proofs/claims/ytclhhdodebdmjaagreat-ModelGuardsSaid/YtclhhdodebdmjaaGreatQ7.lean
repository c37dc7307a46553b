/- What follows is laid together from several texts of mine, in their order. -/
import Derived.Test.YtclhhdodebdmjaaGreatQ6
import Derived.Test.YtclhhdodebdmjaaGreatQ4

namespace Go.Proofs.YtclhhdodebdmjaaGreat
open Go.RowKit Go.MapKept Go.ChangeMaps
open Go.Maps (Keyed)
attribute [local go_sem] Oper.semAt_some
attribute [local simp, local go_sem] wide_fn
set_option linter.unusedVariables false
set_option linter.unusedSimpArgs false
set_option maxRecDepth 100000

theorem Index_ints (A : Option Addr) (c : Nat) (L : List Int) (v : Int) (hn : L.length ≤ 1000) (w : World) (hc : ∀ j, j < L.length → ∃ g o, A = some ⟨g, o, none⟩ ∧ w.cell? ⟨g, o + j, none⟩ = some (.int .i64 (L.getD j 0))) :
    Calls Tryz.prog 234 #[.slice A L.length c, .int .i64 v] w fun e w' => (∃ i : Int, e = .returned (.int .i64 i) ∧ (0 ≤ i ↔ v ∈ L)) ∧ w = w' := by
  have HC := Lib.hid hc
  obtain ⟨n, hnn⟩ : ∃ n, n = L.length := ⟨_, rfl⟩
  have HN := Lib.hid hnn
  rw [← hnn] at hn ⊢
  clear hc hnn
  go_enter Tryz.func234, Tryz.ntmps234
  go_wp2
  go_loop [8] (fun i => ∃ k : Nat, i = .int .i64 k ∧ k ≤ n ∧ v ∉ L.take k) (fun i => n - (intOf i).toNat)
  case atStart => exact ⟨0, rfl, by omega, by simp⟩
  case round =>
    obtain ⟨k, rfl, hk, hv⟩ := hrel
    have HV := Lib.hid hv
    clear hv
    by_cases hkn : k < n
    · obtain ⟨g, o, rfl, cx⟩ := HC.out k (by rw [← HN.out]; exact hkn)
      obtain ⟨x, hx⟩ : ∃ x, x = L.getD k 0 := ⟨_, rfl⟩
      have HX := Lib.hid hx
      rw [← hx] at cx
      have hxm : x ∈ L := by rw [hx, List.getD_eq_getElem?_getD, List.getElem?_eq_getElem (by rw [← HN.out]; exact hkn)]; exact List.getElem_mem _
      have HXm := Lib.hid hxm
      have HTk : Hid (L.take (k + 1) = L.take k ++ [x]) := by unfold Hid; rw [hx]; exact take_getDI L k (by rw [← HN.out]; exact hkn)
      clear hx hxm
      by_cases hvx : v = x
      · subst hvx
        go_wp2
        go_ret
        exact ⟨⟨k, rfl, ⟨fun _ => HXm.out, fun _ => by omega⟩⟩, rfl⟩
      · go_wp2
        go_round
        case rel => exact ⟨k + 1, by go_num, by omega, by rw [HTk.out]; intro hm; rcases List.mem_append.1 hm with hm | hm; exact HV.out hm; exact hvx (List.mem_singleton.1 hm)⟩
        case measure => simp [intOf]; omega
    · obtain rfl : k = n := by omega
      go_wp2
      go_ret
      exact ⟨⟨-1, rfl, ⟨fun h => by omega, fun h => absurd h (by have := HV.out; rwa [HN.out, List.take_length] at this)⟩⟩, rfl⟩
theorem Contains_ints (A : Option Addr) (c : Nat) (L : List Int) (v : Int) (hn : L.length ≤ 1000) (w : World) (hc : ∀ j, j < L.length → ∃ g o, A = some ⟨g, o, none⟩ ∧ w.cell? ⟨g, o + j, none⟩ = some (.int .i64 (L.getD j 0))) :
    Calls Tryz.prog 199 #[.slice A L.length c, .int .i64 v] w fun e w' => e = .returned (.bool (decide (v ∈ L))) ∧ w = w' := by
  have HI := Lib.hid (Index_ints A c L v hn w hc)
  generalize L.length = n at *
  clear hc
  go_enter Tryz.func199, Tryz.ntmps199
  go_wp2_with fail
  refine HI.out.mono ?_
  rintro e w' ⟨⟨i, rfl, hi⟩, rfl⟩
  have HD : Hid (decide (0 ≤ i) = decide (v ∈ L)) := by unfold Hid; congr 1; exact propext hi
  clear hi HI
  go_wp2
  go_ret
  exact ⟨by rw [← HD.out]; rfl, rfl⟩
def statesL : List Int := [0, 1, 2, 3, 4, 6]
def nextV (s i : Int) (own : Bool) : Int × Bool :=
  if i = 0 then (0, true) else match waysV s i with
  | none => (s, false)
  | some (h, t, o) => if (h = 1 ∧ own = false) ∨ (h = 3 ∧ own = true) then (s, false) else if h = 2 ∧ own = false then (o, true) else (t, true)
theorem States_any (w : World) : Calls Tryz.prog 200 #[] w fun e w' => e = .returned (.slice (some ⟨w.heap.size, 0, none⟩) 6 6) ∧ w' = w.alloc (.cells #[.int .i64 0, .int .i64 1, .int .i64 2, .int .i64 3, .int .i64 4, .int .i64 6] 3) := by
  go_enter Tryz.func200, Tryz.ntmps200
  go_wp2
  go_ret
  exact ⟨rfl, rfl⟩
set_option maxHeartbeats 4000000 in
theorem Next_any (s i : Int) (own : Bool) (hs : s ∈ statesL) (hi : W64 i) (w : World) : Calls Tryz.prog 136 #[.int .i64 s, .int .i64 i, .bool own] w fun e w' => e = .returned (.tuple #[.int .i64 (nextV s i own).1, .bool (nextV s i own).2]) ∧ Below w.heap.size w w' := by
  obtain ⟨w1, hw1⟩ : ∃ w1, w1 = w.alloc (.cells #[.int .i64 0, .int .i64 1, .int .i64 2, .int .i64 3, .int .i64 4, .int .i64 6] 3) := ⟨_, rfl⟩
  have HB1 : Hid (Below w.heap.size w w1) := by unfold Hid; rw [hw1]; exact (Below.refl _ _).alloc (Nat.le_refl _) _
  have hr1 : Row w1 w.heap.size 3 (statesL.map (Value.int .i64)).toArray := by rw [hw1]; exact Row.fresh _ _ _
  have HC := Lib.hid (Contains_ints (some ⟨w.heap.size, 0, none⟩) 6 statesL s (by decide) w1 (fun j hj => ⟨w.heap.size, 0, rfl, by rw [Nat.zero_add]; exact ints_cell hr1 j hj⟩))
  rw [show statesL.length = 6 from rfl, decide_eq_true hs] at HC
  have HW := Lib.hid (ways_any w1)
  have hs64 : W64 s := by
    rw [W64.iff]
    simp only [statesL, List.mem_cons, List.not_mem_nil, or_false] at hs
    omega
  have HS := Lib.hid (And.intro hs64 hi)
  have HE1 := Lib.hid hw1
  clear hs hi hw1 hr1 hs64
  by_cases hi0 : i = 0
  · subst hi0
    have HN2 : Hid (nextV s 0 own = (0, true)) := by unfold Hid nextV; rw [if_pos rfl]
    clear HW
    go_enter Tryz.func136, Tryz.ntmps136
    go_wp2_with fail
    refine (States_any w).mono ?_
    rintro e w' ⟨rfl, rfl⟩
    go_wp2_with fail
    rw [← HE1.out]
    refine HC.out.mono ?_
    rintro e w' ⟨rfl, rfl⟩
    clear HC
    go_wp2
    refine bodyPost_ret (v := .tuple #[.int .i64 0, .bool true]) (by simp [results, Tryz.results136, go_sem]) rfl ?_
    exact ⟨by first | (rw [HN2.out]; done) | (rw [HN2.out]; rfl) | (rw [HN2.out]; simp; done), by first | exact HB1.out | exact HB2.out.alloc HB2.out.size _ | exact (HB2.out.alloc HB2.out.size _).setCell HB2.out.size _ | exact HB2.out⟩
  · have HN : Hid (nextV s i own = match waysV s i with | none => (s, false) | some (h, t, o) => if (h = 1 ∧ own = false) ∨ (h = 3 ∧ own = true) then (s, false) else if h = 2 ∧ own = false then (o, true) else (t, true)) := by unfold Hid; conv => lhs; unfold nextV; rw [if_neg hi0]
    go_enter Tryz.func136, Tryz.ntmps136
    go_wp2_with fail
    refine (States_any w).mono ?_
    rintro e w' ⟨rfl, rfl⟩
    go_wp2_with fail
    rw [← HE1.out]
    refine HC.out.mono ?_
    rintro e w' ⟨rfl, rfl⟩
    clear HC
    go_wp2_with fail
    refine HW.out.mono ?_
    rintro e w2 ⟨Q, rfl, hm, hb⟩
    have hlk := hm.look HS.out.1 HS.out.2
    have HB2 : Hid (Below w.heap.size w w2) := HB1.out.trans (hb.mono HB1.out.size)
    clear HW hm hb
    dsimp only [atV, wayV] at hlk
    generalize waysV s i = x at *
    cases x with
    | none =>
      have HN2 : Hid (nextV s i own = (s, false)) := HN.out
      dsimp only [Option.getD, Option.isSome] at hlk
      clear HN
      go_wp2
      refine bodyPost_ret (v := .tuple #[.int .i64 s, .bool false]) (by simp [results, Tryz.results136, go_sem]) rfl ?_
      exact ⟨by first | (rw [HN2.out]; done) | (rw [HN2.out]; rfl) | (rw [HN2.out]; simp; done), by first | exact HB1.out | exact HB2.out.alloc HB2.out.size _ | exact (HB2.out.alloc HB2.out.size _).setCell HB2.out.size _ | exact HB2.out⟩
    | some x =>
      obtain ⟨h, t, o⟩ := x
      dsimp only [Option.getD, Option.isSome] at hlk
      have HN2 : Hid (nextV s i own = if (h = 1 ∧ own = false) ∨ (h = 3 ∧ own = true) then (s, false) else if h = 2 ∧ own = false then (o, true) else (t, true)) := HN.out
      clear HN
      by_cases h1 : h = 1
      · subst h1
        cases own with
        | false =>
          go_wp2
          refine bodyPost_ret (v := .tuple #[.int .i64 s, .bool false]) (by simp [results, Tryz.results136, go_sem]) rfl ?_
          exact ⟨by first | (rw [HN2.out]; done) | (rw [HN2.out]; rfl) | (rw [HN2.out]; simp; done), by first | exact HB1.out | exact HB2.out.alloc HB2.out.size _ | exact (HB2.out.alloc HB2.out.size _).setCell HB2.out.size _ | exact HB2.out⟩
        | true =>
          go_wp2
          refine bodyPost_ret (v := .tuple #[.int .i64 t, .bool true]) (by simp [results, Tryz.results136, go_sem]) rfl ?_
          exact ⟨by first | (rw [HN2.out]; done) | (rw [HN2.out]; rfl) | (rw [HN2.out]; simp; done), by first | exact HB1.out | exact HB2.out.alloc HB2.out.size _ | exact (HB2.out.alloc HB2.out.size _).setCell HB2.out.size _ | exact HB2.out⟩
      · by_cases h3 : h = 3
        · subst h3
          cases own with
          | false =>
            go_wp2
            refine bodyPost_ret (v := .tuple #[.int .i64 t, .bool true]) (by simp [results, Tryz.results136, go_sem]) rfl ?_
            exact ⟨by first | (rw [HN2.out]; done) | (rw [HN2.out]; rfl) | (rw [HN2.out]; simp; done), by first | exact HB1.out | exact HB2.out.alloc HB2.out.size _ | exact (HB2.out.alloc HB2.out.size _).setCell HB2.out.size _ | exact HB2.out⟩
          | true =>
            go_wp2
            refine bodyPost_ret (v := .tuple #[.int .i64 s, .bool false]) (by simp [results, Tryz.results136, go_sem]) rfl ?_
            exact ⟨by first | (rw [HN2.out]; done) | (rw [HN2.out]; rfl) | (rw [HN2.out]; simp; done), by first | exact HB1.out | exact HB2.out.alloc HB2.out.size _ | exact (HB2.out.alloc HB2.out.size _).setCell HB2.out.size _ | exact HB2.out⟩
        · by_cases h2 : h = 2
          · subst h2
            cases own with
            | false =>
              go_wp2
              refine bodyPost_ret (v := .tuple #[.int .i64 o, .bool true]) (by simp [results, Tryz.results136, go_sem]) rfl ?_
              exact ⟨by first | (rw [HN2.out]; done) | (rw [HN2.out]; rfl) | (rw [HN2.out]; simp; done), by first | exact HB1.out | exact HB2.out.alloc HB2.out.size _ | exact (HB2.out.alloc HB2.out.size _).setCell HB2.out.size _ | exact HB2.out⟩
            | true =>
              go_wp2
              refine bodyPost_ret (v := .tuple #[.int .i64 t, .bool true]) (by simp [results, Tryz.results136, go_sem]) rfl ?_
              exact ⟨by first | (rw [HN2.out]; done) | (rw [HN2.out]; rfl) | (rw [HN2.out]; simp; done), by first | exact HB1.out | exact HB2.out.alloc HB2.out.size _ | exact (HB2.out.alloc HB2.out.size _).setCell HB2.out.size _ | exact HB2.out⟩
          · have HN3 : Hid (nextV s i own = (t, true)) := by unfold Hid; rw [HN2.out, if_neg (by simp [h1, h3]), if_neg (by simp [h2])]
            clear HN2
            have HN2 := HN3
            go_wp2
            refine bodyPost_ret (v := .tuple #[.int .i64 t, .bool true]) (by simp [results, Tryz.results136, go_sem]) rfl ?_
            exact ⟨by first | (rw [HN2.out]; done) | (rw [HN2.out]; rfl) | (rw [HN2.out]; simp; done), by first | exact HB1.out | exact HB2.out.alloc HB2.out.size _ | exact (HB2.out.alloc HB2.out.size _).setCell HB2.out.size _ | exact HB2.out⟩
/-- A machine in memory. -/
abbrev PhIs (w : World) (M : Nat) (s : Int) (a : Nat) (l : Int) : Prop := Row w M 104 #[.int .i64 s, .int .u16 a, .int .i64 l]
section
variable {w : World} {M : Nat} {s : Int} {a : Nat} {l : Int}
theorem Reset_ph (h : PhIs w M s a l) : Calls Tryz.prog 154 #[.pointer (some ⟨M, 0, none⟩)] w fun e w' => e = .returned (.tuple #[]) ∧ PhIs w' M 0 0 0 ∧ Turns w w' [M] := by
  have c0 := h.cell 0
  have c1 := h.cell 1
  have c2 := h.cell 2
  have f0 := h.frozen 0
  have f1 := h.frozen 1
  have f2 := h.frozen 2
  simp only [List.getElem?_toArray, List.getElem?_cons_zero, List.getElem?_cons_succ] at c0 c1 c2
  have HR : Hid (PhIs (((w.setCell ⟨M, 0, none⟩ (.int .i64 0)).setCell ⟨M, 1, none⟩ (.int .u16 0)).setCell ⟨M, 2, none⟩ (.int .i64 0)) M 0 0 0) := by
    have := ((h.put 0 (.int .i64 0)).put 1 (.int .u16 0)).put 2 (.int .i64 0)
    unfold Hid PhIs; simpa using this
  have HT : Hid (Turns w (((w.setCell ⟨M, 0, none⟩ (.int .i64 0)).setCell ⟨M, 1, none⟩ (.int .u16 0)).setCell ⟨M, 2, none⟩ (.int .i64 0)) [M]) := (((Turns.refl _ _).setCell (by simp) _).setCell (by simp) _).setCell (by simp) _
  clear h
  go_enter Tryz.func154, Tryz.ntmps154
  go_wp2
  go_end0
  exact ⟨rfl, HR.out, HT.out⟩
theorem New_ph (w : World) : Calls Tryz.prog 76 #[] w fun e w' => e = .returned (.pointer (some ⟨w.heap.size, 0, none⟩)) ∧ PhIs w' w.heap.size 0 0 0 ∧ Below w.heap.size w w' := by
  have hr : PhIs (w.alloc (.cells #[.int .i64 0, .int .u16 0, .int .i64 0] 104)) w.heap.size 0 0 0 := Row.fresh _ _ _
  have HRs := Lib.hid (Reset_ph hr)
  have HB : Hid (Below w.heap.size w (w.alloc (.cells #[.int .i64 0, .int .u16 0, .int .i64 0] 104))) := (Below.refl _ _).alloc (Nat.le_refl _) _
  clear hr
  go_enter Tryz.func76, Tryz.ntmps76
  go_wp2_with fail
  refine HRs.out.mono ?_
  rintro e w' ⟨rfl, hr, ht⟩
  have HR := Lib.hid hr
  have HB2 : Hid (Below w.heap.size w w') := ht.below HB.out HB.out.size (by simp)
  clear hr ht
  go_wp2
  go_ret
  exact ⟨rfl, HR.out, HB2.out⟩
theorem State_ph (h : PhIs w M s a l) : Calls Tryz.prog 13 #[.pointer (some ⟨M, 0, none⟩)] w fun e w' => e = .returned (.int .i64 s) ∧ w = w' := by
  have c0 := h.cell 0
  simp only [List.getElem?_toArray, List.getElem?_cons_zero] at c0
  clear h
  go_enter Tryz.func13, Tryz.ntmps13
  go_wp2
  go_ret
  exact ⟨rfl, rfl⟩
def ownB (a arg : Nat) : Bool := arg / 65536 == a
theorem own_ph (h : PhIs w M s a l) (arg : Nat) (ha : a < 65536) (hg : arg < 4294967296) : Calls Tryz.prog 137 #[.pointer (some ⟨M, 0, none⟩), .int .u32 arg] w fun e w' => e = .returned (.bool (ownB a arg)) ∧ w = w' := by
  have c1 := h.cell 1
  simp only [List.getElem?_toArray, List.getElem?_cons_zero, List.getElem?_cons_succ] at c1
  clear h
  go_enter Tryz.func137, Tryz.ntmps137
  go_wp2
  go_ret
  refine ⟨?_, rfl⟩
  show Ending.returned (Value.bool ((arg : Int) / 65536 == (a : Int))) = _
  unfold ownB
  congr 2
  rw [Bool.eq_iff_iff]
  simp
  omega
theorem Legal_ph (h : PhIs w M s a l) (hs : s ∈ statesL) (i : Int) (hi : W64 i) (arg : Nat) (ha : a < 65536) (hg : arg < 4294967296) :
    Calls Tryz.prog 68 #[.pointer (some ⟨M, 0, none⟩), .int .i64 i, .int .u32 arg] w fun e w' => e = .returned (.bool (nextV s i (ownB a arg)).2) ∧ Below w.heap.size w w' := by
  have HO : Hid (∀ u, Below w.heap.size w u → Calls Tryz.prog 137 #[.pointer (some ⟨M, 0, none⟩), .int .u32 arg] u fun e w' => e = .returned (.bool (ownB a arg)) ∧ u = w') := fun u hb => own_ph (h.below hb h.lt) arg ha hg
  have HN : Hid (∀ u own, Calls Tryz.prog 136 #[.int .i64 s, .int .i64 i, .bool own] u fun e w' => e = .returned (.tuple #[.int .i64 (nextV s i own).1, .bool (nextV s i own).2]) ∧ Below u.heap.size u w') := fun u own => Next_any s i own hs hi u
  have k0 : ∀ t : Kept w [], t.u.cell? ⟨M, 0, none⟩ = some (.int .i64 s) := fun t => t.h.cell (h.cell 0) (by simp)
  generalize ownB a arg = own at *
  clear h
  go_enter Tryz.func68, Tryz.ntmps68
  go_wp2
  refine wp_region_noPanic ?_
  refine region_treeW (fun u => ∃ t : Kept w [], u = t.u) (Tn.takes [0, 1, 2, 3, 4, 5, 6] (.one 7 (.one 8 (Tn.takes [9, 10, 11, 12, 13] .nil)))) (by kernel_rfl) (by kernel_rfl) (fun _ _ _ _ _ h => h) ⟨⟨_, Turns.of_below (Below.refl _ _).drew _⟩, rfl⟩ ?_
  simp only [Tn.takes]
  (repeat ((with_reducible refine wpTree_take (by with_unfolding_all exact rfl) ?_); (with_reducible (show wpQuiet _ _ _ _ (_ :: _) _)); go_big_quiet_step (fail); (with_reducible refine wpQuiet_nil ?_)))
  (with_reducible refine wpTree_one (by with_unfolding_all exact rfl) ?_)
  gi_wp2_with fail
  refine ((callsIn_wide (n := 8)).2 (HO.out w.drew (Below.refl _ _).drew)).mono ?_
  rintro e w1 ⟨rfl, rfl⟩
  gi_wp2_with fail
  (with_reducible refine outQ_normal ?_ ?_); exact ⟨⟨_, Turns.of_below (Below.refl _ _).drew _⟩, rfl⟩
  (with_reducible refine wpTree_one (by with_unfolding_all exact rfl) ?_)
  gi_wp2_with fail
  refine ((callsIn_wide (n := 8)).2 (HN.out w.drew own)).mono ?_
  rintro e w1 ⟨rfl, hb1⟩
  have HB1 : Hid (Below w.heap.size w w1) := (Below.refl _ _).drew.trans hb1
  clear hb1
  gi_wp2_with fail
  (with_reducible refine outQ_normal ?_ ?_); exact ⟨⟨w1, Turns.of_below HB1.out _⟩, rfl⟩
  (repeat ((with_reducible refine wpTree_take (by with_unfolding_all exact rfl) ?_); (with_reducible (show wpQuiet _ _ _ _ (_ :: _) _)); go_big_quiet_step (fail); (with_reducible refine wpQuiet_nil ?_)))
  with_reducible refine wpTree_nil ?_
  refine NoPanic.normal ?_
  go_wp2
  go_ret
  exact ⟨rfl, HB1.out⟩
def leftTo (s s' l : Int) : Int := if s = s' then l else if s' = 6 then 1 else 0
theorem to_ph (h : PhIs w M s a l) (s' : Int) : Calls Tryz.prog 98 #[.pointer (some ⟨M, 0, none⟩), .int .i64 s'] w fun e w' => e = .returned (.tuple #[]) ∧ PhIs w' M s' a (leftTo s s' l) ∧ Turns w w' [M] := by
  have c0 := h.cell 0
  have c2 := h.cell 2
  have f0 := h.frozen 0
  have f2 := h.frozen 2
  simp only [List.getElem?_toArray, List.getElem?_cons_zero, List.getElem?_cons_succ] at c0 c2
  have HH := Lib.hid h
  clear h
  by_cases h1 : s = s'
  · subst h1
    have HR : Hid (PhIs (w.setCell ⟨M, 0, none⟩ (.int .i64 s)) M s a (leftTo s s l)) := by
      have := HH.out.put 0 (.int .i64 s)
      unfold Hid PhIs leftTo; rw [if_pos rfl]; simpa using this
    have HT : Hid (Turns w (w.setCell ⟨M, 0, none⟩ (.int .i64 s)) [M]) := (Turns.refl _ _).setCell (by simp) _
    go_enter Tryz.func98, Tryz.ntmps98
    go_wp2
    go_end0
    exact ⟨rfl, HR.out, HT.out⟩
  · by_cases h6 : s' = 6
    · subst h6
      have HR : Hid (PhIs (((w.setCell ⟨M, 2, none⟩ (.int .i64 0)).setCell ⟨M, 2, none⟩ (.int .i64 1)).setCell ⟨M, 0, none⟩ (.int .i64 6)) M 6 a (leftTo s 6 l)) := by
        have := ((HH.out.put 2 (.int .i64 0)).put 2 (.int .i64 1)).put 0 (.int .i64 6)
        unfold Hid PhIs leftTo; rw [if_neg h1, if_pos rfl]; simpa using this
      have HT : Hid (Turns w (((w.setCell ⟨M, 2, none⟩ (.int .i64 0)).setCell ⟨M, 2, none⟩ (.int .i64 1)).setCell ⟨M, 0, none⟩ (.int .i64 6)) [M]) := (((Turns.refl _ _).setCell (by simp) _).setCell (by simp) _).setCell (by simp) _
      go_enter Tryz.func98, Tryz.ntmps98
      go_wp2
      go_end0
      exact ⟨rfl, HR.out, HT.out⟩
    · have HR : Hid (PhIs ((w.setCell ⟨M, 2, none⟩ (.int .i64 0)).setCell ⟨M, 0, none⟩ (.int .i64 s')) M s' a (leftTo s s' l)) := by
        have := (HH.out.put 2 (.int .i64 0)).put 0 (.int .i64 s')
        unfold Hid PhIs leftTo; rw [if_neg h1, if_neg h6]; simpa using this
      have HT : Hid (Turns w ((w.setCell ⟨M, 2, none⟩ (.int .i64 0)).setCell ⟨M, 0, none⟩ (.int .i64 s')) [M]) := ((Turns.refl _ _).setCell (by simp) _).setCell (by simp) _
      go_enter Tryz.func98, Tryz.ntmps98
      go_wp2
      go_end0
      exact ⟨rfl, HR.out, HT.out⟩
theorem Receive_ph (h : PhIs w M 6 a l) (n : Int) : Calls Tryz.prog 218 #[.pointer (some ⟨M, 0, none⟩), .int .i64 n] w fun e w' => e = .returned (.tuple #[]) ∧ PhIs w' M 6 a (min (max n 1) 64) ∧ Turns w w' [M] := by
  have c0 := h.cell 0
  have c2 := h.cell 2
  have f2 := h.frozen 2
  simp only [List.getElem?_toArray, List.getElem?_cons_zero, List.getElem?_cons_succ] at c0 c2
  have HR : Hid (PhIs (w.setCell ⟨M, 2, none⟩ (.int .i64 (min (max n 1) 64))) M 6 a (min (max n 1) 64)) := by
    have := h.put 2 (.int .i64 (min (max n 1) 64))
    unfold Hid PhIs; simpa using this
  have HT : Hid (Turns w (w.setCell ⟨M, 2, none⟩ (.int .i64 (min (max n 1) 64))) [M]) := (Turns.refl _ _).setCell (by simp) _
  clear h
  have key : (n < 1 ∧ min (max n 1) 64 = 1) ∨ (¬ n < 1 ∧ 64 < n ∧ min (max n 1) 64 = 64) ∨ (¬ n < 1 ∧ ¬ 64 < n ∧ min (max n 1) 64 = n) := by omega
  rcases key with ⟨h1, e⟩ | ⟨h1, h2, e⟩ | ⟨h1, h2, e⟩
  all_goals
    rw [e] at HR HT ⊢
    clear e
    go_enter Tryz.func218, Tryz.ntmps218
    go_wp2
    go_end0
    exact ⟨rfl, HR.out, HT.out⟩
/-- A block has come. -/
def gotS (l : Int) : Int := if l = 1 then 4 else 6
theorem Got_ph (h : PhIs w M 6 a l) (hl : 1 ≤ l ∧ l ≤ 64) : Calls Tryz.prog 42 #[.pointer (some ⟨M, 0, none⟩)] w fun e w' => e = .returned (.bool true) ∧ PhIs w' M (gotS l) a (l - 1) ∧ Turns w w' [M] := by
  have c0 := h.cell 0
  have c2 := h.cell 2
  have f2 := h.frozen 2
  simp only [List.getElem?_toArray, List.getElem?_cons_zero, List.getElem?_cons_succ] at c0 c2
  have hr : PhIs (w.setCell ⟨M, 2, none⟩ (.int .i64 (l - 1))) M 6 a (l - 1) := by
    have := h.put 2 (.int .i64 (l - 1))
    unfold PhIs; simpa using this
  have HR := Lib.hid hr
  have HT : Hid (Turns w (w.setCell ⟨M, 2, none⟩ (.int .i64 (l - 1))) [M]) := (Turns.refl _ _).setCell (by simp) _
  have HTo := Lib.hid (to_ph hr 4)
  obtain ⟨hl1, hl2⟩ := hl
  clear h hr
  by_cases h1 : l = 1
  · subst h1
    have e : leftTo 6 4 (1 - 1) = 0 := by decide
    rw [e] at HTo
    go_enter Tryz.func42, Tryz.ntmps42
    go_wp2_with fail
    refine HTo.out.mono ?_
    rintro e w' ⟨rfl, hr, ht⟩
    have HR2 := Lib.hid hr
    have HT2 : Hid (Turns w w' [M]) := HT.out.trans ht (fun g hg => .inl hg)
    clear hr ht HTo
    go_wp2
    go_ret
    exact ⟨rfl, HR2.out, HT2.out⟩
  · have HG : Hid (gotS l = 6) := by unfold Hid gotS; rw [if_neg h1]
    clear HTo
    go_enter Tryz.func42, Tryz.ntmps42
    go_wp2_with fail
    go_ret
    exact ⟨rfl, by rw [HG.out]; exact HR.out, HT.out⟩
end
end Go.Proofs.YtclhhdodebdmjaaGreat

namespace Go.Proofs.YtclhhdodebdmjaaGreat
open Go.RowKit Go.MapKept Go.ChangeMaps
set_option linter.unusedVariables false
set_option linter.unusedSimpArgs false
set_option maxRecDepth 100000

def answersB (i : Int) (own : Bool) : Bool := !(i == 0) && (!(i == 7) || own)
def addrTo (i : Int) (a arg : Nat) : Nat := if i = 3 then arg / 65536 else a
section
variable {w : World} {M : Nat} {s : Int} {a : Nat} {l : Int}
set_option maxHeartbeats 2000000 in
theorem Go_yes (h : PhIs w M s a l) (hs : s ∈ statesL) (i : Int) (hi : W64 i) (arg : Nat) (ha : a < 65536) (hg : arg < 4294967296) (s' : Int) (HV : nextV s i (ownB a arg) = (s', true)) :
    Calls Tryz.prog 69 #[.pointer (some ⟨M, 0, none⟩), .int .i64 i, .int .u32 arg] w fun e w' => e = .returned (.tuple #[.bool (answersB i (ownB a arg)), .bool true]) ∧ PhIs w' M s' (addrTo i a arg) (leftTo s s' l) ∧ Turns w w' [M] := by
  have ha2 : arg / 65536 < 65536 := by omega
  have HO := Lib.hid (own_ph h arg ha hg)
  have HN := Lib.hid (Next_any s i (ownB a arg) hs hi w)
  have c0 := h.cell 0
  simp only [List.getElem?_toArray, List.getElem?_cons_zero] at c0
  have HH := Lib.hid h
  rw [HV] at HN
  generalize ownB a arg = own at *
  clear h HV hs hi
  by_cases h3 : i = 3
  · subst h3
    go_enter Tryz.func69, Tryz.ntmps69
    go_wp2_with fail
    refine HO.out.mono ?_
    rintro e w' ⟨rfl, rfl⟩
    clear HO
    go_wp2_with fail
    refine HN.out.mono ?_
    rintro e w1 ⟨rfl, hb1⟩
    have HB1 := Lib.hid hb1
    have HH1 := Lib.hid (HH.out.below hb1 HH.out.lt)
    clear HN hb1 c0
    have HTo := Lib.hid (to_ph HH1.out s')
    clear HH1
    go_wp2_with fail
    refine HTo.out.mono ?_
    rintro e w2 ⟨rfl, hr, ht⟩
    have c1 := hr.cell 1
    have f1 := hr.frozen 1
    simp only [List.getElem?_toArray, List.getElem?_cons_zero, List.getElem?_cons_succ] at c1
    have HR : Hid (PhIs (w2.setCell ⟨M, 1, none⟩ (.int .u16 (arg / 65536 : Nat))) M s' (addrTo 3 a arg) (leftTo s s' l)) := by
      have := hr.put 1 (.int .u16 (arg / 65536 : Nat))
      unfold Hid PhIs addrTo; rw [if_pos rfl]; simpa using this
    have HT : Hid (Turns w (w2.setCell ⟨M, 1, none⟩ (.int .u16 (arg / 65536 : Nat))) [M]) := ((Turns.of_below HB1.out [M]).trans ht (fun g hg => .inl hg)).setCell (by simp) _
    have hc : ((arg / 65536 : Nat) : Int) = (arg : Int) / 65536 := by omega
    rw [hc] at HR HT
    clear hr ht hc HTo
    go_wp2
    refine bodyPost_ret (v := .tuple #[.bool (answersB 3 own), .bool true]) (by simp [results, Tryz.results69, go_sem, answersB]) rfl ?_
    exact ⟨rfl, HR.out, HT.out⟩
  · have HA : Hid (addrTo i a arg = a) := by unfold Hid addrTo; rw [if_neg h3]
    go_enter Tryz.func69, Tryz.ntmps69
    go_wp2_with fail
    refine HO.out.mono ?_
    rintro e w' ⟨rfl, rfl⟩
    clear HO
    go_wp2_with fail
    refine HN.out.mono ?_
    rintro e w1 ⟨rfl, hb1⟩
    have HB1 := Lib.hid hb1
    have HH1 := Lib.hid (HH.out.below hb1 HH.out.lt)
    clear HN hb1 c0
    have HTo := Lib.hid (to_ph HH1.out s')
    clear HH1
    by_cases h0 : i = 0
    · subst h0
      go_wp2_with fail
      refine HTo.out.mono ?_
      rintro e w2 ⟨rfl, hr, ht⟩
      have HR := Lib.hid hr
      have HT : Hid (Turns w w2 [M]) := (Turns.of_below HB1.out [M]).trans ht (fun g hg => .inl hg)
      clear hr ht HTo
      go_wp2
      refine bodyPost_ret (v := .tuple #[.bool (answersB 0 own), .bool true]) (by simp [results, Tryz.results69, go_sem, answersB]) rfl ?_
      exact ⟨rfl, by rw [HA.out]; exact HR.out, HT.out⟩
    · by_cases h7 : i = 7
      · subst h7
        go_wp2_with fail
        refine HTo.out.mono ?_
        rintro e w2 ⟨rfl, hr, ht⟩
        have HR := Lib.hid hr
        have HT : Hid (Turns w w2 [M]) := (Turns.of_below HB1.out [M]).trans ht (fun g hg => .inl hg)
        clear hr ht HTo
        go_wp2
        refine bodyPost_ret (v := .tuple #[.bool (answersB 7 own), .bool true]) (by simp [results, Tryz.results69, go_sem, answersB]) rfl ?_
        exact ⟨rfl, by rw [HA.out]; exact HR.out, HT.out⟩
      · have e0 : (i == 0) = false := by simpa using h0
        have e7 : (i == 7) = false := by simpa using h7
        have HAn : Hid (answersB i own = true) := by unfold Hid answersB; rw [e0, e7]; rfl
        go_wp2_with fail
        refine HTo.out.mono ?_
        rintro e w2 ⟨rfl, hr, ht⟩
        have HR := Lib.hid hr
        have HT : Hid (Turns w w2 [M]) := (Turns.of_below HB1.out [M]).trans ht (fun g hg => .inl hg)
        clear hr ht HTo
        go_wp2
        rw [HAn.out]
        refine bodyPost_ret (v := .tuple #[.bool true, .bool true]) (by simp [results, Tryz.results69, go_sem, bne, e0, e7]) rfl ?_
        exact ⟨rfl, by rw [HA.out]; exact HR.out, HT.out⟩
end
end Go.Proofs.YtclhhdodebdmjaaGreat

namespace Go.Proofs.YtclhhdodebdmjaaGreat
open Go.RowKit Go.MapKept Go.ChangeMaps
set_option linter.unusedVariables false
set_option linter.unusedSimpArgs false
set_option maxRecDepth 100000

def kindV (n : Int) : Int :=
  if n = 0 ∨ n = 1 ∨ n = 5 then 1 else if n = 2 ∨ n = 3 ∨ n = 4 then 2 else if n = 6 ∨ (8 ≤ n ∧ n < 12) ∨ n = 12 ∨ n = 13 then 3 else if n = 32 ∨ n = 33 ∨ n = 34 then 4 else 0
theorem kindV_lt {n : Int} (h : kindV n ≠ 0) : 0 ≤ n ∧ n < 64 := by
  unfold kindV at h
  repeat' split at h
  all_goals omega
/-- Registers' values. -/
abbrev Rv := Nat → Nat
def regRow (V : Rv) : Array Value := ((List.range 64).map fun i => Value.int .u8 (V i)).toArray
def updR (V : Rv) (i v : Nat) : Rv := fun j => if j = i then v else V j
theorem regRow_get (V : Rv) (i : Nat) (hi : i < 64) : (regRow V)[i]? = some (.int .u8 (V i)) := by
  unfold regRow
  rw [List.getElem?_toArray, List.getElem?_map, List.getElem?_range hi]; rfl
theorem regRow_set (V : Rv) (i v : Nat) : (regRow V).setIfInBounds i (.int .u8 v) = regRow (updR V i v) := by
  apply Array.ext
  · simp [regRow]
  · intro j h1 h2
    have hj : j < 64 := by simpa [regRow] using h2
    rw [Array.getElem_setIfInBounds]
    have e1 := regRow_get V j hj
    have e2 := regRow_get (updR V i v) j hj
    rw [Array.getElem?_eq_getElem (by simpa [regRow] using hj)] at e1 e2
    injection e1 with e1
    injection e2 with e2
    rw [e2]
    by_cases h : i = j
    · subst h; simp [updR]
    · rw [if_neg h, e1]; unfold updR; rw [if_neg (fun e => h e.symm)]
    all_goals simpa [regRow] using hj
abbrev RgIs (w : World) (R : Nat) (V : Rv) : Prop := Row w R 199 (regRow V)
theorem RgIs.at {w : World} {R : Nat} {V : Rv} (h : RgIs w R V) (i : Nat) (hi : i < 64) : w.cell? ⟨R, i, none⟩ = some (.int .u8 (V i)) := by rw [h.cell, regRow_get V i hi]
theorem RgIs.put {w : World} {R : Nat} {V : Rv} (h : RgIs w R V) (i v : Nat) : RgIs (w.setCell ⟨R, i, none⟩ (.int .u8 v)) R (updR V i v) := by
  have := Row.put h i (.int .u8 v)
  rw [regRow_set] at this; exact this
set_option maxHeartbeats 1000000 in
theorem Kind_any (n : Int) (w : World) : Calls Tryz.prog 96 #[.int .i64 n] w fun e w' => e = .returned (.int .i64 (kindV n)) ∧ w' = w := by
  have key : n = 0 ∨ n = 1 ∨ n = 5 ∨ n = 2 ∨ n = 3 ∨ n = 4 ∨ n = 6 ∨ n = 12 ∨ n = 13 ∨ n = 32 ∨ n = 33 ∨ n = 34 ∨ (8 ≤ n ∧ n < 12) ∨ ((n ≠ 0 ∧ n ≠ 1 ∧ n ≠ 5 ∧ n ≠ 2 ∧ n ≠ 3 ∧ n ≠ 4 ∧ n ≠ 6 ∧ n ≠ 12 ∧ n ≠ 13 ∧ n ≠ 32 ∧ n ≠ 33 ∧ n ≠ 34) ∧ (n < 8 ∨ 12 ≤ n)) := by omega
  rcases key with rfl | rfl | rfl | rfl | rfl | rfl | rfl | rfl | rfl | rfl | rfl | rfl | ⟨h8, h12⟩ | ⟨⟨h0, h1, h5, h2, h3, h4, h6, h12, h13, h32, h33, h34⟩, h8⟩
  iterate 12
    · go_enter Tryz.func96, Tryz.ntmps96
      go_wp2
      go_ret
      exact ⟨rfl, rfl⟩
  · have e : kindV n = 3 := by unfold kindV; rw [if_neg (by omega), if_neg (by omega), if_pos (by omega)]
    have b0 : (n == 0) = false := by simp; omega
    have b1 : (n == 1) = false := by simp; omega
    have b5 : (n == 5) = false := by simp; omega
    have b2 : (n == 2) = false := by simp; omega
    have b3 : (n == 3) = false := by simp; omega
    have b4 : (n == 4) = false := by simp; omega
    have b6 : (n == 6) = false := by simp; omega
    rw [e]
    clear e
    go_enter Tryz.func96, Tryz.ntmps96
    go_wp2
    go_ret
    exact ⟨rfl, rfl⟩
  · have e : kindV n = 0 := by unfold kindV; rw [if_neg (by omega), if_neg (by omega), if_neg (by omega), if_neg (by omega)]
    have b0 : (n == 0) = false := by simp; omega
    have b1 : (n == 1) = false := by simp; omega
    have b5 : (n == 5) = false := by simp; omega
    have b2 : (n == 2) = false := by simp; omega
    have b3 : (n == 3) = false := by simp; omega
    have b4 : (n == 4) = false := by simp; omega
    have b6 : (n == 6) = false := by simp; omega
    have b12 : (n == 12) = false := by simp; omega
    have b13 : (n == 13) = false := by simp; omega
    have b32 : (n == 32) = false := by simp; omega
    have b33 : (n == 33) = false := by simp; omega
    have b34 : (n == 34) = false := by simp; omega
    rw [e]
    clear e h0 h1 h5 h2 h3 h4 h6 h12 h13 h32 h33 h34
    rcases h8 with h8 | h8
    · go_enter Tryz.func96, Tryz.ntmps96
      go_wp2
      go_ret
      exact ⟨rfl, rfl⟩
    · have hg : 8 ≤ n := by omega
      have h12' : ¬ n < 12 := by omega
      go_enter Tryz.func96, Tryz.ntmps96
      go_wp2
      go_ret
      exact ⟨rfl, rfl⟩
def getV (V : Rv) (n : Int) : Nat := if kindV n = 0 then 0 else V n.toNat
section
variable {w : World} {R : Nat} {V : Rv}
theorem Get_rg (h : RgIs w R V) (n : Int) : Calls Tryz.prog 106 #[.pointer (some ⟨R, 0, none⟩), .int .i64 n] w fun e w' => e = .returned (.int .u8 (getV V n)) ∧ w' = w := by
  have HK := Lib.hid (Kind_any n w)
  by_cases hk : kindV n = 0
  · have HG : Hid (getV V n = 0) := by unfold Hid getV; rw [if_pos hk]
    rw [hk] at HK
    clear hk h
    go_enter Tryz.func106, Tryz.ntmps106
    go_wp2_with fail
    refine HK.out.mono ?_
    rintro e w' ⟨rfl, rfl⟩
    go_wp2
    go_ret
    exact ⟨by rw [HG.out]; rfl, rfl⟩
  · obtain ⟨m, rfl⟩ := Int.eq_ofNat_of_zero_le (kindV_lt hk).1
    have hm : m < 64 := by have := (kindV_lt hk).2; omega
    have HG : Hid (getV V m = V m) := by unfold Hid getV; rw [if_neg hk]; rfl
    have c := h.at m hm
    generalize kindV m = kn at *
    clear h
    go_enter Tryz.func106, Tryz.ntmps106
    go_wp2_with fail
    refine HK.out.mono ?_
    rintro e w' ⟨rfl, rfl⟩
    go_wp2
    go_ret
    exact ⟨by rw [HG.out]; rfl, rfl⟩
def writesB (n : Int) : Bool := decide (kindV n ≠ 0 ∧ kindV n ≠ 4)
theorem writes_any (n : Int) (w : World) : Calls Tryz.prog 241 #[.int .i64 n] w fun e w' => e = .returned (.bool (writesB n)) ∧ w' = w := by
  have HK := Lib.hid (Kind_any n w)
  by_cases h0 : kindV n = 0
  · have HB : Hid (writesB n = false) := by unfold Hid writesB; simp [h0]
    rw [h0] at HK
    go_enter Tryz.func241, Tryz.ntmps241
    go_wp2_with fail
    refine HK.out.mono ?_
    rintro e w' ⟨rfl, rfl⟩
    go_wp2
    go_ret
    exact ⟨by rw [HB.out]; rfl, rfl⟩
  · by_cases h4 : kindV n = 4
    · have HB : Hid (writesB n = false) := by unfold Hid writesB; simp [h4]
      rw [h4] at HK
      go_enter Tryz.func241, Tryz.ntmps241
      go_wp2_with fail
      refine HK.out.mono ?_
      rintro e w' ⟨rfl, rfl⟩
      go_wp2
      go_ret
      exact ⟨by rw [HB.out]; rfl, rfl⟩
    · have HB : Hid (writesB n = true) := by unfold Hid writesB; simp [h0, h4]
      generalize kindV n = kn at *
      go_enter Tryz.func241, Tryz.ntmps241
      go_wp2_with fail
      refine HK.out.mono ?_
      rintro e w' ⟨rfl, rfl⟩
      go_wp2
      go_ret
      exact ⟨by rw [HB.out]; first | rfl | simp [h0, h4] | (simp; assumption), rfl⟩
end
end Go.Proofs.YtclhhdodebdmjaaGreat

namespace Go.Proofs.YtclhhdodebdmjaaGreat
open Go.RowKit Go.MapKept Go.ChangeMaps
set_option linter.unusedVariables false
set_option linter.unusedSimpArgs false
set_option maxRecDepth 100000

def byteOp (op : BinOp) (a b : Nat) : Nat := (bits op .u8 (a : Int) (b : Int)).toNat
theorem bits_u8 (op : BinOp) (a b : Int) : 0 ≤ bits op .u8 a b ∧ bits op .u8 a b < 256 := by
  unfold bits
  rw [IntKind.wrap_u8]
  omega
theorem byteOp_eq (op : BinOp) (a b : Nat) : bits op .u8 (a : Int) (b : Int) = (byteOp op a b : Nat) := by
  have := bits_u8 op a b
  unfold byteOp; omega
theorem byteOp_lt (op : BinOp) (a b : Nat) : byteOp op a b < 256 := by
  have := bits_u8 op a b
  unfold byteOp; omega
theorem and241 (v : Nat) (hv : v < 256) : (bits .andNot .u8 (v : Int) 241 == 0) = decide (v / 2 % 8 = 0) :=
  (by decide +kernel : ∀ v : Fin 256, (bits .andNot .u8 ((v : Nat) : Int) 241 == 0) = decide ((v : Nat) / 2 % 8 = 0)) ⟨v, hv⟩
def mayV (n : Int) (v : Nat) : Bool :=
  if n = 0 then decide (v < 8) else if n = 5 then decide (v ≤ 2) else if n = 6 then decide (v ≤ 3) else if n = 12 then decide (v / 2 % 8 = 0) else if n = 1 ∨ n = 2 ∨ n = 3 ∨ n = 4 ∨ n = 13 then decide (v ≤ 1) else true
set_option maxHeartbeats 1000000 in
theorem may_rg (n : Int) (v : Nat) (hv : v < 256) (w : World) : Calls Tryz.prog 244 #[.int .i64 n, .int .u8 v] w fun e w' => e = .returned (.bool (mayV n v)) ∧ w' = w := by
  have key : n = 0 ∨ n = 5 ∨ n = 6 ∨ n = 1 ∨ n = 2 ∨ n = 3 ∨ n = 4 ∨ n = 13 ∨ n = 12 ∨ (n ≠ 0 ∧ n ≠ 5 ∧ n ≠ 6 ∧ n ≠ 12 ∧ n ≠ 1 ∧ n ≠ 2 ∧ n ≠ 3 ∧ n ≠ 4 ∧ n ≠ 13) := by omega
  rcases key with rfl | rfl | rfl | rfl | rfl | rfl | rfl | rfl | rfl | ⟨h0, h5, h6, h12, h1, h2, h3, h4, h13⟩
  iterate 8
    · go_enter Tryz.func244, Tryz.ntmps244
      go_wp2
      go_ret
      refine ⟨?_, rfl⟩
      unfold mayV
      simp
      try omega
  · go_enter Tryz.func244, Tryz.ntmps244
    go_wp2
    go_ret
    refine ⟨?_, rfl⟩
    rw [and241 v hv]
    unfold mayV
    simp
  · have e : mayV n v = true := by unfold mayV; simp [*]
    have b0 : (n == 0) = false := by simp; omega
    have b5 : (n == 5) = false := by simp; omega
    have b6 : (n == 6) = false := by simp; omega
    have b12 : (n == 12) = false := by simp; omega
    have b1 : (n == 1) = false := by simp; omega
    have b2 : (n == 2) = false := by simp; omega
    have b3 : (n == 3) = false := by simp; omega
    have b4 : (n == 4) = false := by simp; omega
    have b13 : (n == 13) = false := by simp; omega
    rw [e]
    clear e h0 h5 h6 h12 h1 h2 h3 h4 h13
    go_enter Tryz.func244, Tryz.ntmps244
    go_wp2
    go_ret
    exact ⟨rfl, rfl⟩
section
variable {w : World} {R : Nat} {V : Rv}
theorem again_rg (h : RgIs w R V) (n v : Nat) (hn : n < 64) : Calls Tryz.prog 245 #[.pointer (some ⟨R, 0, none⟩), .int .i64 n, .int .u8 v] w fun e w' => e = .returned (.int .i64 0) ∧ RgIs w' R (updR V n v) ∧ Turns w w' [R] := by
  have c := h.at n hn
  have f := Row.frozen h n
  have HR := Lib.hid (h.put n v)
  have HT : Hid (Turns w (w.setCell ⟨R, n, none⟩ (.int .u8 v)) [R]) := (Turns.refl _ _).setCell (by simp) _
  clear h
  go_enter Tryz.func245, Tryz.ntmps245
  go_wp2
  go_ret
  exact ⟨rfl, HR.out, HT.out⟩
theorem nothing_rg (n v : Int) (w : World) : Calls Tryz.prog 246 #[.pointer (some ⟨R, 0, none⟩), .int .i64 n, .int .u8 v] w fun e w' => e = .returned (.int .i64 0) ∧ w' = w := by
  go_enter Tryz.func246, Tryz.ntmps246
  go_wp2
  go_ret
  exact ⟨rfl, rfl⟩
theorem once_yes (h : RgIs w R V) (n v : Nat) (hn : n < 64) (hk : ((n == 6 || n == 13) && byteOp .andNot (V n) v == 0 || !(n == 6 || n == 13) && V 13 == 0) = true) : Calls Tryz.prog 247 #[.pointer (some ⟨R, 0, none⟩), .int .i64 n, .int .u8 v] w fun e w' => e = .returned (.int .i64 0) ∧ RgIs w' R (updR V n v) ∧ Turns w w' [R] := by
  have HA := Lib.hid (again_rg h n v hn)
  have c := h.at n hn
  have c13 := h.at 13 (by omega)
  by_cases h6 : n = 6
  · subst h6
    have hb : bits .andNot .u8 (V 6) v = 0 := by rw [byteOp_eq]; simp at hk; rw [hk]; rfl
    clear h
    go_enter Tryz.func247, Tryz.ntmps247
    go_wp2_with fail
    refine HA.out.mono ?_
    rintro e w' ⟨rfl, h2⟩
    go_wp2
    go_ret
    exact ⟨rfl, h2⟩
  · by_cases h13 : n = 13
    · subst h13
      have hb : bits .andNot .u8 (V 13) v = 0 := by rw [byteOp_eq]; simp at hk; rw [hk]; rfl
      clear h h6
      go_enter Tryz.func247, Tryz.ntmps247
      go_wp2_with fail
      refine HA.out.mono ?_
      rintro e w' ⟨rfl, h2⟩
      go_wp2
      go_ret
      exact ⟨rfl, h2⟩
    · have hz : V 13 = 0 := by simpa [h6, h13] using hk
      have b6 : ((n : Int) == 6) = false := by simp; omega
      have b13 : ((n : Int) == 13) = false := by simp; omega
      rw [hz] at c13
      clear h h6 h13 hz hk
      go_enter Tryz.func247, Tryz.ntmps247
      go_wp2_with fail
      refine HA.out.mono ?_
      rintro e w' ⟨rfl, h2⟩
      go_wp2
      go_ret
      exact ⟨rfl, h2⟩
theorem once_no (h : RgIs w R V) (n v : Nat) (hn : n < 64) (hk : ((n == 6 || n == 13) && byteOp .andNot (V n) v == 0 || !(n == 6 || n == 13) && V 13 == 0) = false) : Calls Tryz.prog 247 #[.pointer (some ⟨R, 0, none⟩), .int .i64 n, .int .u8 v] w fun e w' => e = .returned (.int .i64 22) ∧ w' = w := by
  have c := h.at n hn
  have c13 := h.at 13 (by omega)
  by_cases h6 : n = 6
  · subst h6
    have hb : (bits .andNot .u8 (V 6) v == 0) = false := by rw [byteOp_eq]; simp at hk; simpa using hk
    clear h
    go_enter Tryz.func247, Tryz.ntmps247
    go_wp2
    go_ret
    exact ⟨rfl, rfl⟩
  · by_cases h13 : n = 13
    · subst h13
      have hb : (bits .andNot .u8 (V 13) v == 0) = false := by rw [byteOp_eq]; simp at hk; simpa using hk
      clear h h6
      go_enter Tryz.func247, Tryz.ntmps247
      go_wp2
      go_ret
      exact ⟨rfl, rfl⟩
    · have hz : ((V 13 : Int) == 0) = false := by simpa [h6, h13] using hk
      have b6 : ((n : Int) == 6) = false := by simp; omega
      have b13 : ((n : Int) == 13) = false := by simp; omega
      clear h h6 h13 hk
      go_enter Tryz.func247, Tryz.ntmps247
      go_wp2
      go_ret
      exact ⟨rfl, rfl⟩
theorem u32_and (a m k : Nat) (ha : a < 4294967296) (hm : m = 2 ^ k - 1) (hk : k < 32) : bits .and .u32 (a : Int) (m : Int) = (a % 2 ^ k : Nat) := by
  have h1 : (BitVec.ofInt 32 (a : Int)).toNat = a := by
    rw [BitVec.ofInt_natCast, BitVec.toNat_ofNat]; exact Nat.mod_eq_of_lt (by omega)
  have hp : 2 ^ k ≤ 2 ^ 31 := Nat.pow_le_pow_right (by omega) (by omega)
  have h2 : (BitVec.ofInt 32 (m : Int)).toNat = m := by
    rw [BitVec.ofInt_natCast, BitVec.toNat_ofNat]; exact Nat.mod_eq_of_lt (by omega)
  show IntKind.u32.wrap ((BitVec.ofInt 32 (a : Int) &&& BitVec.ofInt 32 (m : Int)).toNat : Int) = _
  rw [BitVec.toNat_and, h1, h2, IntKind.wrap_u32, hm, Nat.and_two_pow_sub_one_eq_mod]
  have hq : 0 < 2 ^ k := Nat.pow_pos (by omega)
  have := Nat.mod_lt a hq
  omega
def idxA (arg : Nat) : Nat := arg / 65536 % 256
def valA (arg : Nat) : Nat := arg / 256 % 256
def howA (arg : Nat) : Nat := arg / 16777216 % 4
def turnV (how now v : Nat) : Nat := if how = 1 then byteOp .or now v else if how = 2 then byteOp .andNot now v else v
def nextRg (V : Rv) (arg : Nat) : Nat × Nat × Nat := if howA arg = 0 then (0, 0, 1) else if writesB (idxA arg) = false then (0, 0, 2) else (idxA arg, turnV (howA arg) (getV V (idxA arg)) (valA arg), 0)
def nextW (V : Rv) (arg : Nat) : Value := .tuple #[.int .i64 ((nextRg V arg).1 : Nat), .int .u8 ((nextRg V arg).2.1 : Nat), .int .i64 ((nextRg V arg).2.2 : Nat)]
theorem nextW_eq (V : Rv) (arg : Nat) (h : howA arg ≠ 0) : nextW V arg = if writesB (idxA arg) = false then .tuple #[.int .i64 0, .int .u8 0, .int .i64 2] else .tuple #[.int .i64 (idxA arg), .int .u8 (turnV (howA arg) (getV V (idxA arg)) (valA arg) : Nat), .int .i64 0] := by
  unfold nextW nextRg
  rw [if_neg h]
  by_cases hw : writesB (idxA arg) = false
  · rw [if_pos hw, if_pos hw]; rfl
  · rw [if_neg hw, if_neg hw]; rfl
theorem how_bits (arg : Nat) (hg : arg < 4294967296) : bits .and .u32 ((arg : Int) / 16777216) 3 = (howA arg : Nat) := u32_and (arg / 16777216) 3 2 (by omega) rfl (by omega)
theorem idx_bits (arg : Nat) (hg : arg < 4294967296) : wrap64 (bits .and .u32 ((arg : Int) / 65536) 255) = (idxA arg : Nat) := by
  have h := u32_and (arg / 65536) 255 8 (by omega) rfl (by omega)
  have e : bits .and .u32 ((arg : Int) / 65536) 255 = (idxA arg : Nat) := h
  rw [e]
  have : idxA arg < 256 := Nat.mod_lt _ (by omega)
  unfold wrap64; omega
theorem val_bits (arg : Nat) : (arg : Int) / 256 % 256 = (valA arg : Nat) := by unfold valA; omega
theorem Next_0 (arg : Nat) (hg : arg < 4294967296) (h0 : howA arg = 0) (p : Value) (w : World) : Calls Tryz.prog 212 #[p, .int .u32 arg] w fun e w' => e = .returned (.tuple #[.int .i64 0, .int .u8 0, .int .i64 1]) ∧ Below w.heap.size w w' := by
  have G : ∀ o, Hid (Below w.heap.size w (w.alloc o)) := fun o => (Below.refl _ w).alloc (Nat.le_refl _) _
  have hh := how_bits arg hg
  rw [h0] at hh
  clear h0
  go_enter Tryz.func212, Tryz.ntmps212
  go_wp2
  refine bodyPost_ret (v := .tuple #[.int .i64 0, .int .u8 0, .int .i64 1]) ?_ ?_ ?_
  · simp [results]
  · rfl
  · exact ⟨rfl, (G _).out⟩
theorem Next_1 (h : RgIs w R V) (arg : Nat) (hg : arg < 4294967296) (h1 : howA arg = 1) : Calls Tryz.prog 212 #[.pointer (some ⟨R, 0, none⟩), .int .u32 arg] w fun e w' => e = .returned (nextW V arg) ∧ Below w.heap.size w w' := by
  have HE := Lib.hid (nextW_eq V arg (by omega))
  rw [h1] at HE
  have G : ∀ o, Hid (Below w.heap.size w (w.alloc o)) := fun o => (Below.refl _ w).alloc (Nat.le_refl _) _
  have HR : ∀ o, Hid (RgIs (w.alloc o) R V) := fun o => (Turns.of_below ((Below.refl _ w).alloc (Nat.le_refl _) o) []).row h (by simp)
  have hh := how_bits arg hg
  rw [h1] at hh
  have hi := idx_bits arg hg
  have hv := val_bits arg
  generalize idxA arg = n at *
  generalize valA arg = v at *
  clear h1 h
  go_enter Tryz.func212, Tryz.ntmps212
  go_wp2_with fail
  refine (writes_any n _).mono ?_
  rintro e w' ⟨rfl, rfl⟩
  cases hw : writesB n
  · go_wp2
    refine bodyPost_ret (v := .tuple #[.int .i64 0, .int .u8 0, .int .i64 2]) ?_ ?_ ?_
    · simp [results]
    · rfl
    · refine ⟨?_, (G _).out⟩
      rw [HE.out, hw]; rfl
  · go_wp2_with fail
    refine (Get_rg (HR _).out n).mono ?_
    rintro e w' ⟨rfl, rfl⟩
    go_wp2
    refine bodyPost_ret (v := .tuple #[.int .i64 n, .int .u8 (byteOp .or (getV V n) v : Nat), .int .i64 0]) ?_ ?_ ?_
    · simp [results, byteOp_eq]
    · rfl
    · refine ⟨?_, (G _).out⟩
      rw [HE.out, hw]; rfl
theorem Next_2 (h : RgIs w R V) (arg : Nat) (hg : arg < 4294967296) (h1 : howA arg = 2) : Calls Tryz.prog 212 #[.pointer (some ⟨R, 0, none⟩), .int .u32 arg] w fun e w' => e = .returned (nextW V arg) ∧ Below w.heap.size w w' := by
  have HE := Lib.hid (nextW_eq V arg (by omega))
  rw [h1] at HE
  have G : ∀ o, Hid (Below w.heap.size w (w.alloc o)) := fun o => (Below.refl _ w).alloc (Nat.le_refl _) _
  have HR : ∀ o, Hid (RgIs (w.alloc o) R V) := fun o => (Turns.of_below ((Below.refl _ w).alloc (Nat.le_refl _) o) []).row h (by simp)
  have hh := how_bits arg hg
  rw [h1] at hh
  have hi := idx_bits arg hg
  have hv := val_bits arg
  generalize idxA arg = n at *
  generalize valA arg = v at *
  clear h1 h
  go_enter Tryz.func212, Tryz.ntmps212
  go_wp2_with fail
  refine (writes_any n _).mono ?_
  rintro e w' ⟨rfl, rfl⟩
  cases hw : writesB n
  · go_wp2
    refine bodyPost_ret (v := .tuple #[.int .i64 0, .int .u8 0, .int .i64 2]) ?_ ?_ ?_
    · simp [results]
    · rfl
    · refine ⟨?_, (G _).out⟩
      rw [HE.out, hw]; rfl
  · go_wp2_with fail
    refine (Get_rg (HR _).out n).mono ?_
    rintro e w' ⟨rfl, rfl⟩
    go_wp2
    refine bodyPost_ret (v := .tuple #[.int .i64 n, .int .u8 (byteOp .andNot (getV V n) v : Nat), .int .i64 0]) ?_ ?_ ?_
    · simp [results, byteOp_eq]
    · rfl
    · refine ⟨?_, (G _).out⟩
      rw [HE.out, hw]; rfl
theorem Next_3 (h : RgIs w R V) (arg : Nat) (hg : arg < 4294967296) (h1 : howA arg = 3) : Calls Tryz.prog 212 #[.pointer (some ⟨R, 0, none⟩), .int .u32 arg] w fun e w' => e = .returned (nextW V arg) ∧ Below w.heap.size w w' := by
  have HE := Lib.hid (nextW_eq V arg (by omega))
  rw [h1] at HE
  have G : ∀ o, Hid (Below w.heap.size w (w.alloc o)) := fun o => (Below.refl _ w).alloc (Nat.le_refl _) _
  have HR : ∀ o, Hid (RgIs (w.alloc o) R V) := fun o => (Turns.of_below ((Below.refl _ w).alloc (Nat.le_refl _) o) []).row h (by simp)
  have hh := how_bits arg hg
  rw [h1] at hh
  have hi := idx_bits arg hg
  have hv := val_bits arg
  generalize idxA arg = n at *
  generalize valA arg = v at *
  clear h1 h
  go_enter Tryz.func212, Tryz.ntmps212
  go_wp2_with fail
  refine (writes_any n _).mono ?_
  rintro e w' ⟨rfl, rfl⟩
  cases hw : writesB n
  · go_wp2
    refine bodyPost_ret (v := .tuple #[.int .i64 0, .int .u8 0, .int .i64 2]) ?_ ?_ ?_
    · simp [results]
    · rfl
    · refine ⟨?_, (G _).out⟩
      rw [HE.out, hw]; rfl
  · go_wp2_with fail
    refine (Get_rg (HR _).out n).mono ?_
    rintro e w' ⟨rfl, rfl⟩
    go_wp2
    refine bodyPost_ret (v := .tuple #[.int .i64 n, .int .u8 v, .int .i64 0]) ?_ ?_ ?_
    · simp [results]
    · rfl
    · refine ⟨?_, (G _).out⟩
      rw [HE.out, hw]; rfl
theorem Next_rg (h : RgIs w R V) (arg : Nat) (hg : arg < 4294967296) : Calls Tryz.prog 212 #[.pointer (some ⟨R, 0, none⟩), .int .u32 arg] w fun e w' => e = .returned (nextW V arg) ∧ Below w.heap.size w w' := by
  have hl : howA arg < 4 := Nat.mod_lt _ (by omega)
  by_cases h0 : howA arg = 0
  · refine (Next_0 arg hg h0 _ w).mono ?_
    rintro e w' ⟨rfl, hb⟩
    refine ⟨?_, hb⟩
    unfold nextW nextRg
    rw [if_pos h0]; rfl
  · by_cases h1 : howA arg = 1
    · exact Next_1 h arg hg h1
    · by_cases h2 : howA arg = 2
      · exact Next_2 h arg hg h2
      · exact Next_3 h arg hg (by omega)
end
end Go.Proofs.YtclhhdodebdmjaaGreat
