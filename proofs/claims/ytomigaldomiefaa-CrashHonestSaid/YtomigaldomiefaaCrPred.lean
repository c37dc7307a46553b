/- crash: readers; May's predicate; slices.IndexFunc, ContainsFunc at ints; slices.BinarySearch. -/
import Derived.Test.YtomigaldomiefaaCrMoving
namespace Go.Proofs.Ytomigaldomiefaa
open Go.RowKit Go.Shelf Go.MapKept Go.ChangeMaps
attribute [local go_sem] Oper.semAt_some
attribute [local simp, local go_sem] wide_fn
set_option linter.unusedVariables false
set_option linter.unusedSimpArgs false

/-- A reader: at each place it hands back bytes, whatever but the blocks T has turned since w0. -/
structure RdOk (w0 : World) (T : List Nat) (n : Nat) (f : FuncId) (lb : Array Value) (rd : Nat → List Nat) : Prop where
  run : ∀ args w, (callFunc f args).run Try.prog w = .ok (.enter f args) w
  ok : ∀ p : Nat, p < n → ∀ w, Turns w0 w T → Calls Try.prog f (#[.int .i64 p] ++ lb) w fun e w' => ∃ A c, e = .returned (.slice A (rd p).length c) ∧ Cells8 w' A (rd p) ∧ Below w.heap.size w w'
  byte : ∀ p, ∀ u ∈ rd p, u < 256
theorem RdOk.later {w0 w1 : World} {T : List Nat} {n : Nat} {f : FuncId} {lb : Array Value} {rd : Nat → List Nat} (h : RdOk w0 T n f lb rd) (hb : Turns w0 w1 T) : RdOk w1 T n f lb rd :=
  ⟨h.run, fun p hp w hw => h.ok p hp w (hb.trans hw (fun k hk => .inl hk)), h.byte⟩
set_option maxRecDepth 100000 in
set_option maxHeartbeats 1000000 in
theorem May1_any (B C H L : Nat) (v4 v5 : Value) (S : Cr) (k p : Nat) (hk : k ≤ S.groups.length) (hp : p < S.n) (w0 : World) (T : List Nat) (f : FuncId) (lb : Array Value) (rd : Nat → List Nat) (hrd : RdOk w0 T S.n f lb rd) (w : World) (hw : Turns w0 w T) (h : CrIs w B C H L v4 v5 S)
    (Zs Zk Zr : Nat) (c1 : w.cell? ⟨Zs, 0, none⟩ = some (.pointer (some ⟨C, 0, none⟩))) (c2 : w.cell? ⟨Zk, 0, none⟩ = some (.int .i64 k)) (c3 : w.cell? ⟨Zr, 0, none⟩ = some (.func (.func f) #[] lb)) :
    Calls Try.prog 39 #[.int .i64 p, .pointer (some ⟨Zs, 0, none⟩), .pointer (some ⟨Zk, 0, none⟩), .pointer (some ⟨Zr, 0, none⟩)] w fun e w' => e = .returned (.bool (!S.at k p (rd p))) ∧ Below w.heap.size w w' := by
  have k1 : ∀ t : Later w, t.u.cell? ⟨Zs, 0, none⟩ = some (.pointer (some ⟨C, 0, none⟩)) := fun t => keep_below t.h _ _ c1
  have k2 : ∀ t : Later w, t.u.cell? ⟨Zk, 0, none⟩ = some (.int .i64 k) := fun t => keep_below t.h _ _ c2
  have k3 : ∀ t : Later w, t.u.cell? ⟨Zr, 0, none⟩ = some (.func (.func f) #[] lb) := fun t => keep_below t.h _ _ c3
  have hrun := hrd.run
  have HRd : Hid (Calls Try.prog f (#[.int .i64 p] ++ lb) w.drew fun e w' => ∃ A c, e = .returned (.slice A (rd p).length c) ∧ Cells8 w' A (rd p) ∧ Below w.drew.heap.size w.drew w') := hrd.ok p hp _ hw.drew
  have HC := Lib.hid h
  have HBy := Lib.hid (hrd.byte p)
  clear c1 c2 c3 hrd hw h
  go_enter Try.func39, Try.ntmps39
  go_wp2
  refine wp_region_noPanic ?_
  refine region_treeW (fun u => ∃ t : Later w, u = t.u) (Tn.takes [0, 1, 2, 3, 4] (.one 5 (.one 6 (.take 7 (.one 8 .nil))))) (by kernel_rfl) (by kernel_rfl) (fun _ _ _ _ _ h => h) ⟨⟨_, (Below.refl _ _).drew⟩, rfl⟩ ?_
  simp only [Tn.takes]
  (repeat ((with_reducible refine wpTree_take (by with_unfolding_all exact rfl) ?_); (with_reducible (show wpQuiet _ _ _ _ (_ :: _) _)); go_big_quiet_step (fail); (with_reducible refine wpQuiet_nil ?_)))
  (with_reducible refine wpTree_one (by with_unfolding_all exact rfl) ?_)
  gi_wp2_with fail
  refine ((callsIn_wide (n := 8)).2 HRd.out).mono ?_
  rintro e w3 ⟨A, c, rfl, hc8, hb⟩
  have HB3 : Hid (Below w.heap.size w w3) := (Below.refl _ _).drew.trans hb
  have HAt := Lib.hid (at_any B C H L v4 v5 S k p hk hp A c (rd p) HBy.out w3 (HC.out.below HB3.out) hc8)
  clear hc8 hb
  generalize (rd p).length = ln at *
  gi_wp2_with fail
  (with_reducible refine outQ_normal ?_ ?_); exact ⟨⟨w3, HB3.out⟩, rfl⟩
  (with_reducible refine wpTree_one (by with_unfolding_all exact rfl) ?_)
  gi_wp2_with fail
  refine ((callsIn_wide (n := 8)).2 HAt.out).mono ?_
  rintro e w4 ⟨rfl, hb⟩
  have HB4 : Hid (Below w.heap.size w w4) := HB3.out.trans (hb.mono HB3.out.size)
  clear hb
  gi_wp2_with fail
  (with_reducible refine outQ_normal ?_ ?_); exact ⟨⟨w4, HB4.out⟩, rfl⟩
  ((with_reducible refine wpTree_take (by with_unfolding_all exact rfl) ?_); (with_reducible (show wpQuiet _ _ _ _ (_ :: _) _)); go_big_quiet_step (fail); (with_reducible refine wpQuiet_nil ?_))
  (with_reducible refine wpTree_one (by with_unfolding_all exact rfl) ?_)
  gi_wp2_with fail
  (with_reducible refine outQ_normal ?_ ?_); exact ⟨⟨w4, HB4.out⟩, rfl⟩
  with_reducible refine wpTree_nil ?_
  refine NoPanic.normal ?_
  clear k1 k2 k3 hrun
  go_wp2
  go_ret
  exact ⟨rfl, HB4.out⟩
/-- The ints of a slice of one's own. -/
theorem own_int {w : World} {B : Nat} {v : Value} {ms : List Nat} (h : w.ownsRow B 3 1 v ms.length (ms.map fun (p : Nat) => encZ p)) {i p : Nat} (hp : ms[i]? = some p) : ∃ g c, v = .slice (some ⟨g, 0, none⟩) ms.length c ∧ w.cell? ⟨g, i, none⟩ = some (.int .i64 p) :=
  own_cellAt h (List.getElem?_eq_some_iff.1 hp).1 (by rw [List.getElem?_map, hp]; rfl)
set_option maxRecDepth 100000 in
set_option maxHeartbeats 1000000 in
theorem IndexFunc_any (B : Nat) (v : Value) (ms : List Nat) (hlen : ms.length ≤ 4294967296) (w : World) (h : w.ownsRow B 3 1 v ms.length (ms.map fun (p : Nat) => encZ p)) (f : FuncId) (lb : Array Value) (hrun : ∀ args w, (callFunc f args).run Try.prog w = .ok (.enter f args) w) (q : Nat → Bool)
    (hq : ∀ p ∈ ms, ∀ w', Below w.heap.size w w' → Calls Try.prog f (#[.int .i64 (p : Nat)] ++ lb) w' fun e w'' => e = .returned (.bool (q p)) ∧ Below w'.heap.size w' w'') :
    Calls Try.prog 55 #[v, .func (.func f) #[] lb] w fun e w' => ∃ i : Int, e = .returned (.int .i64 i) ∧ (decide (i ≥ 0) = ms.any q) ∧ Below w.heap.size w w' := by
  obtain ⟨A, c, rfl, hc, _⟩ := own_shape h
  have H := Lib.hid h
  have HQ := Lib.hid hq
  obtain ⟨ln, hln⟩ : ∃ ln, ln = ms.length := ⟨_, rfl⟩
  have HLn := Lib.hid hln
  rw [← hln] at hlen hc ⊢
  clear h hq hln
  go_enter Try.func55, Try.ntmps55
  go_wp2
  go_loopw [5, 8] (fun _ i wr => ∃ j : Nat, i = .int .i64 j ∧ j ≤ ln ∧ (ms.take j).any q = false ∧ Below w.heap.size w wr) (fun _ i _ => ln - (intOf i).toNat)
  case atStart => exact ⟨0, rfl, by omega, by simp, Below.refl _ _⟩
  case round =>
    obtain ⟨j, rfl, hj, hno, hb⟩ := hrel
    have HB := Lib.hid hb
    by_cases hjn : j < ln
    · obtain ⟨p, hp⟩ : ∃ p, ms[j]? = some p := ⟨_, List.getElem?_eq_getElem (by rw [← HLn.out]; exact hjn)⟩
      obtain ⟨g, c', e, hcell⟩ := own_int (own_below H.out hb) hp
      injection e with e _ ec
      subst e; subst ec
      have HQp := Lib.hid (HQ.out p (List.mem_of_getElem? hp) wr hb)
      have HT : Hid ((ms.take (j + 1)).any q = ((ms.take j).any q || q p)) := by
        unfold Hid; rw [List.take_add_one, hp, List.any_append]; simp only [Option.toList_some, List.any_cons, List.any_nil, Bool.or_false]
      have HMem : Hid (p ∈ ms) := List.mem_of_getElem? hp
      rw [hno] at HT
      have HNo := Lib.hid hno
      clear hb hp hno
      go_wp2_with fail
      refine HQp.out.mono ?_
      rintro e w3 ⟨rfl, hb⟩
      have HB3 : Hid (Below w.heap.size w w3) := HB.out.trans (hb.mono HB.out.size)
      have HQq := Lib.hid (rfl : q p = q p)
      clear hb hcell
      generalize hqp : q p = b at *
      have HQb := Lib.hid hqp
      clear hqp
      cases b with
      | true =>
        go_wp2
        go_ret
        refine ⟨j, rfl, ?_, HB3.out⟩
        rw [List.any_eq_true.2 ⟨p, HMem.out, HQb.out⟩]
        exact decide_eq_true (by omega)
      | false =>
        go_wp2
        go_roundw
        case rel => exact ⟨j + 1, by go_num, by omega, by rw [HT.out]; rfl, HB3.out⟩
        case measure => simp [intOf]; omega
    · obtain rfl : j = ln := by omega
      have hall : ms.take j = ms := by rw [HLn.out]; exact List.take_length
      rw [hall] at hno
      have HNo := Lib.hid hno
      clear hno hall hb
      go_wp2
      go_ret
      exact ⟨-1, rfl, by rw [HNo.out]; rfl, HB.out⟩
theorem ContainsFunc_any (B : Nat) (v : Value) (ms : List Nat) (hlen : ms.length ≤ 4294967296) (w : World) (h : w.ownsRow B 3 1 v ms.length (ms.map fun (p : Nat) => encZ p)) (f : FuncId) (lb : Array Value) (hrun : ∀ args w, (callFunc f args).run Try.prog w = .ok (.enter f args) w) (q : Nat → Bool)
    (hq : ∀ p ∈ ms, ∀ w', Below w.heap.size w w' → Calls Try.prog f (#[.int .i64 (p : Nat)] ++ lb) w' fun e w'' => e = .returned (.bool (q p)) ∧ Below w'.heap.size w' w'') :
    Calls Try.prog 38 #[v, .func (.func f) #[] lb] w fun e w' => e = .returned (.bool (ms.any q)) ∧ Below w.heap.size w w' := by
  have HI := Lib.hid (IndexFunc_any B v ms hlen w h f lb hrun q hq)
  clear h hq
  go_enter Try.func38, Try.ntmps38
  go_wp2_with fail
  refine HI.out.mono ?_
  rintro e w3 ⟨i, rfl, hi, hb⟩
  have HB := Lib.hid hb
  have HE := Lib.hid hi
  clear hi hb
  go_wp2
  go_ret
  refine ⟨?_, HB.out⟩
  show Ending.returned (Value.bool (decide (i ≥ 0))) = _
  rw [HE.out]
theorem search_any (B : Nat) (v : Value) (ms : List Nat) (hlen : ms.length ≤ 4294967296) (w : World) (h : w.ownsRow B 3 1 v ms.length (ms.map fun (p : Nat) => encZ p)) (hs : ms.Pairwise (· ≤ ·)) (x : Nat) :
    Calls Try.prog 36 #[v, .int .i64 x] w fun e w' => ∃ i : Nat, e = .returned (.tuple #[.int .i64 i, .bool (ms.contains x)]) ∧ Below w.heap.size w w' := by
  obtain ⟨A, c, rfl, hc, _⟩ := own_shape h
  cases ms with
  | nil =>
    refine (Any.slices_BinarySearch_int_empty Try.binSearch A c x w).mono ?_
    rintro e w' ⟨rfl, rfl⟩
    exact ⟨0, rfl, Below.refl _ _⟩
  | cons m ms =>
    obtain ⟨g, c', e, _⟩ := own_int h (i := 0) rfl
    injection e with e _ ec
    subst e; subst ec
    have hcs : ∀ j, j < ((m :: ms).map fun (p : Nat) => (p : Int)).length → w.cell? ⟨g, 0 + j, none⟩ = some (.int .i64 (((m :: ms).map fun (p : Nat) => (p : Int)).getD j 0)) := fun j hj => by
      rw [List.length_map] at hj
      obtain ⟨g', c', e, hcell⟩ := own_int h (List.getElem?_eq_getElem hj)
      injection e with e _ _; injection e with e; injection e with e _ _; subst e
      rw [Nat.zero_add, hcell, List.getD_eq_getElem?_getD, List.getElem?_map, List.getElem?_eq_getElem hj]; rfl
    have hp : (((m :: ms).map fun (p : Nat) => (p : Int)).take (m :: ms).length).Pairwise (· ≤ ·) := by
      rw [List.take_of_length_le (by simp)]
      exact List.pairwise_map.2 (hs.imp fun h => by omega)
    refine (Any.slices_BinarySearch_int Try.binSearch g 0 (m :: ms).length c ((m :: ms).map fun (p : Nat) => (p : Int)) x w (by simp) (by omega) hcs hp).mono ?_
    rintro e w' ⟨rfl, q, rfl⟩
    have hco : ((m :: ms).map fun (p : Nat) => (p : Int)).contains (x : Int) = (m :: ms).contains x := by
      rw [Bool.eq_iff_iff, List.contains_iff_mem, List.contains_iff_mem, List.mem_map]
      exact ⟨fun ⟨y, hy, e⟩ => by rw [show x = y by omega]; exact hy, fun h => ⟨x, h, rfl⟩⟩
    refine ⟨(((m :: ms).map fun (p : Nat) => (p : Int)).take (m :: ms).length).countP (· < (x : Int)), ?_, below_drewN0 (Below.refl _ _) q⟩
    rw [List.take_of_length_le (by simp), hco]
end Go.Proofs.Ytomigaldomiefaa
