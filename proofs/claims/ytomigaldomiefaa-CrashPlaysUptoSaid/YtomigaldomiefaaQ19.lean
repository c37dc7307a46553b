/- What follows is laid together from several texts of mine, in their order. -/
import Derived.Test.YtomigaldomiefaaQ18
import Derived.Test.YtomigaldomiefaaQ9
import Derived.Test.YtomigaldomiefaaQ13
import Derived.Test.YtomigaldomiefaaQ15
import Derived.Test.YtomigaldomiefaaQ16

namespace Go.Proofs.Ytomigaldomiefaa
open Go.RowKit Go.MapKept Go.ChangeMaps
attribute [local go_sem] Oper.semAt_some
attribute [local simp, local go_sem] wide_fn
set_option linter.unusedVariables false
set_option linter.unusedSimpArgs false

theorem src_row {w : World} {g : Nat} {u : Value} (h : Row w g 9 #[u]) : Src w 1 (some ⟨g, 0, none⟩) 1 [u] :=
  Src.of_at rfl (fun j v hv => by
    rw [addr_add, Nat.zero_add, h.cell]
    simpa using hv)
theorem strs_none {w : World} {B n c : Nat} {ts : List (List Nat)} (h : StrsIs w B (.slice none n c) ts) : ts = [] ∧ n = 0 ∧ c = 0 := by
  obtain ⟨hn, _⟩ := h.at
  rcases h.2 with ⟨e1, h0⟩ | ⟨g, cap, cur, e1, _⟩
  · injection e1 with _ e2 e3
    rw [List.length_eq_zero_iff] at h0
    exact ⟨h0, e2, e3⟩
  · injection e1 with e1 _ _; cases e1
theorem strs_some {w : World} {B n c : Nat} {a : Addr} {ts : List (List Nat)} (h : StrsIs w B (.slice (some a) n c) ts) : a.off = 0 ∧ a.spot = none ∧ n ≤ c := by
  rcases h.2 with ⟨e1, h0⟩ | ⟨g, cap, cur, e1, _, _, h1, _⟩
  · injection e1 with e1 _ _; cases e1
  · injection e1 with e1 e2 e3
    injection e1 with e1
    subst e1; subst e2; subst e3
    exact ⟨rfl, rfl, h1⟩
theorem strs_take {w : World} {B : Nat} {A : Option Addr} {m c : Nat} {ts : List (List Nat)} (h : StrsIs w B (.slice A m c) ts) (n : Nat) (hn : n ≤ m) : Src w 1 A n (strV (ts.take n)) := by
  obtain ⟨rfl, hat⟩ := h.at
  cases A with
  | none =>
    obtain ⟨rfl, _, _⟩ := strs_none h
    simp at hn; subst hn
    exact (Src.of_own (World.ownsRow_nil w B 9 1))
  | some a =>
    obtain ⟨e1, e2, _⟩ := strs_some h
    obtain ⟨g, off, spot⟩ := a
    simp only at e1 e2
    subst e1; subst e2
    refine Src.of_at (by simp [strV]; omega) (fun j u hu => ?_)
    rw [addr_add, Nat.zero_add]
    unfold strV at hu
    rw [List.getElem?_map, List.getElem?_take] at hu
    split at hu
    · cases hx : ts[j]? with
      | none => rw [hx] at hu; cases hu
      | some d =>
        rw [hx] at hu
        injection hu with hu
        subst hu
        obtain ⟨g', e3, hc⟩ := hat j d hx
        injection e3 with e3
        injection e3 with e3 _ _
        subst e3; exact hc
    · cases hu
theorem strs_drop {w : World} {B : Nat} {g m c : Nat} {ts : List (List Nat)} (h : StrsIs w B (.slice (some ⟨g, 0, none⟩) m c) ts) (n : Nat) (hn : n ≤ m) : Src w 1 (some ⟨g, n, none⟩) (m - n) (strV (ts.drop n)) := by
  obtain ⟨rfl, hat⟩ := h.at
  refine Src.of_at (by simp [strV]) (fun j u hu => ?_)
  rw [addr_add]
  unfold strV at hu
  rw [List.getElem?_map, List.getElem?_drop] at hu
  cases hx : ts[n + j]? with
  | none => rw [hx] at hu; cases hu
  | some d =>
    rw [hx] at hu
    injection hu with hu
    subst hu
    obtain ⟨g', e3, hc⟩ := hat (n + j) d hx
    injection e3 with e3
    injection e3 with e3 _ _
    subst e3; exact hc
set_option maxRecDepth 100000 in
set_option maxHeartbeats 4000000 in
theorem rfreg15 (ops : List Oper) (hops : opsOf 15 Try.f48 = some ops) (Bs : Nat) (A5 : Option Addr) (m5 c5 g7 m7 c7 i n : Nat) (ts ls : List (List Nat)) (x : List Nat) (w : World) (hb : Bs ≤ w.heap.size)
    (h5 : StrsIs w Bs (.slice A5 m5 c5) ts) (h7 : StrsIs w Bs (.slice (some ⟨g7, 0, none⟩) m7 c7) ls) (hx : ls[i]? = some x) (hn : n ≤ m5) (hm5 : m5 ≤ 4398046511104) (hi : i < m7) (him : m7 ≤ 4398046511104) (Q : Exit → Act → World → Prop)
    (u0 u1 u2 u3 u4 u6 u10 u11 u12 u13 u14 u15 u16 u17 u18 u19 u20 u21 u22 u23 u24 u25 u26 u27 u28 u29 u30 u31 u32 u33 u34 u35 u36 u37 u38 u39 u40 u41 u42 u43 u44 u45 u46 u47 u48 u49 u50 u51 u52 u53 u54 u55 u56 u57 u58 u59 u60 u61 u62 u63 u64 u65 u66 u67 u68 u69 u70 u71 u72 u73 u74 u75 u76 u77 u78 u79 u80 u81 u82 u83 u84 u85 u86 u87 u88 u89 : Value)
    (hQ : ∀ (x73 x74 x75 x76 x77 x78 x79 x80 x81 x82 v : Value) (w' : World), StrsIs w' w.heap.size v (ts.take n ++ [x]) → Below w.heap.size w w' → Q .normal { tmps := #[u0, u1, u2, u3, u4, .slice A5 m5 c5, u6, .slice (some ⟨g7, 0, none⟩) m7 c7, .int .i64 i, .int .i64 n, v, u11, u12, u13, u14, u15, u16, u17, u18, u19, u20, u21, u22, u23, u24, u25, u26, u27, u28, u29, u30, u31, u32, u33, u34, u35, u36, u37, u38, u39, u40, u41, u42, u43, u44, u45, u46, u47, u48, u49, u50, u51, u52, u53, u54, u55, u56, u57, u58, u59, u60, u61, u62, u63, u64, u65, u66, u67, u68, u69, u70, u71, u72, x73, x74, x75, x76, x77, x78, x79, x80, x81, x82, v, u84, u85, u86, u87, u88, u89], defers := [] } w') :
    (Code.region 15 ops.toArray true).wp Try.prog Q { tmps := #[u0, u1, u2, u3, u4, .slice A5 m5 c5, u6, .slice (some ⟨g7, 0, none⟩) m7 c7, .int .i64 i, .int .i64 n, u10, u11, u12, u13, u14, u15, u16, u17, u18, u19, u20, u21, u22, u23, u24, u25, u26, u27, u28, u29, u30, u31, u32, u33, u34, u35, u36, u37, u38, u39, u40, u41, u42, u43, u44, u45, u46, u47, u48, u49, u50, u51, u52, u53, u54, u55, u56, u57, u58, u59, u60, u61, u62, u63, u64, u65, u66, u67, u68, u69, u70, u71, u72, u73, u74, u75, u76, u77, u78, u79, u80, u81, u82, u83, u84, u85, u86, u87, u88, u89], defers := [] } w := by
  obtain ⟨i0, hi0, hz0, hz1, hz2⟩ := info_parts str_info
  unfold opsOf Try.f48 at hops
  simp only [Option.bind, regOps, Nat.reduceEqDiff, if_true, if_false, ite_false, ite_true, Option.or, Option.some.injEq] at hops
  subst hops
  dsimp only
  have hmx : Try.prog.follows .mixedOrders = true := by kernel_rfl
  have HQ := Lib.hid hQ
  have HS5 := Lib.hid (strs_take h5 n hn)
  have hc7 := (h7.at.2 i x hx).choose_spec.2
  have hS : ∃ t : Later w, w.drew = t.u := ⟨⟨_, (Below.refl _ _).drew⟩, rfl⟩
  have k1 : ∀ t : Later w, t.u.cell? ⟨g7, i, none⟩ = some (.string (textOf x)) := fun t => by
    obtain ⟨g', e, hc⟩ := h7.at.2 i x hx
    injection e with e
    injection e with e _ _
    subst e
    exact keep_below t.h _ _ hc
  have HTs := Lib.hid h5.at.1
  have HBa : Hid (Below w.heap.size w (w.alloc (.cells #[] 9)).drew) := by unfold Hid; (repeat (first | (with_reducible refine Below.drew ?_) | (with_reducible refine below_drewN0 ?_ _) | ((with_reducible refine Below.setCell ?_ ?_ _); rotate_left; focus (first | omega | (simp; done) | (simp; omega) | (simp at *; omega))) | ((with_reducible refine Below.alloc ?_ ?_ _); rotate_left; focus (first | omega | (simp; done) | (simp; omega) | (simp at *; omega))) | (with_reducible exact Below.refl _ _)))
  have HOa : Hid ((w.alloc (.cells #[] 9)).drew.ownsRow w.heap.size 9 1 (.slice (some ⟨w.heap.size, 0, none⟩) 0 0) 0 []) := World.ownsRow_made (base := w.heap.size) (size := 1) (e := 9) w #[] 0 (Nat.le_refl _) (Nat.zero_le _) rfl
  have HBab : Hid (Below w.heap.size w ((w.alloc (.cells #[] 9)).alloc (.cells #[.string (textOf x)] 9)).drew) := by unfold Hid; (repeat (first | (with_reducible refine Below.drew ?_) | (with_reducible refine below_drewN0 ?_ _) | ((with_reducible refine Below.setCell ?_ ?_ _); rotate_left; focus (first | omega | (simp; done) | (simp; omega) | (simp at *; omega))) | ((with_reducible refine Below.alloc ?_ ?_ _); rotate_left; focus (first | omega | (simp; done) | (simp; omega) | (simp at *; omega))) | (with_reducible exact Below.refl _ _)))
  have HOab : Hid (((w.alloc (.cells #[] 9)).alloc (.cells #[.string (textOf x)] 9)).drew.ownsRow w.heap.size 9 1 (.slice (some ⟨w.heap.size, 0, none⟩) 0 0) 0 []) := by
    have := own_below (w := w.alloc (.cells #[] 9)) (w' := (w.alloc (.cells #[] 9)).alloc (.cells #[.string (textOf x)] 9)) (World.ownsRow_made (base := w.heap.size) (size := 1) (e := 9) w #[] 0 (Nat.le_refl _) (Nat.zero_le _) rfl) ((Below.refl _ _).alloc (Nat.le_refl _) _)
    exact this
  have HRab : Hid (Row ((w.alloc (.cells #[] 9)).alloc (.cells #[.string (textOf x)] 9)).drew (w.heap.size + 1) 9 #[.string (textOf x)]) := by
    have := Row.fresh (w.alloc (.cells #[] 9)) 9 #[.string (textOf x)]
    rw [World.size_alloc] at this; exact this
  have HBb : Hid (Below w.heap.size w (w.alloc (.cells #[.string (textOf x)] 9)).drew) := by unfold Hid; (repeat (first | (with_reducible refine Below.drew ?_) | (with_reducible refine below_drewN0 ?_ _) | ((with_reducible refine Below.setCell ?_ ?_ _); rotate_left; focus (first | omega | (simp; done) | (simp; omega) | (simp at *; omega))) | ((with_reducible refine Below.alloc ?_ ?_ _); rotate_left; focus (first | omega | (simp; done) | (simp; omega) | (simp at *; omega))) | (with_reducible exact Below.refl _ _)))
  have HBba : Hid (Below w.heap.size w ((w.alloc (.cells #[.string (textOf x)] 9)).alloc (.cells #[] 9)).drew) := by unfold Hid; (repeat (first | (with_reducible refine Below.drew ?_) | (with_reducible refine below_drewN0 ?_ _) | ((with_reducible refine Below.setCell ?_ ?_ _); rotate_left; focus (first | omega | (simp; done) | (simp; omega) | (simp at *; omega))) | ((with_reducible refine Below.alloc ?_ ?_ _); rotate_left; focus (first | omega | (simp; done) | (simp; omega) | (simp at *; omega))) | (with_reducible exact Below.refl _ _)))
  have HOba : Hid (((w.alloc (.cells #[.string (textOf x)] 9)).alloc (.cells #[] 9)).drew.ownsRow w.heap.size 9 1 (.slice (some ⟨w.heap.size + 1, 0, none⟩) 0 0) 0 []) := by
    have := World.ownsRow_made (base := w.heap.size) (size := 1) (e := 9) (w.alloc (.cells #[.string (textOf x)] 9)) #[] 0 (by rw [World.size_alloc]; omega) (Nat.zero_le _) rfl
    rw [World.size_alloc] at this
    exact this
  have HRba : Hid (Row ((w.alloc (.cells #[.string (textOf x)] 9)).alloc (.cells #[] 9)).drew w.heap.size 9 #[.string (textOf x)]) := by
    have h1 := Row.fresh w 9 #[.string (textOf x)]
    exact h1.below (w' := (w.alloc (.cells #[.string (textOf x)] 9)).alloc (.cells #[] 9)) ((Below.refl _ _).alloc (Nat.le_refl _) _) h1.lt
  cases A5 with
  | none =>
    obtain ⟨_, rfl, rfl⟩ := strs_none h5
    obtain rfl : n = 0 := by omega
    refine wp_region_noPanic ?_
    refine region_treeW (fun u => ∃ t : Later w, u = t.u) (Tn.takes [1, 2, 3, 5, 6, 7, 8] (.two 0 9 (.two 4 9 (.one 9 (.one 10 (.take 11 .nil))) (.one 4 (.one 10 (.take 11 .nil)))) (.one 0 (.one 4 (.one 10 (.take 11 .nil)))))) hmx (by kernel_rfl) (fun _ _ _ _ _ h => h) hS ?_
    simp only [Tn.takes]
    (repeat ((with_reducible refine wpTree_take (by with_unfolding_all exact rfl) ?_); (with_reducible (show wpQuiet _ _ _ _ (_ :: _) _)); go_big_quiet_step (fail); (with_reducible refine wpQuiet_nil ?_)))
    (with_reducible refine wpTree_two (by with_unfolding_all exact rfl) (by with_unfolding_all exact rfl) ?_ ?_)
    · gi_wp2_with fail
      (with_reducible refine outQ_normal ?_ ?_); exact ⟨⟨_, HBa.out⟩, rfl⟩
      (with_reducible refine wpTree_two (by with_unfolding_all exact rfl) (by with_unfolding_all exact rfl) ?_ ?_)
      · skip
        refine wpListIn_law rfl fun K hK => wp_append_src _ (.tmp 73) (.tmp 76) 81 rfl w.heap.size 9 i0 _ 1 16 Try.underlying81 hi0 hz0 hz1 hz2 rfl (by decide) (.slice (some ⟨w.heap.size, 0, none⟩) 0 0) 0 [] rfl HOa.out none 0 0 (strV (ts.take 0)) rfl (HS5.out.keep (keep_below HBa.out)) (strV_one _) (by unfold maxLen; omega) (by omega) (HBa.out).size ?_
        intro v4 w4 hown hgrow hat
        rw [Nat.zero_add, List.nil_append] at hown
        obtain ⟨A4, c4, rfl, _, _⟩ := own_shape hown
        have HB4 : Hid (Below w.heap.size w w4) := (turns_own hgrow).below HBa.out (HBa.out).size (fun g hg => (own_blk HOa.out hg).1)
        have HT4 := Lib.hid (turns_own hgrow)
        have HO4 := Lib.hid hown
        refine hK _ _ (wpListIn_nil (outQ_normal ⟨⟨w4, HB4.out⟩, rfl⟩ ?_))
        clear hown hgrow hat hK
        simp only [Act.put, List.setIfInBounds_toArray, List.set_cons_succ, List.set_cons_zero]
        have HB6 : Hid (Below w.heap.size w (w4.alloc (.cells #[.string (textOf x)] 9))) := HB4.out.alloc HB4.out.size _
        have HO6 := Lib.hid (own_below HO4.out ((Below.refl w4.heap.size w4).alloc (Nat.le_refl _) (.cells #[.string (textOf x)] 9)))
        have HS6 : Hid (Src (w4.alloc (.cells #[.string (textOf x)] 9)) 1 (some ⟨w4.heap.size, 0, none⟩) 1 [.string (textOf x)]) := src_new (w := w4) (t := 9) (cs := [.string (textOf x)]) (sz := 1) rfl
        (with_reducible refine wpTree_one (by with_unfolding_all exact rfl) ?_)
        gi_wp2_with fail
        (with_reducible refine outQ_normal ?_ ?_); exact ⟨⟨_, HB6.out⟩, rfl⟩
        (with_reducible refine wpTree_one (by with_unfolding_all exact rfl) ?_)
        refine wpListIn_law rfl fun K hK => wp_append_src _ (.tmp 77) (.tmp 82) 81 rfl w.heap.size 9 i0 _ 1 16 Try.underlying81 hi0 hz0 hz1 hz2 rfl (by decide) (.slice A4 0 c4) 0 (strV (ts.take 0)) rfl HO6.out (some ⟨w4.heap.size, 0, none⟩) 1 1 [.string (textOf x)] rfl HS6.out (by intro u hu; rw [List.mem_singleton.1 hu]; rfl) (by unfold maxLen; omega) (by omega) (HB6.out).size ?_
        intro v5 w5 hown hgrow hat
        have HB5 : Hid (Below w.heap.size w w5) := (turns_own hgrow).below HB6.out (HB6.out).size (fun g hg => (own_blk HO6.out hg).1)
        have HO5 : Hid (StrsIs w5 w.heap.size v5 (ts.take 0 ++ [x])) := by
          have hl : (ts.take 0 ++ [x]).length = 0 + 1 := by rw [List.length_append, List.length_take, Nat.min_eq_left (by rw [← HTs.out]; exact hn)]; rfl
          unfold Hid StrsIs
          rw [hl]
          unfold strV at hown ⊢
          rw [List.map_append]; exact hown
        refine hK _ _ (wpListIn_nil (outQ_normal ⟨⟨w5, HB5.out⟩, rfl⟩ ?_))
        clear hown hgrow hat hK
        simp only [Act.put, List.setIfInBounds_toArray, List.set_cons_succ, List.set_cons_zero]
        ((with_reducible refine wpTree_take (by with_unfolding_all exact rfl) ?_); (with_reducible (show wpQuiet _ _ _ _ (_ :: _) _)); go_big_quiet_step (fail); (with_reducible refine wpQuiet_nil ?_))
        with_reducible refine wpTree_nil ?_
        refine NoPanic.normal ?_
        exact HQ.out _ _ _ _ _ _ _ _ _ _ v5 w5 HO5.out HB5.out
      · gi_wp2_with fail
        (with_reducible refine outQ_normal ?_ ?_); exact ⟨⟨_, HBab.out⟩, rfl⟩
        (with_reducible refine wpTree_one (by with_unfolding_all exact rfl) ?_)
        refine wpListIn_law rfl fun K hK => wp_append_src _ (.tmp 73) (.tmp 76) 81 rfl w.heap.size 9 i0 _ 1 16 Try.underlying81 hi0 hz0 hz1 hz2 rfl (by decide) (.slice (some ⟨w.heap.size, 0, none⟩) 0 0) 0 [] rfl HOab.out none 0 0 (strV (ts.take 0)) rfl (HS5.out.keep (keep_below HBab.out)) (strV_one _) (by unfold maxLen; omega) (by omega) (HBab.out).size ?_
        intro v4 w4 hown hgrow hat
        rw [Nat.zero_add, List.nil_append] at hown
        obtain ⟨A4, c4, rfl, _, _⟩ := own_shape hown
        have HB4 : Hid (Below w.heap.size w w4) := (turns_own hgrow).below HBab.out (HBab.out).size (fun g hg => (own_blk HOab.out hg).1)
        have HT4 := Lib.hid (turns_own hgrow)
        have HO4 := Lib.hid hown
        refine hK _ _ (wpListIn_nil (outQ_normal ⟨⟨w4, HB4.out⟩, rfl⟩ ?_))
        clear hown hgrow hat hK
        simp only [Act.put, List.setIfInBounds_toArray, List.set_cons_succ, List.set_cons_zero]
        (with_reducible refine wpTree_one (by with_unfolding_all exact rfl) ?_)
        refine wpListIn_law rfl fun K hK => wp_append_src _ (.tmp 77) (.tmp 82) 81 rfl w.heap.size 9 i0 _ 1 16 Try.underlying81 hi0 hz0 hz1 hz2 rfl (by decide) (.slice A4 0 c4) 0 (strV (ts.take 0)) rfl HO4.out (some ⟨(w.heap.size + 1), 0, none⟩) 1 1 [.string (textOf x)] rfl (src_row (HT4.out.row HRab.out (by unfold blkV Value.ownBlock; simp))) (by intro u hu; rw [List.mem_singleton.1 hu]; rfl) (by unfold maxLen; omega) (by omega) (HB4.out).size ?_
        intro v5 w5 hown hgrow hat
        have HB5 : Hid (Below w.heap.size w w5) := (turns_own hgrow).below HB4.out (HB4.out).size (fun g hg => (own_blk HO4.out hg).1)
        have HO5 : Hid (StrsIs w5 w.heap.size v5 (ts.take 0 ++ [x])) := by
          have hl : (ts.take 0 ++ [x]).length = 0 + 1 := by rw [List.length_append, List.length_take, Nat.min_eq_left (by rw [← HTs.out]; exact hn)]; rfl
          unfold Hid StrsIs
          rw [hl]
          unfold strV at hown ⊢
          rw [List.map_append]; exact hown
        refine hK _ _ (wpListIn_nil (outQ_normal ⟨⟨w5, HB5.out⟩, rfl⟩ ?_))
        clear hown hgrow hat hK
        simp only [Act.put, List.setIfInBounds_toArray, List.set_cons_succ, List.set_cons_zero]
        ((with_reducible refine wpTree_take (by with_unfolding_all exact rfl) ?_); (with_reducible (show wpQuiet _ _ _ _ (_ :: _) _)); go_big_quiet_step (fail); (with_reducible refine wpQuiet_nil ?_))
        with_reducible refine wpTree_nil ?_
        refine NoPanic.normal ?_
        exact HQ.out _ _ _ _ _ _ _ _ _ _ v5 w5 HO5.out HB5.out
    · gi_wp2_with fail
      (with_reducible refine outQ_normal ?_ ?_); exact ⟨⟨_, HBb.out⟩, rfl⟩
      (with_reducible refine wpTree_one (by with_unfolding_all exact rfl) ?_)
      gi_wp2_with fail
      (with_reducible refine outQ_normal ?_ ?_); exact ⟨⟨_, HBba.out⟩, rfl⟩
      (with_reducible refine wpTree_one (by with_unfolding_all exact rfl) ?_)
      refine wpListIn_law rfl fun K hK => wp_append_src _ (.tmp 73) (.tmp 76) 81 rfl w.heap.size 9 i0 _ 1 16 Try.underlying81 hi0 hz0 hz1 hz2 rfl (by decide) (.slice (some ⟨(w.heap.size + 1), 0, none⟩) 0 0) 0 [] rfl HOba.out none 0 0 (strV (ts.take 0)) rfl (HS5.out.keep (keep_below HBba.out)) (strV_one _) (by unfold maxLen; omega) (by omega) (HBba.out).size ?_
      intro v4 w4 hown hgrow hat
      rw [Nat.zero_add, List.nil_append] at hown
      obtain ⟨A4, c4, rfl, _, _⟩ := own_shape hown
      have HB4 : Hid (Below w.heap.size w w4) := (turns_own hgrow).below HBba.out (HBba.out).size (fun g hg => (own_blk HOba.out hg).1)
      have HT4 := Lib.hid (turns_own hgrow)
      have HO4 := Lib.hid hown
      refine hK _ _ (wpListIn_nil (outQ_normal ⟨⟨w4, HB4.out⟩, rfl⟩ ?_))
      clear hown hgrow hat hK
      simp only [Act.put, List.setIfInBounds_toArray, List.set_cons_succ, List.set_cons_zero]
      (with_reducible refine wpTree_one (by with_unfolding_all exact rfl) ?_)
      refine wpListIn_law rfl fun K hK => wp_append_src _ (.tmp 77) (.tmp 82) 81 rfl w.heap.size 9 i0 _ 1 16 Try.underlying81 hi0 hz0 hz1 hz2 rfl (by decide) (.slice A4 0 c4) 0 (strV (ts.take 0)) rfl HO4.out (some ⟨w.heap.size, 0, none⟩) 1 1 [.string (textOf x)] rfl (src_row (HT4.out.row HRba.out (by unfold blkV Value.ownBlock; simp))) (by intro u hu; rw [List.mem_singleton.1 hu]; rfl) (by unfold maxLen; omega) (by omega) (HB4.out).size ?_
      intro v5 w5 hown hgrow hat
      have HB5 : Hid (Below w.heap.size w w5) := (turns_own hgrow).below HB4.out (HB4.out).size (fun g hg => (own_blk HO4.out hg).1)
      have HO5 : Hid (StrsIs w5 w.heap.size v5 (ts.take 0 ++ [x])) := by
        have hl : (ts.take 0 ++ [x]).length = 0 + 1 := by rw [List.length_append, List.length_take, Nat.min_eq_left (by rw [← HTs.out]; exact hn)]; rfl
        unfold Hid StrsIs
        rw [hl]
        unfold strV at hown ⊢
        rw [List.map_append]; exact hown
      refine hK _ _ (wpListIn_nil (outQ_normal ⟨⟨w5, HB5.out⟩, rfl⟩ ?_))
      clear hown hgrow hat hK
      simp only [Act.put, List.setIfInBounds_toArray, List.set_cons_succ, List.set_cons_zero]
      ((with_reducible refine wpTree_take (by with_unfolding_all exact rfl) ?_); (with_reducible (show wpQuiet _ _ _ _ (_ :: _) _)); go_big_quiet_step (fail); (with_reducible refine wpQuiet_nil ?_))
      with_reducible refine wpTree_nil ?_
      refine NoPanic.normal ?_
      exact HQ.out _ _ _ _ _ _ _ _ _ _ v5 w5 HO5.out HB5.out
  | some a =>
    obtain ⟨e1, e2, hmc⟩ := strs_some h5
    obtain ⟨g5, off5, spot5⟩ := a
    simp only at e1 e2
    subst e1; subst e2
    have hnc : n ≤ c5 := by omega
    refine wp_region_noPanic ?_
    refine region_treeW (fun u => ∃ t : Later w, u = t.u) (Tn.takes [1, 2, 3, 5, 6, 7, 8] (.two 0 9 (.two 4 9 (.one 9 (.one 10 (.take 11 .nil))) (.one 4 (.one 10 (.take 11 .nil)))) (.one 0 (.one 4 (.one 10 (.take 11 .nil)))))) hmx (by kernel_rfl) (fun _ _ _ _ _ h => h) hS ?_
    simp only [Tn.takes]
    (repeat ((with_reducible refine wpTree_take (by with_unfolding_all exact rfl) ?_); (with_reducible (show wpQuiet _ _ _ _ (_ :: _) _)); go_big_quiet_step (fail); (with_reducible refine wpQuiet_nil ?_)))
    (with_reducible refine wpTree_two (by with_unfolding_all exact rfl) (by with_unfolding_all exact rfl) ?_ ?_)
    · gi_wp2_with fail
      (with_reducible refine outQ_normal ?_ ?_); exact ⟨⟨_, HBa.out⟩, rfl⟩
      (with_reducible refine wpTree_two (by with_unfolding_all exact rfl) (by with_unfolding_all exact rfl) ?_ ?_)
      · skip
        refine wpListIn_law rfl fun K hK => wp_append_src _ (.tmp 73) (.tmp 76) 81 rfl w.heap.size 9 i0 _ 1 16 Try.underlying81 hi0 hz0 hz1 hz2 rfl (by decide) (.slice (some ⟨w.heap.size, 0, none⟩) 0 0) 0 [] rfl HOa.out (some (Addr.mk g5 0 none)) n c5 (strV (ts.take n)) rfl (HS5.out.keep (keep_below HBa.out)) (strV_one _) (by unfold maxLen; omega) (by omega) (HBa.out).size ?_
        intro v4 w4 hown hgrow hat
        rw [Nat.zero_add, List.nil_append] at hown
        obtain ⟨A4, c4, rfl, _, _⟩ := own_shape hown
        have HB4 : Hid (Below w.heap.size w w4) := (turns_own hgrow).below HBa.out (HBa.out).size (fun g hg => (own_blk HOa.out hg).1)
        have HT4 := Lib.hid (turns_own hgrow)
        have HO4 := Lib.hid hown
        refine hK _ _ (wpListIn_nil (outQ_normal ⟨⟨w4, HB4.out⟩, rfl⟩ ?_))
        clear hown hgrow hat hK
        simp only [Act.put, List.setIfInBounds_toArray, List.set_cons_succ, List.set_cons_zero]
        have HB6 : Hid (Below w.heap.size w (w4.alloc (.cells #[.string (textOf x)] 9))) := HB4.out.alloc HB4.out.size _
        have HO6 := Lib.hid (own_below HO4.out ((Below.refl w4.heap.size w4).alloc (Nat.le_refl _) (.cells #[.string (textOf x)] 9)))
        have HS6 : Hid (Src (w4.alloc (.cells #[.string (textOf x)] 9)) 1 (some ⟨w4.heap.size, 0, none⟩) 1 [.string (textOf x)]) := src_new (w := w4) (t := 9) (cs := [.string (textOf x)]) (sz := 1) rfl
        (with_reducible refine wpTree_one (by with_unfolding_all exact rfl) ?_)
        gi_wp2_with fail
        (with_reducible refine outQ_normal ?_ ?_); exact ⟨⟨_, HB6.out⟩, rfl⟩
        (with_reducible refine wpTree_one (by with_unfolding_all exact rfl) ?_)
        refine wpListIn_law rfl fun K hK => wp_append_src _ (.tmp 77) (.tmp 82) 81 rfl w.heap.size 9 i0 _ 1 16 Try.underlying81 hi0 hz0 hz1 hz2 rfl (by decide) (.slice A4 n c4) n (strV (ts.take n)) rfl HO6.out (some ⟨w4.heap.size, 0, none⟩) 1 1 [.string (textOf x)] rfl HS6.out (by intro u hu; rw [List.mem_singleton.1 hu]; rfl) (by unfold maxLen; omega) (by omega) (HB6.out).size ?_
        intro v5 w5 hown hgrow hat
        have HB5 : Hid (Below w.heap.size w w5) := (turns_own hgrow).below HB6.out (HB6.out).size (fun g hg => (own_blk HO6.out hg).1)
        have HO5 : Hid (StrsIs w5 w.heap.size v5 (ts.take n ++ [x])) := by
          have hl : (ts.take n ++ [x]).length = n + 1 := by rw [List.length_append, List.length_take, Nat.min_eq_left (by rw [← HTs.out]; exact hn)]; rfl
          unfold Hid StrsIs
          rw [hl]
          unfold strV at hown ⊢
          rw [List.map_append]; exact hown
        refine hK _ _ (wpListIn_nil (outQ_normal ⟨⟨w5, HB5.out⟩, rfl⟩ ?_))
        clear hown hgrow hat hK
        simp only [Act.put, List.setIfInBounds_toArray, List.set_cons_succ, List.set_cons_zero]
        ((with_reducible refine wpTree_take (by with_unfolding_all exact rfl) ?_); (with_reducible (show wpQuiet _ _ _ _ (_ :: _) _)); go_big_quiet_step (fail); (with_reducible refine wpQuiet_nil ?_))
        with_reducible refine wpTree_nil ?_
        refine NoPanic.normal ?_
        exact HQ.out _ _ _ _ _ _ _ _ _ _ v5 w5 HO5.out HB5.out
      · gi_wp2_with fail
        (with_reducible refine outQ_normal ?_ ?_); exact ⟨⟨_, HBab.out⟩, rfl⟩
        (with_reducible refine wpTree_one (by with_unfolding_all exact rfl) ?_)
        refine wpListIn_law rfl fun K hK => wp_append_src _ (.tmp 73) (.tmp 76) 81 rfl w.heap.size 9 i0 _ 1 16 Try.underlying81 hi0 hz0 hz1 hz2 rfl (by decide) (.slice (some ⟨w.heap.size, 0, none⟩) 0 0) 0 [] rfl HOab.out (some (Addr.mk g5 0 none)) n c5 (strV (ts.take n)) rfl (HS5.out.keep (keep_below HBab.out)) (strV_one _) (by unfold maxLen; omega) (by omega) (HBab.out).size ?_
        intro v4 w4 hown hgrow hat
        rw [Nat.zero_add, List.nil_append] at hown
        obtain ⟨A4, c4, rfl, _, _⟩ := own_shape hown
        have HB4 : Hid (Below w.heap.size w w4) := (turns_own hgrow).below HBab.out (HBab.out).size (fun g hg => (own_blk HOab.out hg).1)
        have HT4 := Lib.hid (turns_own hgrow)
        have HO4 := Lib.hid hown
        refine hK _ _ (wpListIn_nil (outQ_normal ⟨⟨w4, HB4.out⟩, rfl⟩ ?_))
        clear hown hgrow hat hK
        simp only [Act.put, List.setIfInBounds_toArray, List.set_cons_succ, List.set_cons_zero]
        (with_reducible refine wpTree_one (by with_unfolding_all exact rfl) ?_)
        refine wpListIn_law rfl fun K hK => wp_append_src _ (.tmp 77) (.tmp 82) 81 rfl w.heap.size 9 i0 _ 1 16 Try.underlying81 hi0 hz0 hz1 hz2 rfl (by decide) (.slice A4 n c4) n (strV (ts.take n)) rfl HO4.out (some ⟨(w.heap.size + 1), 0, none⟩) 1 1 [.string (textOf x)] rfl (src_row (HT4.out.row HRab.out (by unfold blkV Value.ownBlock; simp))) (by intro u hu; rw [List.mem_singleton.1 hu]; rfl) (by unfold maxLen; omega) (by omega) (HB4.out).size ?_
        intro v5 w5 hown hgrow hat
        have HB5 : Hid (Below w.heap.size w w5) := (turns_own hgrow).below HB4.out (HB4.out).size (fun g hg => (own_blk HO4.out hg).1)
        have HO5 : Hid (StrsIs w5 w.heap.size v5 (ts.take n ++ [x])) := by
          have hl : (ts.take n ++ [x]).length = n + 1 := by rw [List.length_append, List.length_take, Nat.min_eq_left (by rw [← HTs.out]; exact hn)]; rfl
          unfold Hid StrsIs
          rw [hl]
          unfold strV at hown ⊢
          rw [List.map_append]; exact hown
        refine hK _ _ (wpListIn_nil (outQ_normal ⟨⟨w5, HB5.out⟩, rfl⟩ ?_))
        clear hown hgrow hat hK
        simp only [Act.put, List.setIfInBounds_toArray, List.set_cons_succ, List.set_cons_zero]
        ((with_reducible refine wpTree_take (by with_unfolding_all exact rfl) ?_); (with_reducible (show wpQuiet _ _ _ _ (_ :: _) _)); go_big_quiet_step (fail); (with_reducible refine wpQuiet_nil ?_))
        with_reducible refine wpTree_nil ?_
        refine NoPanic.normal ?_
        exact HQ.out _ _ _ _ _ _ _ _ _ _ v5 w5 HO5.out HB5.out
    · gi_wp2_with fail
      (with_reducible refine outQ_normal ?_ ?_); exact ⟨⟨_, HBb.out⟩, rfl⟩
      (with_reducible refine wpTree_one (by with_unfolding_all exact rfl) ?_)
      gi_wp2_with fail
      (with_reducible refine outQ_normal ?_ ?_); exact ⟨⟨_, HBba.out⟩, rfl⟩
      (with_reducible refine wpTree_one (by with_unfolding_all exact rfl) ?_)
      refine wpListIn_law rfl fun K hK => wp_append_src _ (.tmp 73) (.tmp 76) 81 rfl w.heap.size 9 i0 _ 1 16 Try.underlying81 hi0 hz0 hz1 hz2 rfl (by decide) (.slice (some ⟨(w.heap.size + 1), 0, none⟩) 0 0) 0 [] rfl HOba.out (some (Addr.mk g5 0 none)) n c5 (strV (ts.take n)) rfl (HS5.out.keep (keep_below HBba.out)) (strV_one _) (by unfold maxLen; omega) (by omega) (HBba.out).size ?_
      intro v4 w4 hown hgrow hat
      rw [Nat.zero_add, List.nil_append] at hown
      obtain ⟨A4, c4, rfl, _, _⟩ := own_shape hown
      have HB4 : Hid (Below w.heap.size w w4) := (turns_own hgrow).below HBba.out (HBba.out).size (fun g hg => (own_blk HOba.out hg).1)
      have HT4 := Lib.hid (turns_own hgrow)
      have HO4 := Lib.hid hown
      refine hK _ _ (wpListIn_nil (outQ_normal ⟨⟨w4, HB4.out⟩, rfl⟩ ?_))
      clear hown hgrow hat hK
      simp only [Act.put, List.setIfInBounds_toArray, List.set_cons_succ, List.set_cons_zero]
      (with_reducible refine wpTree_one (by with_unfolding_all exact rfl) ?_)
      refine wpListIn_law rfl fun K hK => wp_append_src _ (.tmp 77) (.tmp 82) 81 rfl w.heap.size 9 i0 _ 1 16 Try.underlying81 hi0 hz0 hz1 hz2 rfl (by decide) (.slice A4 n c4) n (strV (ts.take n)) rfl HO4.out (some ⟨w.heap.size, 0, none⟩) 1 1 [.string (textOf x)] rfl (src_row (HT4.out.row HRba.out (by unfold blkV Value.ownBlock; simp))) (by intro u hu; rw [List.mem_singleton.1 hu]; rfl) (by unfold maxLen; omega) (by omega) (HB4.out).size ?_
      intro v5 w5 hown hgrow hat
      have HB5 : Hid (Below w.heap.size w w5) := (turns_own hgrow).below HB4.out (HB4.out).size (fun g hg => (own_blk HO4.out hg).1)
      have HO5 : Hid (StrsIs w5 w.heap.size v5 (ts.take n ++ [x])) := by
        have hl : (ts.take n ++ [x]).length = n + 1 := by rw [List.length_append, List.length_take, Nat.min_eq_left (by rw [← HTs.out]; exact hn)]; rfl
        unfold Hid StrsIs
        rw [hl]
        unfold strV at hown ⊢
        rw [List.map_append]; exact hown
      refine hK _ _ (wpListIn_nil (outQ_normal ⟨⟨w5, HB5.out⟩, rfl⟩ ?_))
      clear hown hgrow hat hK
      simp only [Act.put, List.setIfInBounds_toArray, List.set_cons_succ, List.set_cons_zero]
      ((with_reducible refine wpTree_take (by with_unfolding_all exact rfl) ?_); (with_reducible (show wpQuiet _ _ _ _ (_ :: _) _)); go_big_quiet_step (fail); (with_reducible refine wpQuiet_nil ?_))
      with_reducible refine wpTree_nil ?_
      refine NoPanic.normal ?_
      exact HQ.out _ _ _ _ _ _ _ _ _ _ v5 w5 HO5.out HB5.out
end Go.Proofs.Ytomigaldomiefaa

namespace Go.Proofs.Ytomigaldomiefaa
open Go.RowKit Go.MapKept Go.ChangeMaps
set_option linter.unusedVariables false
set_option linter.unusedSimpArgs false

/-- What Values has: of the levels before k, of the first i of level k. -/
structure VI (S : Cr) (p k i : Nat) (ts : List (List Nat)) : Prop where
  so : SortN ts
  mem : ∀ d, d ∈ ts ↔ d ∈ S.vals p k ∨ d ∈ (S.atL k p).take i
section
variable {w : World} {B R X L : Nat} {v3 v4 : Value} {S : Cr} {p k i : Nat} {ts : List (List Nat)}
theorem VI.ok (h : RfIs w B R X L v3 v4 S) (hp : p < S.n) (hv : VI S p k i ts) : ∀ d ∈ ts, ∀ u ∈ d, u < 256 := fun d hd => by
  rcases (hv.mem d).1 hd with h1 | h1
  · unfold Cr.vals at h1
    obtain ⟨j, _, h2⟩ := List.mem_flatMap.1 h1
    exact (rf_level_ok h j hp d ((mem_atL S j p d).2 h2)).2
  · exact (rf_level_ok h k hp d (List.mem_of_mem_take h1)).2
theorem VI.len (h : RfIs w B R X L v3 v4 S) (hk : k ≤ S.groups.length) (hv : VI S p k i ts) : ts.length ≤ 2199027449858 := by
  have h1 := vals_len S p 1048576 1048576 h.few.2.1 h.few.2.2 k
  have h2 := atL_len h k p
  have h3 := h.few.1
  have h4 : ts.length ≤ (S.vals p k ++ S.atL k p).length := nodup_le hv.so.1 (fun d hd => by
    rcases (hv.mem d).1 hd with h1 | h1
    · exact List.mem_append_left _ h1
    · exact List.mem_append_right _ (List.mem_of_mem_take h1))
  rw [List.length_append] at h4
  have h5 : k * (2 + 1048576 + 1048576) ≤ 1048576 * (2 + 1048576 + 1048576) := Nat.mul_le_mul_right _ (by omega)
  omega
theorem VI.start (S : Cr) (p : Nat) : VI S p 0 0 [] := ⟨SortN.nil, fun d => by simp [Cr.vals]⟩
theorem VI.next (hv : VI S p k (S.atL k p).length ts) : VI S p (k + 1) 0 ts := ⟨hv.so, fun d => by
  rw [hv.mem d, vals_step, List.take_length, List.mem_append, mem_atL]; simp⟩
theorem VI.skip {x : List Nat} (hv : VI S p k i ts) (hx : (S.atL k p)[i]? = some x) (hm : x ∈ ts) : VI S p k (i + 1) ts := ⟨hv.so, fun d => by
  rw [hv.mem d, List.take_add_one, hx, List.mem_append]
  simp only [Option.toList_some, List.mem_singleton]
  constructor
  · rintro (h | h)
    · exact .inl h
    · exact .inr (.inl h)
  · rintro (h | h | h)
    · exact .inl h
    · exact .inr h
    · subst h; exact (hv.mem d).1 hm⟩
theorem VI.ins {x : List Nat} {n : Nat} (hv : VI S p k i ts) (hx : (S.atL k p)[i]? = some x) (hs : SortN (ts.take n ++ x :: ts.drop n)) : VI S p k (i + 1) (ts.take n ++ x :: ts.drop n) := ⟨hs, fun d => by
  rw [mem_ins, hv.mem d, List.take_add_one, hx, List.mem_append]
  simp only [Option.toList_some, List.mem_singleton]
  constructor
  · rintro (h | h | h)
    · exact .inr (.inr h)
    · exact .inl h
    · exact .inr (.inl h)
  · rintro (h | h | h)
    · exact .inr (.inl h)
    · exact .inr (.inr h)
    · exact .inl h⟩
end
theorem rfValues_out (B R X L : Nat) (v3 v4 : Value) (S : Cr) (p : Int) (hp : ¬ (0 ≤ p ∧ p < S.n)) (w : World) (h : RfIs w B R X L v3 v4 S) :
    Calls Try.prog 48 #[.pointer (some ⟨R, 0, none⟩), .int .i64 p] w fun e w' => e = .returned (.slice none 0 0) ∧ w' = w := by
  have d1 := h.cells.2.1
  generalize S.n = n at *
  by_cases h0 : p < 0
  · clear hp h
    go_enter Try.func48, Try.ntmps48
    go_wp2
    go_ret
    exact ⟨rfl, rfl⟩
  · have h1 : p ≥ (n : Int) := by omega
    clear hp h
    go_enter Try.func48, Try.ntmps48
    go_wp2
    go_ret
    exact ⟨rfl, rfl⟩
set_option maxRecDepth 100000 in
set_option maxHeartbeats 4000000 in
theorem rfValues_in (B R X L : Nat) (v3 v4 : Value) (S : Cr) (p : Nat) (hp : p < S.n) (w : World) (h : RfIs w B R X L v3 v4 S) :
    Calls Try.prog 48 #[.pointer (some ⟨R, 0, none⟩), .int .i64 p] w fun e w' => ∃ v ts, e = .returned v ∧ StrsIs w' w.heap.size v ts ∧ VI S p (S.groups.length + 1) 0 ts ∧ Below w.heap.size w w' := by
  obtain ⟨i0, hi0, hz0, hz1, hz2⟩ := info_parts str_info
  obtain ⟨n3, A3, c3, rfl⟩ : ∃ n A c, v3 = .slice A n c := by
    obtain ⟨vs, h1, _⟩ := h.grs
    obtain ⟨A, c, e, _⟩ := own_shape h1
    exact ⟨_, A, c, e⟩
  have hn3 := h.grs.at.1
  have HC := Lib.hid h
  have d1 := h.cells.2.1
  obtain ⟨n, hn⟩ : ∃ n, n = S.n := ⟨_, rfl⟩
  have HN := Lib.hid hn
  have HP := Lib.hid hp
  have hn16 : n ≤ 16384 := by rw [hn]; exact h.n.2
  have hgl : n3 ≤ 1048576 := by rw [hn3]; exact h.few.1
  have HN3 := Lib.hid hn3
  rw [← hn] at d1 hp
  have hp0 : ¬ (p : Int) < 0 := by omega
  have hp1 : ¬ (p : Int) ≥ n := by omega
  clear h hn hn3
  go_enter Try.func48, Try.ntmps48
  go_wp2_with fail
  clear d1
  go_loopw [5, 6] (fun out i wr => ∃ (k : Nat) (ts : List (List Nat)), i = .int .i64 k ∧ k ≤ n3 + 1 ∧ StrsIs wr w.heap.size out ts ∧ VI S p k 0 ts ∧ Below w.heap.size w wr) (fun _ i _ => n3 + 1 - (intOf i).toNat)
  case atStart => exact ⟨0, [], rfl, by omega, World.ownsRow_nil _ _ _ _, VI.start S p, Below.refl _ _⟩
  case round =>
    obtain ⟨k, ts, rfl, hk, hs, hv, hb⟩ := hrel
    have HCr := Lib.hid (HC.out.below hb)
    have d3 := HCr.out.cells.2.2.2.1
    have HB := Lib.hid hb
    have HS := Lib.hid hs
    have HV := Lib.hid hv
    clear hs hv hb
    by_cases hkn : k ≤ n3
    · have hkG : k ≤ S.groups.length := by rw [← HN3.out]; exact hkn
      have HKG := Lib.hid hkG
      have HAt := Lib.hid (rfAt_any B R X L _ v4 S k p wr HCr.out hkG HP.out)
      have HAl := Lib.hid (atL_len HCr.out k p)
      have HAo := Lib.hid (rf_level_ok HCr.out k HP.out)
      clear hkG
      go_wp2_with fail
      clear d3
      refine HAt.out.mono ?_
      rintro e w2 ⟨lv, rfl, hl, hb⟩
      have hne : (S.atL k p).length ≠ 0 := by unfold Cr.atL; simp
      obtain ⟨Al, cl, rfl, hl1, hl2⟩ := hl.shape
      obtain ⟨m7, hm7⟩ : ∃ m, m = (S.atL k p).length := ⟨_, rfl⟩
      have HM7 := Lib.hid hm7
      rw [← hm7] at hne hl ⊢
      obtain ⟨g7, rfl⟩ : ∃ g, Al = some ⟨g, 0, none⟩ := by
        obtain ⟨y, hy⟩ : ∃ y, (S.atL k p)[0]? = some y := ⟨_, List.getElem?_eq_getElem (by omega)⟩
        obtain ⟨g, e, _⟩ := hl.at.2 0 y hy
        exact ⟨g, e⟩
      have hm72 : m7 ≤ 2097154 := by rw [hm7]; exact HAl.out
      have HL := Lib.hid (hl.mono HB.out.size)
      have HB2 : Hid (Below w.heap.size w w2) := HB.out.trans (hb.mono HB.out.size)
      have HS2 := Lib.hid (HS.out.below hb)
      clear hl hb HAt HS HB hne hm7 hl1 hl2
      go_wp2_with fail
      go_loopw [5, 8] (fun out i wx => ∃ (j : Nat) (ts : List (List Nat)), i = .int .i64 j ∧ j ≤ m7 ∧ StrsIs wx w.heap.size out ts ∧ VI S p k j ts ∧ Below w2.heap.size w2 wx) (fun _ i _ => m7 - (intOf i).toNat)
      case atStart => exact ⟨0, ts, rfl, by omega, HS2.out, HV.out, Below.refl _ _⟩
      case round =>
        clear HS2 HV ts
        obtain ⟨j, ts, rfl, hj, hs, hv, hb⟩ := hrel
        have HB := Lib.hid hb
        have HS := Lib.hid hs
        have HV := Lib.hid hv
        have HLx := Lib.hid (HL.out.below hb)
        clear hs hv hb
        by_cases hjm : j < m7
        · obtain ⟨x, hx⟩ : ∃ x, (S.atL k p)[j]? = some x := ⟨_, List.getElem?_eq_getElem (by rw [← HM7.out]; exact hjm)⟩
          have HX := Lib.hid hx
          have HXo := Lib.hid (HAo.out x (List.mem_of_getElem? hx)).2
          have HTo := Lib.hid (HV.out.ok HCr.out HP.out)
          have HTl := Lib.hid (HV.out.len HCr.out HKG.out)
          obtain ⟨A5, c5, rfl, _, _⟩ := HS.out.shape
          obtain ⟨m5, hm5⟩ : ∃ m, m = ts.length := ⟨_, rfl⟩
          have HM5 := Lib.hid hm5
          rw [← hm5] at HS ⊢
          have hm52 : m5 ≤ 2199027449858 := by rw [hm5]; exact HTl.out
          clear hx hm5
          go_wp2_with fail
          go_loopw [9] (fun nn wy => ∃ n : Nat, nn = .int .i64 n ∧ n ≤ m5 ∧ Below wr.heap.size wr wy ∧ ∀ i y, i < n → ts[i]? = some y → bytesOf y < bytesOf x) (fun nn _ => m5 - (intOf nn).toNat)
          case atStart => exact ⟨0, rfl, by omega, Below.refl _ _, fun i y h => absurd h (by omega)⟩
          case round =>
            obtain ⟨n, rfl, hn, hb, hlt⟩ := hrel
            have HBz0 := Lib.hid hb
            have HLt := Lib.hid hlt
            have HSz0 := Lib.hid (HS.out.below hb)
            have HLz0 := Lib.hid (HLx.out.below hb)
            clear hb hlt
            have q7 : wr.cell? ⟨g7, j, none⟩ = some (.string (textOf x)) := by
              obtain ⟨g, e, hc⟩ := HLz0.out.at.2 j x HX.out
              injection e with e
              injection e with e _ _
              subst e; exact hc
            by_cases hnm : n < m5
            · obtain ⟨y, hy⟩ : ∃ y, ts[n]? = some y := ⟨_, List.getElem?_eq_getElem (by rw [← HM5.out]; exact hnm)⟩
              obtain ⟨g5, e5, q5⟩ := HSz0.out.at.2 n y hy
              subst e5
              have hnm1 : decide (n < m5) = true := decide_eq_true hnm
              have HY := Lib.hid hy
              have HYo := Lib.hid (HTo.out y (List.mem_of_getElem? hy))
              have HYm := Lib.hid (List.mem_of_getElem? hy)
              clear hy
              by_cases hly : bytesOf y < bytesOf x
              · have hls : Op.bytesLess (textOf y).toList (textOf x).toList = true := by rw [text_less]; exact decide_eq_true hly
                go_wp2_with fail
                go_quiet (fail)
                go_wp2_with fail
                go_roundw
                case rel => exact ⟨n + 1, by go_num, by omega, below_drewN0 HBz0.out _, fun i z hi hz => by
                  rcases Nat.lt_or_eq_of_le (Nat.le_of_lt_succ hi) with h1 | h1
                  · exact HLt.out i z h1 hz
                  · subst h1
                    rw [HY.out] at hz
                    injection hz with hz
                    rw [← hz]; exact hly⟩
                case measure => simp [intOf]; omega
              · have hls : Op.bytesLess (textOf y).toList (textOf x).toList = false := by rw [text_less]; exact decide_eq_false hly
                by_cases hyx : y = x
                · have hxe : ((textOf y).toList == (textOf x).toList) = true := by rw [hyx]; simp
                  have HV2 : Hid (VI S p k (j + 1) ts) := HV.out.skip HX.out (hyx ▸ HYm.out)
                  clear hyx
                  have HXe := Lib.hid hxe
                  clear hxe
                  go_wp2_with fail
                  go_quiet (fail)
                  generalize nq = nq1
                  go_wp2_with fail
                  clear hls
                  have hxe := HXe.out
                  go_quiet (fail)
                  go_wp2_with fail
                  have HBe := Lib.hid (HB.out.trans ((below_drewN0 HBz0.out (nq1 + nq)).mono HB.out.size))
                  clear q5 q7
                  go_roundw
                  case rel => exact ⟨j + 1, ts, by go_num, by omega, HSz0.out, HV2.out, HBe.out⟩
                  case measure => simp [intOf]; omega
                · have hxe : ((textOf y).toList == (textOf x).toList) = false := rftext_ne (fun e => hyx (textOf_inj HYo.out HXo.out e))
                  have HGe : Hid (∀ z, ts[n]? = some z → ¬ bytesOf z < bytesOf x ∧ z ≠ x) := fun z hz => by
                    rw [HY.out] at hz
                    injection hz with hz
                    rw [← hz]; exact ⟨hly, hyx⟩
                  have HXe := Lib.hid hxe
                  clear hxe
                  go_wp2_with fail
                  go_quiet (fail)
                  generalize nq = nq1
                  go_wp2_with fail
                  clear hls
                  have hxe := HXe.out
                  go_quiet (fail)
                  go_wp2_with fail
                  have HBz := Lib.hid (below_drewN0 (below_drewN0 HBz0.out nq1) nq)
                  have HSz := Lib.hid (HS.out.below HBz.out)
                  have HLz := Lib.hid (HLx.out.below HBz.out)
                  generalize (wr.drewN nq1).drewN nq = wz at *
                  have HVi : Hid (VI S p k (j + 1) (ts.take n ++ x :: ts.drop n)) := HV.out.ins HX.out (HV.out.so.ins HTo.out HXo.out HLt.out HGe.out)
                  refine rfreg15 _ (by kernel_rfl) w.heap.size (some (Addr.mk g5 0 none)) m5 c5 g7 m7 cl j n ts (S.atL k p) x wz (Nat.le_trans HB2.out.size (Nat.le_trans HB.out.size HBz.out.size)) HSz.out HLz.out HX.out hn (by omega) hjm (by omega) _ _ _ _ _ _ _ _ _ _ _ _ _ _ _ _ _ _ _ _ _ _ _ _ _ _ _ _ _ _ _ _ _ _ _ _ _ _ _ _ _ _ _ _ _ _ _ _ _ _ _ _ _ _ _ _ _ _ _ _ _ _ _ _ _ _ _ _ _ _ _ _ _ _ _ _ _ _ _ _ _ _ _ _ _ _ _ ?_
                  intro x73 x74 x75 x76 x77 x78 x79 x80 x81 x82 v w5 hs5 hb5
                  have HTl5 : Hid ((ts.take n ++ [x]).length = n + 1) := by unfold Hid; rw [List.length_append, List.length_take, Nat.min_eq_left (by rw [← HM5.out]; exact hn)]; rfl
                  have HO5 : Hid (w5.ownsRow wz.heap.size 9 1 v (n + 1) (strV (ts.take n ++ [x]))) := by rw [← HTl5.out]; exact hs5
                  have HB5 := Lib.hid hb5
                  have HS5 := Lib.hid (HSz.out.below hb5)
                  clear hs5 hb5
                  have HD5 := Lib.hid (strs_drop HS5.out n hn)
                  have hmc := (strs_some HS5.out).2.2
                  go_wp2_with (at_builtin; go_must (refine wpList_append_src _ rfl (.tmp 84) (.tmp 87) 81 rfl wz.heap.size 9 i0 (.string .empty) 1 16 Try.underlying81 hi0 hz0 hz1 hz2 rfl (by decide) v (n + 1) (strV (ts.take n ++ [x])) rfl HO5.out (some (Addr.mk g5 n none)) (m5 - n) _ (strV (ts.drop n)) rfl HD5.out (strV_one _) (by unfold maxLen; omega) (by omega) HB5.out.size ?_); intro v6 w6 hown hgrow hat)
                  have HB6 : Hid (Below wz.heap.size wz w6) := (turns_own hgrow).below HB5.out HB5.out.size (fun g hg => (own_blk HO5.out hg).1)
                  have HS6 : Hid (StrsIs w6 w.heap.size v6 (ts.take n ++ x :: ts.drop n)) := by
                    have e : ts.take n ++ x :: ts.drop n = (ts.take n ++ [x]) ++ ts.drop n := by simp
                    have hl : ((ts.take n ++ [x]) ++ ts.drop n).length = n + 1 + (m5 - n) := by rw [List.length_append, HTl5.out, List.length_drop, ← HM5.out]
                    have h1 : StrsIs w6 wz.heap.size v6 ((ts.take n ++ [x]) ++ ts.drop n) := by
                      unfold StrsIs
                      rw [hl]
                      unfold strV at hown ⊢
                      rw [List.map_append]; exact hown
                    unfold Hid
                    rw [e]
                    exact StrsIs.mono h1 (Nat.le_trans HBz.out.size (Nat.le_refl _) |> fun h => Nat.le_trans HB2.out.size (Nat.le_trans HB.out.size h))
                  clear hown hgrow hat
                  have HB7 : Hid (Below w2.heap.size w2 w6) := HB.out.trans ((HBz.out.trans (HB6.out.mono HBz.out.size)).mono HB.out.size)
                  go_wp2
                  go_roundw
                  case rel => exact ⟨j + 1, _, by go_num, by omega, HS6.out, HVi.out, HB7.out⟩
                  case measure => simp [intOf]; omega
            · have hnm1 : decide (n < m5) = false := decide_eq_false hnm
              have hnm2 : decide ((n : Int) < m5) = false := decide_eq_false (by omega)
              have HGe : Hid (∀ z, ts[n]? = some z → ¬ bytesOf z < bytesOf x ∧ z ≠ x) := fun z hz => by
                rw [List.getElem?_eq_none (by rw [← HM5.out]; omega)] at hz; cases hz
              go_wp2_with fail
              go_quiet (fail)
              generalize nq = nq1
              go_wp2_with fail
              go_quiet (fail)
              go_wp2_with fail
              have HBz := Lib.hid (below_drewN0 (below_drewN0 HBz0.out nq1) nq)
              have HSz := Lib.hid (HS.out.below HBz.out)
              have HLz := Lib.hid (HLx.out.below HBz.out)
              generalize (wr.drewN nq1).drewN nq = wz at *
              cases A5 with
              | none =>
                obtain ⟨hts, _, rfl⟩ := strs_none HSz.out
                have HVi : Hid (VI S p k (j + 1) (ts.take n ++ x :: ts.drop n)) := HV.out.ins HX.out (HV.out.so.ins HTo.out HXo.out HLt.out HGe.out)
                refine rfreg15 _ (by kernel_rfl) w.heap.size none m5 0 g7 m7 cl j n ts (S.atL k p) x wz (Nat.le_trans HB2.out.size (Nat.le_trans HB.out.size HBz.out.size)) HSz.out HLz.out HX.out hn (by omega) hjm (by omega) _ _ _ _ _ _ _ _ _ _ _ _ _ _ _ _ _ _ _ _ _ _ _ _ _ _ _ _ _ _ _ _ _ _ _ _ _ _ _ _ _ _ _ _ _ _ _ _ _ _ _ _ _ _ _ _ _ _ _ _ _ _ _ _ _ _ _ _ _ _ _ _ _ _ _ _ _ _ _ _ _ _ _ _ _ _ _ ?_
                intro x73 x74 x75 x76 x77 x78 x79 x80 x81 x82 v w5 hs5 hb5
                have HTl5 : Hid ((ts.take n ++ [x]).length = n + 1) := by unfold Hid; rw [List.length_append, List.length_take, Nat.min_eq_left (by rw [← HM5.out]; exact hn)]; rfl
                have HO5 : Hid (w5.ownsRow wz.heap.size 9 1 v (n + 1) (strV (ts.take n ++ [x]))) := by rw [← HTl5.out]; exact hs5
                have HB5 := Lib.hid hb5
                have HS5 := Lib.hid (HSz.out.below hb5)
                clear hs5 hb5
                have hm0 : m5 = 0 := by have := HM5.out; rw [hts] at this; simpa using this
                obtain rfl : n = 0 := by omega
                clear hnm hnm1 hnm2
                subst hm0
                have HD5 : Hid (Src w5 1 none (0 - 0) (strV (ts.drop 0))) := by unfold Hid; rw [hts]; exact Src.of_own (World.ownsRow_nil w5 0 9 1)
                clear hts
                go_wp2_with (at_builtin; go_must (refine wpList_append_src _ rfl (.tmp 84) (.tmp 87) 81 rfl wz.heap.size 9 i0 (.string .empty) 1 16 Try.underlying81 hi0 hz0 hz1 hz2 rfl (by decide) v (0 + 1) (strV (ts.take 0 ++ [x])) rfl HO5.out _ _ _ (strV (ts.drop 0)) rfl HD5.out (strV_one _) (by unfold maxLen; omega) (by omega) HB5.out.size ?_); intro v6 w6 hown hgrow hat)
                have HB6 : Hid (Below wz.heap.size wz w6) := (turns_own hgrow).below HB5.out HB5.out.size (fun g hg => (own_blk HO5.out hg).1)
                have HS6 : Hid (StrsIs w6 w.heap.size v6 (ts.take 0 ++ x :: ts.drop 0)) := by
                  have e : ts.take 0 ++ x :: ts.drop 0 = (ts.take 0 ++ [x]) ++ ts.drop 0 := by simp
                  have hl : ((ts.take 0 ++ [x]) ++ ts.drop 0).length = 0 + 1 + (0 - 0) := by rw [List.length_append, HTl5.out, List.length_drop, ← HM5.out]
                  have h1 : StrsIs w6 wz.heap.size v6 ((ts.take 0 ++ [x]) ++ ts.drop 0) := by
                    unfold StrsIs
                    rw [hl]
                    unfold strV at hown ⊢
                    rw [List.map_append]; exact hown
                  unfold Hid
                  rw [e]
                  exact StrsIs.mono h1 (Nat.le_trans HBz.out.size (Nat.le_refl _) |> fun h => Nat.le_trans HB2.out.size (Nat.le_trans HB.out.size h))
                clear hown hgrow hat
                have HB7 : Hid (Below w2.heap.size w2 w6) := HB.out.trans ((HBz.out.trans (HB6.out.mono HBz.out.size)).mono HB.out.size)
                go_wp2
                go_roundw
                case rel => exact ⟨j + 1, _, by go_num, by omega, HS6.out, HVi.out, HB7.out⟩
                case measure => simp [intOf]; omega
              | some a =>
                obtain ⟨e1, e2, _⟩ := strs_some HSz.out
                obtain ⟨g5, off5, spot5⟩ := a
                simp only at e1 e2
                subst e1; subst e2
                have HNm := Lib.hid hnm
                have HVi : Hid (VI S p k (j + 1) (ts.take n ++ x :: ts.drop n)) := HV.out.ins HX.out (HV.out.so.ins HTo.out HXo.out HLt.out HGe.out)
                refine rfreg15 _ (by kernel_rfl) w.heap.size (some (Addr.mk g5 0 none)) m5 c5 g7 m7 cl j n ts (S.atL k p) x wz (Nat.le_trans HB2.out.size (Nat.le_trans HB.out.size HBz.out.size)) HSz.out HLz.out HX.out hn (by omega) hjm (by omega) _ _ _ _ _ _ _ _ _ _ _ _ _ _ _ _ _ _ _ _ _ _ _ _ _ _ _ _ _ _ _ _ _ _ _ _ _ _ _ _ _ _ _ _ _ _ _ _ _ _ _ _ _ _ _ _ _ _ _ _ _ _ _ _ _ _ _ _ _ _ _ _ _ _ _ _ _ _ _ _ _ _ _ _ _ _ _ ?_
                intro x73 x74 x75 x76 x77 x78 x79 x80 x81 x82 v w5 hs5 hb5
                have HTl5 : Hid ((ts.take n ++ [x]).length = n + 1) := by unfold Hid; rw [List.length_append, List.length_take, Nat.min_eq_left (by rw [← HM5.out]; exact hn)]; rfl
                have HO5 : Hid (w5.ownsRow wz.heap.size 9 1 v (n + 1) (strV (ts.take n ++ [x]))) := by rw [← HTl5.out]; exact hs5
                have HB5 := Lib.hid hb5
                have HS5 := Lib.hid (HSz.out.below hb5)
                clear hs5 hb5
                clear hnm hnm1 hnm2
                have hmc := (strs_some HS5.out).2.2
                have HD5 : Hid (Src w5 1 (if c5 = n then some ⟨g5, 0, none⟩ else some ⟨g5, n, none⟩) (m5 - n) (strV (ts.drop n))) := by
                  unfold Hid
                  split
                  · have h0 : m5 - n = 0 := by omega
                    have h1 : ts.drop n = [] := List.drop_eq_nil_of_le (by rw [← HM5.out]; omega)
                    rw [h0, h1]
                    exact Src.of_at rfl (fun j u hu => by simp [strV] at hu)
                  · exact strs_drop HS5.out n hn
                go_wp2_with (at_builtin; go_must (refine wpList_append_src _ rfl (.tmp 84) (.tmp 87) 81 rfl wz.heap.size 9 i0 (.string .empty) 1 16 Try.underlying81 hi0 hz0 hz1 hz2 rfl (by decide) v (n + 1) (strV (ts.take n ++ [x])) rfl HO5.out _ _ _ (strV (ts.drop n)) rfl HD5.out (strV_one _) (by unfold maxLen; omega) (by omega) HB5.out.size ?_); intro v6 w6 hown hgrow hat)
                have HB6 : Hid (Below wz.heap.size wz w6) := (turns_own hgrow).below HB5.out HB5.out.size (fun g hg => (own_blk HO5.out hg).1)
                have HS6 : Hid (StrsIs w6 w.heap.size v6 (ts.take n ++ x :: ts.drop n)) := by
                  have e : ts.take n ++ x :: ts.drop n = (ts.take n ++ [x]) ++ ts.drop n := by simp
                  have hl : ((ts.take n ++ [x]) ++ ts.drop n).length = n + 1 + (m5 - n) := by rw [List.length_append, HTl5.out, List.length_drop, ← HM5.out]
                  have h1 : StrsIs w6 wz.heap.size v6 ((ts.take n ++ [x]) ++ ts.drop n) := by
                    unfold StrsIs
                    rw [hl]
                    unfold strV at hown ⊢
                    rw [List.map_append]; exact hown
                  unfold Hid
                  rw [e]
                  exact StrsIs.mono h1 (Nat.le_trans HBz.out.size (Nat.le_refl _) |> fun h => Nat.le_trans HB2.out.size (Nat.le_trans HB.out.size h))
                clear hown hgrow hat
                have HB7 : Hid (Below w2.heap.size w2 w6) := HB.out.trans ((HBz.out.trans (HB6.out.mono HBz.out.size)).mono HB.out.size)
                go_wp2
                go_roundw
                case rel => exact ⟨j + 1, _, by go_num, by omega, HS6.out, HVi.out, HB7.out⟩
                case measure => simp [intOf]; omega
        · obtain rfl : j = m7 := by omega
          have HV2 : Hid (VI S p (k + 1) 0 ts) := by
            have := HV.out
            rw [HM7.out] at this
            exact this.next
          have HB3 : Hid (Below w.heap.size w wr) := HB2.out.trans (HB.out.mono HB2.out.size)
          go_wp2_with fail
          go_roundw
          case rel => exact ⟨k + 1, ts, by go_num, by omega, HS.out, HV2.out, HB3.out⟩
          case measure => simp [intOf]; omega
    · obtain rfl : k = n3 + 1 := by omega
      go_wp2_with fail
      clear d3
      go_ret
      exact ⟨_, ts, rfl, HS.out, by rw [← HN3.out]; exact HV.out, HB.out⟩
end Go.Proofs.Ytomigaldomiefaa

namespace Go.Proofs.Ytomigaldomiefaa
open Go.RowKit Go.MapKept Go.ChangeMaps
set_option linter.unusedVariables false
set_option linter.unusedSimpArgs false

set_option maxRecDepth 100000 in
set_option maxHeartbeats 4000000 in
theorem clean_any (R n sz : Nat) (A0 : Option Addr) (cn : Nat) (A : Option Addr) (c : Nat) (its : List Ws) (hlen : its.length ≤ 1048576) (hsz : sz ≤ 65536) (w : World) (hW : Writes w A its) (c0 : w.cell? ⟨R, 0, none⟩ = some (.int .i64 sz)) (c1 : w.cell? ⟨R, 1, none⟩ = some (.slice A0 n cn)) :
    Calls Try.prog 46 #[.pointer (some ⟨R, 0, none⟩), .slice A its.length c] w fun e w' => ∃ v, e = .returned v ∧ WrsIs w' w.heap.size v (rightL n sz its) ∧ Below w.heap.size w w' := by
  obtain ⟨i0, hi, hz0, hz1, hz2⟩ := info_parts write_info
  obtain ⟨j0, ji, jz0, jz1, jz2⟩ := info_parts u8_info
  have HRi : Hid (∀ wr (x : Ws), Below w.heap.size w wr → Calls Try.prog 63 #[.pointer (some ⟨R, 0, none⟩), .agg #[.int .i64 x.a, .int .i64 x.s, .slice x.A x.l.length x.c]] wr fun e w' => e = .returned (.bool (decide (0 ≤ x.s ∧ x.s < (n : Int) ∧ x.l.length = sz))) ∧ Below wr.heap.size wr w') := fun wr x hb => rfright_any R n sz A0 cn x.a x.s x.A x.l.length x.c wr (keep_below hb _ _ c0) (keep_below hb _ _ c1)
  have HW := Lib.hid hW
  obtain ⟨ln, hln⟩ : ∃ ln, ln = its.length := ⟨_, rfl⟩
  have HLn := Lib.hid hln
  rw [← hln] at hlen ⊢
  clear hW hln c0 c1
  go_enter Try.func46, Try.ntmps46
  go_wp2
  go_loopw [5, 6] (fun out i wr => ∃ (k : Nat) (js : List Ws), k ≤ ln ∧ i = .int .i64 k ∧ Rt w wr out (rightL n sz (its.take k)) js k) (fun _ i _ => ln - (intOf i).toNat)
  case atStart => exact ⟨0, [], by omega, rfl, rfl, Nat.le_refl _, World.ownsRow_nil _ _ _ _, by simp, Below.refl _ _⟩
  case round =>
    obtain ⟨k, js, hk, rfl, hrt⟩ := hrel
    by_cases hkn : k < ln
    · obtain ⟨x, hx⟩ : ∃ x, its[k]? = some x := ⟨_, List.getElem?_eq_getElem (by rw [← HLn.out]; exact hkn)⟩
      obtain ⟨⟨b, off, e1, hc⟩, hax⟩ := HW.out.at0 k x hx
      subst e1
      have hbl : b < w.heap.size := World.block_lt_of_cell? w _ (hc 1 _ rfl)
      have HSt := Lib.hid (rightL_take n sz its k x hx)
      have hbel := hrt.bel
      have q0 : wr.cell? ⟨b, off + k * 3, none⟩ = some (.int .i64 x.a) := keep_below hbel _ _ (hc 0 _ rfl)
      have q1 : wr.cell? ⟨b, off + k * 3 + 1, none⟩ = some (.int .i64 x.s) := by rw [Nat.add_assoc]; exact keep_below hbel _ _ (hc 1 _ rfl)
      have q2 : wr.cell? ⟨b, off + k * 3 + 2, none⟩ = some (.slice x.A x.l.length x.c) := by rw [Nat.add_assoc]; exact keep_below hbel _ _ (hc 2 _ rfl)
      have HRt := Lib.hid hrt
      have HAx : Hid (∀ wr, Below w.heap.size w wr → ArgW wr x) := fun wr hb => hax.keep (keep_below hb)
      have HRx := Lib.hid (HRi.out wr x hbel)
      clear hrt hc hax hx hbel
      obtain ⟨xa, xs, xA, xc, xl⟩ := x
      simp only [Ws.key] at HSt HAx HRx q0 q1 q2 ⊢
      obtain ⟨m, hm⟩ : ∃ m, m = xl.length := ⟨_, rfl⟩
      have HM := Lib.hid hm
      rw [← hm] at HSt q2 HRx
      by_cases hin : 0 ≤ xs ∧ xs < (n : Int) ∧ m = sz
      · rw [decide_eq_true hin] at HRx
        have HSt2 : Hid (rightL n sz (its.take (k + 1)) = rightL n sz (its.take k) ++ [(xs.toNat, xl)]) := by unfold Hid; rw [HSt.out, if_pos hin]
        have HX0 : Hid (0 ≤ xs) := hin.1
        have HSm : Hid (∀ u ∈ xl, u < 256) := (HAx.out w (Below.refl _ _)).small
        have HSr : Hid (∀ wr, Below w.heap.size w wr → Src wr 1 xA m (intsV .u8 xl)) := fun wr hb => by rw [hm]; exact (HAx.out wr hb).src
        have hm1 : m ≤ 65536 := by omega
        have hjs := HRt.out.le
        clear hm HAx HSt hin
        go_wp2_with fail
        refine HRx.out.mono ?_
        rintro e wq ⟨rfl, hb⟩
        have HBq := Lib.hid hb
        have q1 := keep_below hb _ _ q1
        have q2 := keep_below hb _ _ q2
        have HRq := Lib.hid (HRt.out.below hb)
        clear HRx hb HRt q0
        have hOb : Hid (∀ g, g ∈ blkV u5 → ∃ cs, Row wq g 30 cs) := fun g hg => (own_blk HRq.out.own hg).2.2
        have hNb : b ∉ blkV u5 := fun hg => by
          have h1 := (own_blk HRq.out.own hg).1
          omega
        have k1 : ∀ t : Kept wq (blkV u5), t.u.cell? ⟨b, off + k * 3 + 1, none⟩ = some (.int .i64 xs) := fun t => t.h.cell q1 hNb
        have k2 : ∀ t : Kept wq (blkV u5), t.u.cell? ⟨b, off + k * 3 + 2, none⟩ = some (.slice xA m xc) := fun t => t.h.cell q2 hNb
        clear q1 q2
        go_wp2
        (refine region_kept (blkV u5) [0, 1, 2, 3, 4, 5, 7, 8, 9, 10, 11] [6, 12, 13, 14, 15, 16] (by kernel_rfl) (by kernel_rfl) (fun _ _ _ _ _ h => h) ?_; simp only [List.filterMap_cons, List.getElem?_cons_zero, List.getElem?_cons_succ, List.filterMap_nil]; (repeat ((show wpQuiet _ _ _ _ (_ :: _) _); go_big_quiet_step (fail))); refine wpQuiet_nil ?_)
        clear k1 k2
        have hBle : w.heap.size ≤ wq.heap.size := HRq.out.bel.size
        have HB3 : Hid (Below wq.heap.size wq (wq.drew.alloc (.cells #[] 5))) := by unfold Hid; (repeat (first | (with_reducible refine Below.drew ?_) | (with_reducible refine below_drewN0 ?_ _) | ((with_reducible refine Below.setCell ?_ ?_ _); rotate_left; focus (first | omega | (simp; done) | (simp; omega) | (simp at *; omega))) | ((with_reducible refine Below.alloc ?_ ?_ _); rotate_left; focus (first | omega | (simp; done) | (simp; omega) | (simp at *; omega))) | (with_reducible exact Below.refl _ _)))
        have HO3 : Hid ((wq.drew.alloc (.cells #[] 5)).ownsRow w.heap.size 5 1 (.slice (some ⟨wq.heap.size, 0, none⟩) 0 0) 0 []) := World.ownsRow_made (base := w.heap.size) (size := 1) (e := 5) wq.drew #[] 0 hBle (Nat.zero_le _) rfl
        have HS3 := Lib.hid (HSr.out _ (HRq.out.bel.trans (HB3.out.mono hBle)))
        refine wpSeqS_step ?_
        go_wp2_with fail
        refine outQ_normal (Turns.of_below HB3.out _) ?_
        refine wpSeqS_step (wpList_append_src _ rfl (.tmp 25) (.tmp 30) 22 rfl w.heap.size 5 j0 (.int .u8 0) 1 1 Try.underlying22 ji jz0 jz1 jz2 rfl (by decide) (.slice (some ⟨wq.heap.size, 0, none⟩) 0 0) 0 [] rfl HO3.out xA m xc _ rfl HS3.out (intsV_one .u8 xl) (by unfold maxLen; omega) (by omega) (by simp; omega) ?_)
        intro v4 w4 hown hgrow hat
        rw [Nat.zero_add, List.nil_append] at hown
        obtain ⟨A4, c4, rfl, _, _⟩ := own_shape hown
        have HB4 : Hid (Below wq.heap.size wq w4) := HB3.out.grown hgrow (by simp) (fun k hk => by
          have : wq.heap.size = k := by injection hk
          omega)
        have HD4 : Hid (DatIs w4 w.heap.size (.slice A4 m c4) xl) := ⟨HSm.out, by rw [← HM.out]; unfold reachBytes; omega, by rw [← HM.out]; exact hown⟩
        clear hown hgrow hat HO3 HS3
        refine wpList_nil (outQ_normal (Turns.of_below HB4.out _) ?_)
        refine wpSeqS_step ?_
        go_wp2_with fail
        refine outQ_normal (Turns.of_below HB4.out _) ?_
        refine wpSeqS_step ?_
        go_wp2_with fail
        refine outQ_normal ((Turns.of_below HB4.out _).alloc _) ?_
        have HR5 := Lib.hid (HRq.out.below (HB4.out.alloc HB4.out.size (.cells #[.int .i64 0, .int .i64 xs, .slice A4 m c4] 30)))
        have HS5 := Lib.hid (src_new (w := w4) (t := 30) (cs := [.int .i64 0, .int .i64 xs, .slice A4 m c4]) (sz := 3) rfl)
        refine wpSeqS_step (wpList_append_src _ rfl (.tmp 19) (.tmp 33) 23 rfl w.heap.size 30 i0 _ 3 40 Try.underlying23 hi hz0 hz1 hz2 rfl (by decide) _ js.length (wrsV js) rfl HR5.out.own (some ⟨w4.heap.size, 0, none⟩) 1 1 _ rfl HS5.out (by have := wrsV_one [⟨0, xs, A4, c4, xl⟩]; simpa [wrsV, Ws.wr, ← HM.out] using this) (by unfold maxLen; omega) (by omega) (by have := HR5.out.bel.size; exact this) ?_)
        intro v6 w6 hown hgrow hat
        have HT5 : Hid (Turns (w4.alloc (.cells #[.int .i64 0, .int .i64 xs, .slice A4 m c4] 30)) w6 (blkV u5)) := turns_own hgrow
        have HT6 : Hid (Turns wq w6 (blkV u5)) := ((Turns.of_below HB4.out _).alloc _).trans HT5.out (fun k hk => .inl hk)
        refine wpList_nil (outQ_normal HT6.out ?_)
        have HRt6 : Hid (Rt w w6 v6 (rightL n sz (its.take (k + 1))) (js ++ [⟨0, xs, A4, c4, xl⟩]) (k + 1)) := by
          have hT : ∀ g ∈ blkV u5, ∃ ty cs, Row (w4.alloc (.cells #[.int .i64 0, .int .i64 xs, .slice A4 m c4] 30)) g ty cs ∧ ty ≠ 5 := fun g hg => by
            obtain ⟨_, _, cs, hr⟩ := own_blk HR5.out.own hg
            exact ⟨_, cs, hr, by decide⟩
          refine ⟨by rw [List.map_append, HR5.out.eq, HSt2.out]; rfl, by simp; exact hjs, ?_, fun y hy => ?_, HT6.out.below HRq.out.bel HRq.out.bel.size (fun g hg => (own_blk HRq.out.own hg).1)⟩
          · have e : wrsV (js ++ [⟨0, xs, A4, c4, xl⟩]) = wrsV js ++ [.int .i64 0, .int .i64 xs, .slice A4 m c4] := by rw [HM.out]; simp [wrsV, Ws.wr]
            rw [e, List.length_append]; exact hown
          · rcases List.mem_append.1 hy with hy | hy
            · exact ⟨(HR5.out.dat y hy).1, (HR5.out.dat y hy).2.1, (HR5.out.dat y hy).2.2.aside HT5.out hT⟩
            · rw [List.mem_singleton.1 hy]
              refine ⟨rfl, HX0.out, ?_⟩
              have h4 : DatIs (w4.alloc (.cells #[.int .i64 0, .int .i64 xs, .slice A4 m c4] 30)) w.heap.size (.slice A4 m c4) xl := ⟨HD4.out.small, HD4.out.short, own_below HD4.out.own ((Below.refl _ _).alloc (Nat.le_refl _) _)⟩
              have := h4.aside HT5.out hT
              rw [HM.out] at this; exact this
        clear hown hgrow hat HS5 HR5 HT5 HD4 HRq
        refine wpSeqS_last ?_
        go_wp2
        go_roundw
        case rel => exact ⟨k + 1, _, by omega, by go_num, HRt6.out⟩
        case measure => simp [intOf]; omega
      · rw [decide_eq_false hin] at HRx
        have HSt2 : Hid (rightL n sz (its.take (k + 1)) = rightL n sz (its.take k)) := by unfold Hid; rw [HSt.out, if_neg hin, List.append_nil]
        clear hm HAx HSt hin
        go_wp2_with fail
        refine HRx.out.mono ?_
        rintro e wq ⟨rfl, hb⟩
        have HRt2 := Lib.hid (HRt.out.below hb).skip
        clear HRx hb HRt q0 q1 q2
        go_wp2
        go_roundw
        case rel => exact ⟨k + 1, js, by omega, by go_num, by rw [HSt2.out]; exact HRt2.out⟩
        case measure => simp [intOf]; omega
    · obtain rfl : k = ln := by omega
      have hall : its.take k = its := by rw [HLn.out]; exact List.take_length
      rw [hall] at hrt
      have HD := Lib.hid hrt.done
      have HB := Lib.hid hrt.bel
      clear hrt hall
      go_wp2
      go_ret
      exact ⟨_, rfl, HD.out, HB.out⟩
end Go.Proofs.Ytomigaldomiefaa

namespace Go.Proofs.Ytomigaldomiefaa
open Go.RowKit Go.MapKept Go.ChangeMaps
set_option linter.unusedVariables false
set_option linter.unusedSimpArgs false

section
variable {w w' : World} {B R X L : Nat} {v3 v4 : Value} {S : Cr}
theorem rf_updL_ge (S : Cr) (p : Nat) (b : Bool) : ({ S with loose := updL S.loose p b } : Cr).n = S.n := rfl
set_option maxHeartbeats 1000000 in
theorem rfLoose_any (h : RfIs w B R X L v3 v4 S) (p : Int) :
    Calls Try.prog 26 #[.pointer (some ⟨R, 0, none⟩), .int .i64 p] w fun e w' => (∃ v, e = .returned v) ∧ RfIs w' B R X L v3 v4 (if 0 ≤ p ∧ p < (S.n : Int) then { S with loose := updL S.loose p.toNat true } else S) ∧ Turns w w' [R, X, L] := by
  have HC := Lib.hid h
  have c2 := h.cells.2.2.1
  obtain ⟨n, hn⟩ : ∃ n, n = S.n := ⟨_, rfl⟩
  have HN := Lib.hid hn
  rw [← hn] at c2
  clear h hn
  by_cases h0 : 0 ≤ p
  · by_cases h1 : p < (n : Int)
    · obtain ⟨q, rfl⟩ := Int.eq_ofNat_of_zero_le h0
      have hq : q < S.n := by rw [← HN.out]; omega
      obtain ⟨y1, y2⟩ := HC.out.loose.at hq
      have HP := Lib.hid (HC.out.putL hq true)
      rw [if_pos ⟨h0, by rw [← HN.out]; exact h1⟩]
      generalize S.loose q = bq at y1
      clear hq
      go_enter Try.func26, Try.ntmps26
      go_wp2
      go_end0
      exact ⟨⟨_, rfl⟩, HP.out, (Turns.refl w _).setCell (by simp) _⟩
    · have g1 : decide (p < (n : Int)) = false := decide_eq_false h1
      rw [if_neg (fun h => h1 (by rw [HN.out]; exact h.2))]
      go_enter Try.func26, Try.ntmps26
      go_wp2
      go_end0
      exact ⟨⟨_, rfl⟩, HC.out, Turns.refl _ _⟩
  · have g1 : decide (p ≥ 0) = false := decide_eq_false h0
    rw [if_neg (fun h => h0 h.1)]
    go_enter Try.func26, Try.ntmps26
    go_wp2
    go_end0
    exact ⟨⟨_, rfl⟩, HC.out, Turns.refl _ _⟩
set_option maxHeartbeats 1000000 in
theorem rfFlight_any (h : RfIs w B R X L v3 v4 S) (A : Option Addr) (c : Nat) (its : List Ws) (hlen : its.length ≤ 1048576) (hW : Writes w A its) :
    Calls Try.prog 28 #[.pointer (some ⟨R, 0, none⟩), .slice A its.length c] w fun e w' => (∃ v, e = .returned v) ∧ (∃ v, RfIs w' B R X L v3 v { S with fly := rightL S.n S.sz its }) ∧ Turns w w' [R, X, L] := by
  have HC := Lib.hid h
  have hB : B ≤ w.heap.size := by have := h.low; have := h.lt; omega
  have HR := Lib.hid (clean_any R S.n S.sz (some ⟨X, 0, none⟩) S.n A c its hlen (by have := h.sz; omega) w hW h.cells.1 h.cells.2.1)
  have HOk := Lib.hid (rightL_ok S.n S.sz hW)
  have HLe : Hid ((rightL S.n S.sz its).length ≤ 1048576) := Nat.le_trans (rightL_le S.n S.sz its) hlen
  generalize rightL S.n S.sz its = l at *
  generalize its.length = ni at *
  clear hW h hlen
  go_enter Try.func28, Try.ntmps28
  go_wp2_with fail
  refine HR.out.mono ?_
  rintro e w1 ⟨v, rfl, hv, hb⟩
  have HC1 := Lib.hid (HC.out.below hb)
  have z1 := HC1.out.row.frozen 4
  have z2 := HC1.out.cells.2.2.2.2
  have HP := Lib.hid (HC1.out.put4 (hv.mono hB) HOk.out HLe.out)
  obtain ⟨n1, A1, c1, rfl⟩ := hv.shape
  have HB := Lib.hid hb
  clear hv hb HR
  go_wp2
  go_end0
  exact ⟨⟨_, rfl⟩, ⟨_, HP.out⟩, (Turns.of_below HB.out _).setCell (by simp) _⟩
set_option maxRecDepth 100000 in
set_option maxHeartbeats 4000000 in
theorem rfDurable_any (h : RfIs w B R X L v3 v4 S) (A : Option Addr) (c : Nat) (its : List Ws) (hlen : its.length ≤ 1048576) (hW : Writes w A its) :
    Calls Try.prog 25 #[.pointer (some ⟨R, 0, none⟩), .slice A its.length c] w fun e w' => (∃ v, e = .returned v) ∧ RfIs w' B R X L v3 v4 (S.durable (rightL S.n S.sz its)) ∧ Turns w w' [R, X, L] := by
  have HR := Lib.hid (clean_any R S.n S.sz (some ⟨X, 0, none⟩) S.n A c its hlen (by have := h.sz; omega) w hW h.cells.1 h.cells.2.1)
  have HOk := Lib.hid (rightL_ok S.n S.sz hW)
  have hB : B ≤ w.heap.size := by have := h.low; have := h.lt; omega
  have HLe : Hid ((rightL S.n S.sz its).length ≤ 1048576) := Nat.le_trans (rightL_le S.n S.sz its) hlen
  have HC := Lib.hid h
  generalize rightL S.n S.sz its = l at *
  generalize its.length = ni at *
  clear hW h hlen
  go_enter Try.func25, Try.ntmps25
  go_wp2_with fail
  refine HR.out.mono ?_
  rintro e w1 ⟨v, rfl, hv, hb⟩
  obtain ⟨n1, A1, c1, rfl⟩ := hv.shape
  obtain ⟨hn1, _⟩ := hv.at0
  have HB1 := Lib.hid hb
  have HC1 := Lib.hid (HC.out.below hb)
  have HV : Hid (∀ wr, Turns w1 wr [R, X, L] → WrsIs wr B (.slice A1 n1 c1) l) := fun wr ht => (hv.mono hB).nodat ht HC1.out.nodat
  have hn1l : n1 ≤ 1048576 := by rw [hn1]; exact HLe.out
  have HN := Lib.hid hn1
  clear HR hv hb HC hn1
  go_wp2_with fail
  go_loopw [4] (fun i wr => ∃ k : Nat, i = .int .i64 k ∧ k ≤ n1 ∧ RfIs wr B R X L v3 v4 (S.durable (l.take k)) ∧ Turns w1 wr [R, X, L]) (fun i _ => n1 - (intOf i).toNat)
  case atStart => exact ⟨0, rfl, by omega, HC1.out, Turns.refl _ _⟩
  case round =>
    clear HC1
    obtain ⟨k, rfl, hk, hc, ht⟩ := hrel
    by_cases hkn : k < n1
    · obtain ⟨⟨p, d⟩, hx⟩ : ∃ x, l[k]? = some x := ⟨_, List.getElem?_eq_getElem (by rw [← HN.out]; exact hkn)⟩
      obtain ⟨g, A2, c2, rfl, ⟨gcs, hgr⟩, q1, q2, hd⟩ := (HV.out wr ht).at1.2 k (p, d) hx
      have HSt := Lib.hid (durable_take S l k (p, d) hx)
      obtain ⟨s1, s2, _, _⟩ := durable_same (l.take k) S
      obtain ⟨hp, hds, _⟩ := HOk.out (p, d) (List.mem_of_getElem? hx)
      have HX : Hid (p < (S.durable (l.take k)).n ∧ d.length = (S.durable (l.take k)).sz) := by rw [s1, s2]; exact ⟨hp, hds⟩
      have hpn : p < S.n := hp
      obtain ⟨n, hn⟩ : ∃ n, n = S.n := ⟨_, rfl⟩
      have hne := hc.ne
      have hgx : g ≠ X ∧ g ≠ L ∧ g ≠ R := by
        obtain ⟨cs, hxr, _⟩ := hc.has
        obtain ⟨cs', hlr, _⟩ := hc.loose
        exact ⟨Row.ne_type hgr hxr (by decide), Row.ne_type hgr hlr (by decide), Row.ne_type hgr hc.row (by decide)⟩
      -- what lasts
      have HP1 := Lib.hid ((hc.putX HX.out.1 hd HX.out.2).keep (T := []) ((Turns.refl _ []).drew) (by simp) (nodat_nil _))
      have HTx : Hid (Turns wr (wr.setCell ⟨X, p, none⟩ (.slice A2 d.length c2)).drew [X]) := ((Turns.refl wr [X]).setCell (by simp) _).drew
      obtain ⟨A0, c0, y1, _, y2⟩ := hc.has.at HX.out.1
      have r1 := hc.cells.2.1
      rw [s1, ← hn] at r1
      have hk1 : ∀ t : Kept wr [X], t.u.cell? ⟨R, 1, none⟩ = some (.slice (some ⟨X, 0, none⟩) n n) := fun t => t.h.cell r1 (by simpa using hne.1)
      have hk2 : ∀ t : Kept wr [X], t.u.cell? ⟨g, k * 3 + 1, none⟩ = some (.int .i64 p) := fun t => t.h.cell q1 (by simpa using hgx.1)
      have hk3 : ∀ t : Kept wr [X], t.u.cell? ⟨g, k * 3 + 2, none⟩ = some (.slice A2 d.length c2) := fun t => t.h.cell q2 (by simpa using hgx.1)
      rw [hn.symm] at hpn
      generalize ((S.durable (l.take k)).base0 p).length = l0 at *
      have HTr := Lib.hid ht
      clear hd hgr hc ht hx s1 s2 hds
      go_wp2
      (refine region_kept ([X]) [0, 1, 2, 3, 4, 5, 6, 7, 8, 9, 10, 11, 12, 13, 14] [15] (by kernel_rfl) (by kernel_rfl) (fun _ _ _ _ _ h => h) ?_; simp only [List.filterMap_cons, List.getElem?_cons_zero, List.getElem?_cons_succ, List.filterMap_nil]; (repeat ((show wpQuiet _ _ _ _ (_ :: _) _); go_big_quiet_step (fail))); refine wpQuiet_nil ?_)
      clear hk1 hk2 hk3
      obtain ⟨w6, hw6⟩ : ∃ w6, w6 = (wr.setCell ⟨X, p, none⟩ (.slice A2 d.length c2)).drew := ⟨_, rfl⟩
      have HW6 := Lib.hid hw6
      rw [← hw6] at HP1 HTx
      have q3 := HTx.out.cell q1 (by simpa using hgx.1)
      have r2 := HP1.out.cells.2.2.1
      have hpn6 : p < (S.durable (l.take k)).n := HX.out.1
      obtain ⟨y3, y4⟩ := HP1.out.loose.at hpn6
      have HP2 := Lib.hid ((HP1.out.putL hpn6 false).keep (T := []) ((Turns.refl _ []).drew) (by simp) (nodat_nil _))
      have hP2 : RfIs (w6.setCell ⟨L, p, none⟩ (.bool false)).drew B R X L v3 v4 (S.durable (l.take (k + 1))) := by rw [HSt.out]; exact HP2.out
      have HP3 := Lib.hid hP2
      have HT7 : Hid (Turns w1 (w6.setCell ⟨L, p, none⟩ (.bool false)).drew [R, X, L]) := ((HTr.out.trans HTx.out (fun k hk => .inl (by rw [List.mem_singleton.1 hk]; simp))).setCell (by simp) _).drew
      have hnn : (S.durable (l.take k)).n = n := by rw [(durable_same (l.take k) S).1, hn]
      replace r2 : w6.cell? ⟨R, 2, none⟩ = some (.slice (some ⟨L, 0, none⟩) n n) := by rw [← hnn]; exact r2
      have hk1 : ∀ t : Kept w6 [L], t.u.cell? ⟨R, 2, none⟩ = some (.slice (some ⟨L, 0, none⟩) n n) := fun t => t.h.cell r2 (by simpa using hne.2.1)
      have hk2 : ∀ t : Kept w6 [L], t.u.cell? ⟨g, k * 3 + 1, none⟩ = some (.int .i64 p) := fun t => t.h.cell q3 (by simpa using hgx.2.1)
      generalize ({ S.durable (l.take k) with has := updH (S.durable (l.take k)).has p d } : Cr).loose p = bl at y3
      clear hP2 HP2 HP1 hpn6 r2 q3 hnn hw6
      refine wpSeqS_last ?_
      go_wp2
      rw [← HW6.out]
      clear y1 y2 q1 q2 HW6
      (refine region_kept ([L]) [0, 1, 2, 3, 4, 5, 6, 7, 8, 9] [10] (by kernel_rfl) (by kernel_rfl) (fun _ _ _ _ _ h => h) ?_; simp only [List.filterMap_cons, List.getElem?_cons_zero, List.getElem?_cons_succ, List.filterMap_nil]; (repeat ((show wpQuiet _ _ _ _ (_ :: _) _); go_big_quiet_step (fail))); refine wpQuiet_nil ?_)
      clear hk1 hk2
      refine wpSeqS_last ?_
      go_wp2
      go_roundw
      case rel => exact ⟨k + 1, by go_num, by omega, HP3.out, HT7.out⟩
      case measure => simp [intOf]; omega
    · obtain rfl : k = n1 := by omega
      have hall : l.take k = l := by rw [HN.out]; exact List.take_length
      rw [hall] at hc
      have HCr := Lib.hid hc
      have HTr : Hid (Turns w wr [R, X, L]) := (Turns.of_below HB1.out _).trans ht (fun k hk => .inl hk)
      clear hc ht hall
      go_wp2
      go_end0
      exact ⟨⟨_, rfl⟩, HCr.out, HTr.out⟩
end
end Go.Proofs.Ytomigaldomiefaa

namespace Go.Proofs.Ytomigaldomiefaa
open Go.RowKit Go.MapKept Go.ChangeMaps
set_option linter.unusedVariables false
set_option linter.unusedSimpArgs false

section
variable {w w' : World} {B R X L : Nat} {v3 v4 : Value} {S : Cr} {T : List Nat}
theorem RfIs.regroup (h : RfIs w B R X L v3 v4 S) (ht : Turns w w' T) (hT : ∀ g ∈ T, ∃ cs, Row w g 23 cs) {v : Value} {gs : List (List Wr)} (hv : GrsIs w' B v gs) (ok : ∀ g ∈ gs, OkL S.n S.sz g) (few : gs.length ≤ 1048576 ∧ ∀ g ∈ gs, g.length ≤ 1048576) :
    RfIs (w'.setCell ⟨R, 3, none⟩ v) B R X L v v4 { S with groups := gs } ∧ (w'.frozen? ⟨R, 3, none⟩ = false ∧ w'.cell? ⟨R, 3, none⟩ = some v3) := by
  obtain ⟨cx, hx1, hx2, hx3⟩ := h.has
  obtain ⟨cl, hl1, hl2, hl3⟩ := h.loose
  have hn := h.ne
  have hR : Row w' R 85 _ := ht.row h.row (fun hm => by obtain ⟨cs, hr⟩ := hT _ hm; exact Row.ne_type hr h.row (by decide) rfl)
  have hX : Row w' X 22 cx := ht.row hx1 (fun hm => by obtain ⟨cs, hr⟩ := hT _ hm; exact Row.ne_type hr hx1 (by decide) rfl)
  have hL : Row w' L 4 cl := ht.row hl1 (fun hm => by obtain ⟨cs, hr⟩ := hT _ hm; exact Row.ne_type hr hl1 (by decide) rfl)
  have hF := h.fly.aside ht hT
  have hT8 : ∀ g ∈ T, ∃ ty cs, Row w g ty cs ∧ ty ≠ 5 := fun g hg => by obtain ⟨cs, hr⟩ := hT g hg; exact ⟨_, cs, hr, by decide⟩
  have hH : DatsIs w' B X S.n S.base0 := ⟨cx, hX, hx2, fun p hp => by obtain ⟨A, c, h4, h5⟩ := hx3 p hp; exact ⟨A, c, h4, h5.aside ht hT8⟩⟩
  have hB : BitsIs w' L S.n S.loose := ⟨cl, hL, hl2, hl3⟩
  have h2 : Turns w' (w'.setCell ⟨R, 3, none⟩ v) [R] := (Turns.refl w' [R]).setCell (by simp) v
  have hN : NoDat w' [R] := NoDat.of_rows (fun g hg => by rw [List.mem_singleton.1 hg]; exact ⟨_, _, hR, by decide, by decide, by decide⟩)
  exact ⟨⟨by simpa using hR.put 3 v, hH.keep h2 (by simpa using Ne.symm hn.1) hN, hB.keep h2 (by simpa using Ne.symm hn.2.1), hv.nodat h2 hN, hF.nodat h2 hN, h.low, h.n, h.sz, h.okH, ok, h.okF, ⟨few.1, few.2, h.few.2.2⟩⟩, hR.frozen 3, hR.cell 3⟩
set_option maxRecDepth 100000 in
set_option maxHeartbeats 4000000 in
theorem rfCached_any (h : RfIs w B R X L v3 v4 S) (A : Option Addr) (c : Nat) (gss : List Gs) (hlen : gss.length ≤ 1048576) (hl2 : ∀ g ∈ gss, g.its.length ≤ 1048576) (hG : ∀ wr, Turns w wr [R] → ArgG wr A gss) :
    Calls Try.prog 27 #[.pointer (some ⟨R, 0, none⟩), .slice A gss.length c] w fun e w' => (∃ v, e = .returned v) ∧ (∃ v, RfIs w' B R X L v v4 { S with groups := rightG S.n S.sz gss }) ∧ Turns w w' [R, X, L] := by
  obtain ⟨i0, hi, hz0, hz1, hz2⟩ := info_parts grp_info
  have HG := Lib.hid hG
  have HL2 := Lib.hid hl2
  have hBw : B < w.heap.size := by have := h.low; have := h.lt; omega
  have c4 := h.cells.2.2.2.1
  have fz := h.row.frozen 3
  have HC0 : Hid (RfIs (w.setCell ⟨R, 3, none⟩ (.slice none 0 0)) B R X L (.slice none 0 0) v4 { S with groups := [] }) := h.put3 (GrsIs.nil w B) (by simp) (by simp)
  have HT0 : Hid (Turns w (w.setCell ⟨R, 3, none⟩ (.slice none 0 0)) [R]) := (Turns.refl w [R]).setCell (by simp) _
  obtain ⟨B0, hB0⟩ : ∃ B0, B0 = w.heap.size := ⟨_, rfl⟩
  have HB0 : Hid (B < B0 ∧ R < B0 ∧ B0 = w.heap.size) := ⟨by omega, by rw [hB0]; exact h.row.lt, hB0⟩
  obtain ⟨ln, hln⟩ : ∃ ln, ln = gss.length := ⟨_, rfl⟩
  have HLn := Lib.hid hln
  rw [← hln] at hlen ⊢
  clear h hG hl2 hln hB0 hBw
  go_enter Try.func27, Try.ntmps27
  go_wp2
  clear c4 fz
  go_loopw [4] (fun i wr => ∃ (k : Nat) (v : Value), i = .int .i64 k ∧ k ≤ ln ∧ RfIs wr B R X L v v4 { S with groups := rightG S.n S.sz (gss.take k) } ∧ GrsIs wr B0 v (rightG S.n S.sz (gss.take k)) ∧ Turns w wr [R]) (fun i _ => ln - (intOf i).toNat)
  case atStart => exact ⟨0, .slice none 0 0, rfl, by omega, HC0.out, GrsIs.nil _ _, HT0.out⟩
  case round =>
    clear HC0 HT0
    obtain ⟨k, v, rfl, hk, hc, hgr, ht⟩ := hrel
    by_cases hkn : k < ln
    · obtain ⟨g, hg⟩ : ∃ g, gss[k]? = some g := ⟨_, List.getElem?_eq_getElem (by rw [← HLn.out]; exact hkn)⟩
      obtain ⟨⟨b, off, e1, q00⟩, _⟩ := (HG.out w (Turns.refl _ _)).at0 k g hg
      subst e1
      obtain ⟨⟨b', off', e1, q0⟩, hW⟩ := (HG.out wr ht).at0 k g hg
      injection e1 with e1
      injection e1 with e1 e2 _
      subst e1; subst e2
      have hbl : b < w.heap.size := World.block_lt_of_cell? w _ q00
      clear q00
      have hgl := HL2.out g (List.mem_of_getElem? hg)
      have HSt := Lib.hid (rightG_take S.n S.sz gss k g hg)
      have HW0 : Hid (Writes wr.drew g.A g.its) := hW.keep (fun _ _ h => h)
      have HOk := Lib.hid (rightL_ok S.n S.sz hW)
      have HLe : Hid ((rightL S.n S.sz g.its).length ≤ 1048576) := Nat.le_trans (rightL_le S.n S.sz g.its) hgl
      have HRi := Lib.hid (clean_any R S.n S.sz (some ⟨X, 0, none⟩) S.n g.A g.c g.its hgl (by have := hc.sz.2; show S.sz ≤ 65536; exact Nat.le_trans this (by decide)) wr.drew HW0.out hc.cells.1 hc.cells.2.1)
      obtain ⟨vs, hvo, hve⟩ := hgr
      have hgk : (rightG S.n S.sz (gss.take k)).length = k := by unfold rightG; rw [List.length_map, List.length_take, ← HLn.out]; omega
      rw [hgk] at hvo
      obtain ⟨A4, c4, rfl, _, _⟩ := own_shape hvo
      have HGb : Hid (∀ x ∈ blkV (.slice A4 k c4), ∃ cs, Row wr x 23 cs) := fun x hx => (own_blk hvo hx).2.2
      have HGl : Hid (∀ x ∈ blkV (.slice A4 k c4), B0 ≤ x) := fun x hx => (own_blk hvo hx).1
      have HVe := Lib.hid hve
      have HVo := Lib.hid hvo
      have HCr := Lib.hid hc
      have HTr := Lib.hid ht
      have hCn : R ∉ blkV (.slice A4 k c4) := fun hm => by obtain ⟨cs, hr⟩ := HGb.out _ hm; exact Row.ne_type hr hc.row (by decide) rfl
      have k4 : ∀ t : Kept wr (blkV (.slice A4 k c4)), t.u.cell? ⟨R, 3, none⟩ = some (.slice A4 k c4) := fun t => (t.h.row HCr.out.row hCn).cell 3
      have k5 : ∀ t : Kept wr (blkV (.slice A4 k c4)), t.u.cell? ⟨b, off + k, none⟩ = some (.slice g.A g.its.length g.c) := fun t => t.h.cell q0 (fun hm => by have h1 := HGl.out _ hm; have h2 := HB0.out.2.2; simp only at h1; omega)
      generalize g.its.length = gl at *
      clear hW hve hvo hc ht hg hgl HW0
      go_wp2
      (refine region_kept (blkV (.slice A4 k c4)) [0, 1, 2, 3, 4, 5, 6, 7, 8, 9] [10, 11, 12, 13, 14, 15] (by kernel_rfl) (by kernel_rfl) (fun _ _ _ _ _ h => h) ?_; simp only [List.filterMap_cons, List.getElem?_cons_zero, List.getElem?_cons_succ, List.filterMap_nil]; (repeat ((show wpQuiet _ _ _ _ (_ :: _) _); go_big_quiet_step (fail))); refine wpQuiet_nil ?_)
      clear k4 k5 hCn q0
      refine wpSeqS_step ?_
      go_wp2_with fail
      refine HRi.out.mono ?_
      rintro e w4 ⟨v7, rfl, hv7, hb4⟩
      obtain ⟨n7, A7, c7, rfl⟩ := hv7.shape
      have HB4 : Hid (Below wr.heap.size wr w4) := (Below.refl _ _).drew.trans hb4
      have HV7 := Lib.hid hv7
      clear HRi hv7 hb4
      go_wp2_with fail
      refine outQ_normal (Turns.of_below HB4.out _) ?_
      refine wpSeqS_step ?_
      go_wp2_with fail
      refine outQ_normal ((Turns.of_below HB4.out _).alloc _) ?_
      have HB5 : Hid (Below wr.heap.size wr (w4.alloc (.cells #[.slice A7 n7 c7] 23))) := HB4.out.alloc HB4.out.size _
      have HO5 := Lib.hid (own_below HVo.out HB5.out)
      have HS5 := Lib.hid (src_new (w := w4) (t := 23) (cs := [.slice A7 n7 c7]) (sz := 1) rfl)
      have hBs : B0 ≤ (w4.alloc (.cells #[.slice A7 n7 c7] 23)).heap.size := by have h1 := HTr.out.size; have h2 := HB5.out.size; have h3 := HB0.out.2.2; omega
      refine wpSeqS_step (wpList_append_src _ rfl (.tmp 18) (.tmp 25) 35 rfl B0 23 i0 _ 1 24 Try.underlying35 hi hz0 hz1 hz2 rfl (by decide) _ k vs rfl HO5.out (some ⟨w4.heap.size, 0, none⟩) 1 1 _ rfl HS5.out (by intro u hu; rw [List.mem_singleton.1 hu]; rfl) (by unfold maxLen; omega) (by omega) hBs ?_)
      intro v6 w6 hown hgrow hat
      obtain ⟨A6, c6, rfl, _, _⟩ := own_shape hown
      have HT5 : Hid (Turns (w4.alloc (.cells #[.slice A7 n7 c7] 23)) w6 (blkV (.slice A4 k c4))) := turns_own hgrow
      have HT6 : Hid (Turns wr w6 (blkV (.slice A4 k c4))) := (Turns.of_below HB5.out _).trans HT5.out (fun k hk => .inl hk)
      refine wpList_nil (outQ_normal HT6.out ?_)
      have hb45 : Below w4.heap.size w4 (w4.alloc (.cells #[.slice A7 n7 c7] 23)) := (Below.refl _ _).alloc (Nat.le_refl _) _
      have hTb : ∀ x ∈ blkV (.slice A4 k c4), ∃ cs, Row (w4.alloc (.cells #[.slice A7 n7 c7] 23)) x 23 cs := fun x hx => by
        obtain ⟨cs, hr⟩ := HGb.out x hx
        exact ⟨cs, hr.below HB5.out hr.lt⟩
      have hGp : GrsIs w6 B0 (.slice A6 (k + 1) c6) (rightG S.n S.sz (gss.take (k + 1))) := by
        rw [HSt.out]
        have hv7 : WrsIs (w4.alloc (.cells #[.slice A7 n7 c7] 23)) B0 (.slice A7 n7 c7) (rightL S.n S.sz g.its) := (HV7.out.mono (by have h1 := HTr.out.size; have h3 := HB0.out.2.2; show B0 ≤ wr.heap.size; omega)).lone (Turns.of_below hb45 []) (lone_nil _)
        refine GrsIs.push (vs := vs) (u := .slice A7 n7 c7) (fun i x hx => ?_) ?_ HT5.out hTb ?_ hv7
        · obtain ⟨y, hy, hw⟩ := HVe.out i x hx
          exact ⟨y, hy, hw.lone (Turns.of_below HB5.out []) (lone_nil _)⟩
        · have := HVo.out.1; rw [hgk]; omega
        · rw [hgk]; exact hown
      obtain ⟨hcr, fz6, c46⟩ := HCr.out.regroup HT6.out HGb.out (hGp.mono (Nat.le_of_lt HB0.out.1)) (fun x hx => by
        rw [HSt.out] at hx
        rcases List.mem_append.1 hx with hx | hx
        · exact HCr.out.okG x hx
        · rw [List.mem_singleton.1 hx]; exact HOk.out) ⟨by rw [HSt.out, List.length_append, hgk]; simp; omega, fun x hx => by
        rw [HSt.out] at hx
        rcases List.mem_append.1 hx with hx | hx
        · exact HCr.out.few.2.1 x hx
        · rw [List.mem_singleton.1 hx]; exact HLe.out⟩
      have HCr2 := Lib.hid hcr
      have HG2 : Hid (GrsIs (w6.setCell ⟨R, 3, none⟩ (.slice A6 (k + 1) c6)) B0 (.slice A6 (k + 1) c6) (rightG S.n S.sz (gss.take (k + 1)))) := by
        have hR6 := HT6.out.row HCr.out.row (fun hm => by obtain ⟨cs, hr⟩ := HGb.out _ hm; exact Row.ne_type hr HCr.out.row (by decide) rfl)
        exact hGp.nodat ((Turns.refl w6 [R]).setCell (by simp) _) (NoDat.of_rows (fun g hg => by rw [List.mem_singleton.1 hg]; exact ⟨_, _, hR6, by decide, by decide, by decide⟩))
      have HT7 : Hid (Turns w (w6.setCell ⟨R, 3, none⟩ (.slice A6 (k + 1) c6)) [R]) := (HTr.out.trans HT6.out (fun x hx => .inr (by have := HGl.out x hx; have := HB0.out.2.2; omega))).setCell (by simp) _
      clear hown hgrow hat HS5 HO5 HT5 hcr hGp hTb hb45 hBs
      refine wpSeqS_step ?_
      go_wp2_with fail
      refine outQ_normal HT6.out ?_
      refine wpSeqS_step ?_
      go_wp2_with fail
      refine outQ_normal HT6.out ?_
      refine wpSeqS_last ?_
      go_wp2
      go_roundw
      case rel => exact ⟨k + 1, _, by go_num, by omega, HCr2.out, HG2.out, HT7.out⟩
      case measure => simp [intOf]; omega
    · obtain rfl : k = ln := by omega
      have hall : gss.take k = gss := by rw [HLn.out]; exact List.take_length
      rw [hall] at hc
      have HCr := Lib.hid hc
      have HTr : Hid (Turns w wr [R, X, L]) := ht.mono (by simp)
      clear hc hgr ht hall
      go_wp2
      go_end0
      exact ⟨⟨_, rfl⟩, ⟨_, HCr.out⟩, HTr.out⟩
end
end Go.Proofs.Ytomigaldomiefaa
