/- crash: moving: the places that are not what lasts alone. -/
import Derived.Test.YtomigaldomiefaaCrSort
import Derived.Test.YtomigaldomiefaaMapSweep
import Derived.Test.YtomigaldomiefaaTree
import Derived.Deep.CutRange
namespace Go.Proofs.Ytomigaldomiefaa
open Go.RowKit Go.Shelf Go.MapKept Go.ChangeMaps
attribute [local go_sem] Oper.semAt_some
attribute [local simp, local go_sem] wide_fn
set_option linter.unusedVariables false
set_option linter.unusedSimpArgs false

set_option maxHeartbeats 400000 in
theorem CloneG_any (A : Option Addr) (n c : Nat) (xs : List Value) (hlen : n ≤ 1048576) (w : World) (hs : Src w 1 A n xs) (h1 : ∀ u ∈ xs, u.oneCell' = true) :
    Calls Try.prog 50 #[.slice A n c] w fun e w' => ∃ A' c', e = .returned (.slice A' n c') ∧ w'.ownsRow w.heap.size 23 1 (.slice A' n c') n xs ∧ Below w.heap.size w w' := by
  obtain ⟨i0, hi, hz0, hz1, hz2⟩ := info_parts grp_info
  have q22 : ∀ (w : World) (a : Option Addr) (n c n' c' : Nat), (binOp .eql 35 (.slice a n c) (.slice none n' c')).run Try.prog w = .ok (.bool a.isNone) w := fun w a n c n' c' => Lib.run_eql_slice_nil w _ _ a n c n' c' Try.underlying35
  cases A with
  | none =>
    have hn : n = 0 := by
      rcases Nat.eq_zero_or_pos n with h | h
      · exact h
      · obtain ⟨_, e, _⟩ := hs.lies h; cases e
    subst hn
    obtain rfl : xs = [] := List.eq_nil_of_length_eq_zero (by simpa using hs.len)
    clear hs h1
    go_enter Try.func50, Try.ntmps50
    go_wp2
    go_ret
    exact ⟨_, _, rfl, World.ownsRow_nil _ _ _ _, Below.refl _ _⟩
  | some ad =>
    have H1 := Lib.hid h1
    have HO := Lib.hid (World.ownsRow_made (base := w.heap.size) (size := 1) (e := 23) w #[] 0 (Nat.le_refl _) (Nat.zero_le _) rfl)
    have HS := Lib.hid (hs.keep (w' := w.alloc (.cells #[] 23)) (fun a v h => (World.cell?_alloc_lt _ _ _ (World.block_lt_of_cell? w a h)).trans h))
    have HB : Hid (Below w.heap.size w (w.alloc (.cells #[] 23))) := by unfold Hid; (repeat (first | (with_reducible refine Below.drew ?_) | (with_reducible refine below_drewN0 ?_ _) | ((with_reducible refine Below.setCell ?_ ?_ _); rotate_left; focus (first | omega | (simp; done) | (simp; omega) | (simp at *; omega))) | ((with_reducible refine Below.alloc ?_ ?_ _); rotate_left; focus (first | omega | (simp; done) | (simp; omega) | (simp at *; omega))) | (with_reducible exact Below.refl _ _)))
    have b1 : Hid (0 + n ≤ maxLen) := by unfold Hid maxLen; omega
    have b2 : Hid ((0 + n) * 24 ≤ 140737488355328) := by unfold Hid; omega
    clear hs h1
    go_enter Try.func50, Try.ntmps50
    go_wp2_with (at_builtin; refine wpList_append_src _ rfl _ _ 35 rfl w.heap.size 23 i0 _ 1 24 Try.underlying35 hi hz0 hz1 hz2 rfl (by decide) _ 0 [] rfl HO.out (some ad) n c xs rfl HS.out H1.out b1.out b2.out (by simp) ?_; intro v' w1 hown hgrow hv)
    rw [Nat.zero_add, List.nil_append] at hown
    obtain ⟨A', c', rfl, _, _⟩ := own_shape hown
    have hown := Lib.hid hown
    go_wp2
    go_ret
    refine ⟨A', c', rfl, hown.out, HB.out.grown hgrow (by simp) ?_⟩
    intro k hk
    have : w.heap.size = k := by injection hk
    omega
theorem GrsIs.one {w : World} {B : Nat} {vs : List Value} {gs : List (List Wr)} (h : ∀ (i : Nat) (g : List Wr), gs[i]? = some g → ∃ u, vs[i]? = some u ∧ WrsIs w B u g) (hl : vs.length = gs.length) : ∀ u ∈ vs, u.oneCell' = true := by
  intro u hu
  obtain ⟨i, hi⟩ := List.mem_iff_getElem?.1 hu
  have hlt : i < gs.length := by rw [← hl]; exact (List.getElem?_eq_some_iff.1 hi).1
  obtain ⟨u', h1, h2⟩ := h i gs[i] (List.getElem?_eq_getElem hlt)
  rw [hi] at h1; injection h1 with h1; subst h1
  obtain ⟨n, A, c, rfl⟩ := h2.shape
  rfl
set_option maxRecDepth 100000 in
set_option maxHeartbeats 4000000 in
theorem moving_any (B C H L : Nat) (v4 v5 : Value) (S : Cr) (w : World) (h : CrIs w B C H L v4 v5 S) :
    Calls Try.prog 35 #[.pointer (some ⟨C, 0, none⟩)] w fun e w' => ∃ v, e = .returned v ∧ w'.ownsRow w.heap.size 3 1 v (seenL S.n S.mov).length ((seenL S.n S.mov).map encZ) ∧ Below w.heap.size w w' := by
  have hmm := @run_makeMap Try.prog
  obtain ⟨vs, hv1, hv2⟩ := h.grs
  obtain ⟨A4, c4, rfl, _, _⟩ := own_shape hv1
  obtain ⟨n5, A5, c5, rfl⟩ := h.fly.shape
  obtain ⟨Q, hQ⟩ : ∃ Q, Q = w.heap.size := ⟨_, rfl⟩
  obtain ⟨w1, hw1⟩ : ∃ w1, w1 = w.alloc (.map #[] 0) := ⟨_, rfl⟩
  have HB1 : Hid (Below w.heap.size w w1) := by unfold Hid; rw [hw1]; (repeat (first | (with_reducible refine Below.drew ?_) | (with_reducible refine below_drewN0 ?_ _) | ((with_reducible refine Below.setCell ?_ ?_ _); rotate_left; focus (first | omega | (simp; done) | (simp; omega) | (simp at *; omega))) | ((with_reducible refine Below.alloc ?_ ?_ _); rotate_left; focus (first | omega | (simp; done) | (simp; omega) | (simp at *; omega))) | (with_reducible exact Below.refl _ _)))
  have HSe : Hid (SeenIs w1 Q S.n (fun _ => false)) := by unfold Hid; rw [hw1, hQ]; exact SeenIs.fresh _ _
  have HC0 := Lib.hid h
  have HC1 := Lib.hid (h.below HB1.out)
  have HW1 := Lib.hid hw1
  have HQe := Lib.hid hQ
  have HV : Hid (w.ownsRow B 23 1 (.slice A4 S.groups.length c4) S.groups.length vs ∧ ∀ (i : Nat) (g : List Wr), S.groups[i]? = some g → ∃ u, vs[i]? = some u ∧ WrsIs w B u g) := ⟨hv1, hv2⟩
  have k1 : ∀ t : Later w1, t.u.cell? ⟨C, 4, none⟩ = some (.slice A4 S.groups.length c4) := fun t => (HC1.out.below t.h).row.cell 4
  have k2 : ∀ t : Later w1, t.u.cell? ⟨C, 5, none⟩ = some (.slice A5 n5 c5) := fun t => (HC1.out.below t.h).row.cell 5
  have HCl : Hid (∀ t : Later w1, Calls Try.prog 50 #[.slice A4 S.groups.length c4] t.u fun e w' => ∃ A' c', e = .returned (.slice A' S.groups.length c') ∧ w'.ownsRow t.u.heap.size 23 1 (.slice A' S.groups.length c') S.groups.length vs ∧ Below t.u.heap.size t.u w') := fun t =>
    CloneG_any A4 S.groups.length c4 vs HC0.out.few.1 t.u ((Src.of_own hv1).keep (fun a v h => keep_below t.h _ _ (keep_below HB1.out _ _ h))) (GrsIs.one hv2 (by have := hv1.1; omega))
  have HLn : Hid (S.groups.length + 1 ≤ maxLen ∧ (S.groups.length + 1) * 24 ≤ 140737488355328) := by have := HC0.out.few.1; unfold Hid maxLen; omega
  obtain ⟨i0, hi, hz0, hz1, hz2⟩ := info_parts grp_info
  clear h hw1 hQ hv1 hv2
  go_enter Try.func35, Try.ntmps35
  go_upto_region 2 with fail
  rw [← HW1.out, ← HQe.out]
  clear hmm
  go_cut [20, 21, 22] from 10 to 20 (fun b20 b21 b22 wx => ∃ A c, b20 = .slice A (S.groups.length + 1) c ∧ b21 = .int .i64 ((S.groups.length + 1 : Nat) : Int) ∧ b22 = .int .i64 0 ∧ wx.ownsRow w1.heap.size 23 1 (.slice A (S.groups.length + 1) c) (S.groups.length + 1) (vs ++ [.slice A5 n5 c5]) ∧ Below w1.heap.size w1 wx)
  case first =>
    refine wp_region_noPanic ?_
    refine region_treeW (fun u => ∃ t : Later w1, u = t.u) (Tn.takes [0, 1, 2, 3, 5, 6, 7, 8, 12] (.two 4 9 (.one 9 (.one 10 (.take 11 .nil))) (.one 4 (.one 10 (.take 11 .nil))))) (by kernel_rfl) (by kernel_rfl) (fun _ _ _ _ _ h => h) ⟨⟨_, (Below.refl _ _).drew⟩, rfl⟩ ?_
    simp only [Tn.takes]
    (repeat ((with_reducible refine wpTree_take (by with_unfolding_all exact rfl) ?_); (with_reducible (show wpQuiet _ _ _ _ (_ :: _) _)); go_big_quiet_step (fail); (with_reducible refine wpQuiet_nil ?_)))
    (with_reducible refine wpTree_two (by with_unfolding_all exact rfl) (by with_unfolding_all exact rfl) ?_ ?_)
    · gi_wp2_with fail
      refine ((callsIn_wide (n := 8)).2 (HCl.out ⟨w1.drew, (Below.refl _ _).drew⟩)).mono ?_
      rintro e w3 ⟨A', c', rfl, hown, hb⟩
      have HO3 := Lib.hid hown
      have HB3 : Hid (Below w1.heap.size w1 w3) := (Below.refl _ _).drew.trans hb
      have HB4 : Hid (Below w1.heap.size w1 (w3.alloc (.cells #[.slice A5 n5 c5] 23))) := HB3.out.alloc HB3.out.size _
      have HO4 : Hid ((w3.alloc (.cells #[.slice A5 n5 c5] 23)).ownsRow w1.heap.size 23 1 (.slice A' S.groups.length c') S.groups.length vs) := own_below hown (by (repeat (first | (with_reducible refine Below.drew ?_) | (with_reducible refine below_drewN0 ?_ _) | ((with_reducible refine Below.setCell ?_ ?_ _); rotate_left; focus (first | omega | (simp; done) | (simp; omega) | (simp at *; omega))) | ((with_reducible refine Below.alloc ?_ ?_ _); rotate_left; focus (first | omega | (simp; done) | (simp; omega) | (simp at *; omega))) | (with_reducible exact Below.refl _ _))))
      have HS4 : Hid (Src (w3.alloc (.cells #[.slice A5 n5 c5] 23)) 1 (some ⟨w3.heap.size, 0, none⟩) 1 [.slice A5 n5 c5]) := src_new (w := w3) (t := 23) (cs := [.slice A5 n5 c5]) (sz := 1) rfl
      clear hown hb
      gi_wp2_with fail
      (with_reducible refine outQ_normal ?_ ?_); exact ⟨⟨w3, HB3.out⟩, rfl⟩
      (with_reducible refine wpTree_one (by with_unfolding_all exact rfl) ?_)
      gi_wp2_with fail
      (with_reducible refine outQ_normal ?_ ?_); exact ⟨⟨_, HB4.out⟩, rfl⟩
      (with_reducible refine wpTree_one (by with_unfolding_all exact rfl) ?_)
      refine wpListIn_law rfl fun K hK => wp_append_src _ (.tmp 14) (.tmp 19) 35 rfl w1.heap.size 23 i0 _ 1 24 Try.underlying35 hi hz0 hz1 hz2 rfl (by decide) (.slice A' S.groups.length c') S.groups.length vs rfl HO4.out _ 1 1 _ rfl HS4.out (by intro u hu; rw [List.mem_singleton.1 hu]; rfl) HLn.out.1 HLn.out.2 (by have := HB4.out.size; omega) ?_
      intro v6 w6 hown hgrow hat
      obtain ⟨A6, c6, rfl, _, _⟩ := own_shape hown
      have HB6 : Hid (Below w1.heap.size w1 w6) := HB4.out.grown hgrow HB4.out.size (fun y hy => by
        cases A' with
        | none => simp [Value.ownBlock] at hy
        | some ad => exact (own_blk HO4.out (k := y) (by unfold blkV; rw [hy]; simp)).1)
      have HO6 := Lib.hid hown
      refine hK _ _ (wpListIn_nil (outQ_normal ⟨⟨w6, HB6.out⟩, rfl⟩ ?_))
      clear hown hgrow hat hK
      simp only [Act.put, List.setIfInBounds_toArray, List.set_cons_succ, List.set_cons_zero]
      ((with_reducible refine wpTree_take (by with_unfolding_all exact rfl) ?_); (with_reducible (show wpQuiet _ _ _ _ (_ :: _) _)); go_big_quiet_step (fail); (with_reducible refine wpQuiet_nil ?_))
      with_reducible refine wpTree_nil ?_
      refine NoPanic.normal ?_
      clear k1 k2 hi hz0 hz1 hz2
      go_wp2_with fail
      go_meet
      case rel => exact ⟨A6, c6, rfl, by simp, rfl, HO6.out, HB6.out⟩
    · gi_wp2_with fail
      have HB3 : Hid (Below w1.heap.size w1 (w1.alloc (.cells #[.slice A5 n5 c5] 23)).drew) := by unfold Hid; (repeat (first | (with_reducible refine Below.drew ?_) | (with_reducible refine below_drewN0 ?_ _) | ((with_reducible refine Below.setCell ?_ ?_ _); rotate_left; focus (first | omega | (simp; done) | (simp; omega) | (simp at *; omega))) | ((with_reducible refine Below.alloc ?_ ?_ _); rotate_left; focus (first | omega | (simp; done) | (simp; omega) | (simp at *; omega))) | (with_reducible exact Below.refl _ _)))
      (with_reducible refine outQ_normal ?_ ?_); exact ⟨⟨_, HB3.out⟩, rfl⟩
      (with_reducible refine wpTree_one (by with_unfolding_all exact rfl) ?_)
      gi_wp2_with fail
      refine ((callsIn_wide (n := 8)).2 (HCl.out ⟨(w1.alloc (.cells #[.slice A5 n5 c5] 23)).drew, HB3.out⟩)).mono ?_
      rintro e w3 ⟨A', c', rfl, hown, hb⟩
      have HB4 : Hid (Below w1.heap.size w1 w3) := HB3.out.trans (hb.mono HB3.out.size)
      have HO4 : Hid (w3.ownsRow w1.heap.size 23 1 (.slice A' S.groups.length c') S.groups.length vs) := own_mono hown HB3.out.size
      have HS4 : Hid (Src w3 1 (some ⟨w1.heap.size, 0, none⟩) 1 [.slice A5 n5 c5]) := (src_new (w := w1) (t := 23) (cs := [.slice A5 n5 c5]) (sz := 1) rfl).keep (fun a v h => keep_below hb _ _ h)
      clear hown hb
      gi_wp2_with fail
      (with_reducible refine outQ_normal ?_ ?_); exact ⟨⟨w3, HB4.out⟩, rfl⟩
      (with_reducible refine wpTree_one (by with_unfolding_all exact rfl) ?_)
      refine wpListIn_law rfl fun K hK => wp_append_src _ (.tmp 14) (.tmp 19) 35 rfl w1.heap.size 23 i0 _ 1 24 Try.underlying35 hi hz0 hz1 hz2 rfl (by decide) (.slice A' S.groups.length c') S.groups.length vs rfl HO4.out _ 1 1 _ rfl HS4.out (by intro u hu; rw [List.mem_singleton.1 hu]; rfl) HLn.out.1 HLn.out.2 (by have := HB4.out.size; omega) ?_
      intro v6 w6 hown hgrow hat
      obtain ⟨A6, c6, rfl, _, _⟩ := own_shape hown
      have HB6 : Hid (Below w1.heap.size w1 w6) := HB4.out.grown hgrow HB4.out.size (fun y hy => by
        cases A' with
        | none => simp [Value.ownBlock] at hy
        | some ad => exact (own_blk HO4.out (k := y) (by unfold blkV; rw [hy]; simp)).1)
      have HO6 := Lib.hid hown
      refine hK _ _ (wpListIn_nil (outQ_normal ⟨⟨w6, HB6.out⟩, rfl⟩ ?_))
      clear hown hgrow hat hK
      simp only [Act.put, List.setIfInBounds_toArray, List.set_cons_succ, List.set_cons_zero]
      ((with_reducible refine wpTree_take (by with_unfolding_all exact rfl) ?_); (with_reducible (show wpQuiet _ _ _ _ (_ :: _) _)); go_big_quiet_step (fail); (with_reducible refine wpQuiet_nil ?_))
      with_reducible refine wpTree_nil ?_
      refine NoPanic.normal ?_
      clear k1 k2 hi hz0 hz1 hz2
      go_wp2_with fail
      go_meet
      case rel => exact ⟨A6, c6, rfl, by simp, rfl, HO6.out, HB6.out⟩
  case rest =>
    obtain ⟨A, c, rfl, rfl, rfl, hown, hb⟩ := hcut
    have HBw : Hid (Below w.heap.size w wc) := HB1.out.trans (hb.mono HB1.out.size)
    have HSe2 : Hid (SeenIs wc Q S.n (fun _ => false)) := HSe.out.turns (Turns.of_below hb []) (by simp)
    have HC2 := Lib.hid (HC0.out.below HBw.out)
    obtain ⟨all, hall⟩ : ∃ all, all = S.groups ++ [S.fly] := ⟨_, rfl⟩
    have HAll := Lib.hid hall
    have hal : all.length = S.groups.length + 1 := by rw [hall]; simp
    have HAv : Hid (∀ (i : Nat) (g : List Wr), all[i]? = some g → g.length ≤ 3518437208883 ∧ OkL S.n S.sz g ∧ ∃ A' n' c', (vs ++ [Value.slice A5 n5 c5])[i]? = some (.slice A' n' c') ∧ WrsIs wc B (.slice A' n' c') g) := fun i g hg => by
      have hvl : vs.length = S.groups.length := by have := HV.out.1.1; omega
      rw [hall] at hg
      rcases Nat.lt_or_ge i S.groups.length with hi | hi
      · rw [List.getElem?_append_left hi] at hg
        obtain ⟨u, h1, h2⟩ := HV.out.2 i g hg
        obtain ⟨n', A', c', rfl⟩ := h2.shape
        exact ⟨HC0.out.few.2.1 g (List.mem_of_getElem? hg), HC0.out.okG g (List.mem_of_getElem? hg), A', n', c', by rw [List.getElem?_append_left (by omega)]; exact h1, h2.lone (Turns.of_below HBw.out []) (lone_nil _)⟩
      · rw [List.getElem?_append_right hi] at hg
        have hi2 : i = S.groups.length := by
          have := (List.getElem?_eq_some_iff.1 hg).1
          simp at this; omega
        subst hi2
        simp at hg; subst hg
        exact ⟨HC0.out.few.2.2, HC0.out.okF, A5, n5, c5, by rw [List.getElem?_append_right (by omega), hvl]; simp, HC2.out.fly⟩
    obtain ⟨an, han⟩ : ∃ an, an = S.groups.length + 1 := ⟨_, rfl⟩
    have HAn : Hid (an = all.length) := by unfold Hid; omega
    have HAs : Hid (an ≤ 1048577) := by have := HC0.out.few.1; unfold Hid; omega
    have hcast : ((S.groups.length + 1 : Nat) : Int) = (S.groups.length : Int) + 1 := by omega
    rw [← han] at hown ⊢
    have HOw := Lib.hid hown
    have HQn : Hid (Q < wc.heap.size ∧ ∀ t cs, ¬ Row wc Q t cs) := ⟨HSe2.out.lt, HSe2.out.not_row⟩
    have HSn := Lib.hid HC0.out.n.2
    clear hown hb hall hal han k1 k2 hi hz0 hz1 hz2 HCl HLn HSe
    have HLo : Hid (Lone wc [Q]) := fun g ty cs hr _ hm => HQn.out.2 ty cs (List.mem_singleton.1 hm ▸ hr)
    go_wp2
    go_loopw [5, 7, 22] (fun _ _ i wr => ∃ k : Nat, i = .int .i64 k ∧ k ≤ an ∧ SeenIs wr Q S.n (fun p => (all.take k).any (fun g => inW g p)) ∧ Turns wc wr [Q]) (fun _ _ i _ => an - (intOf i).toNat)
    case atStart => exact ⟨0, rfl, by omega, by simpa using HSe2.out, Turns.refl _ _⟩
    case round =>
      obtain ⟨k, rfl, hk, hse, ht⟩ := hrel
      have HSk := Lib.hid hse
      have HTk := Lib.hid ht
      clear hse ht
      by_cases hkn : k < an
      · obtain ⟨g, hg⟩ : ∃ g, all[k]? = some g := ⟨_, List.getElem?_eq_getElem (by rw [← HAn.out]; exact hkn)⟩
        obtain ⟨hgl, hok, Ag, ng, cg, hav, hwg⟩ := HAv.out k g hg
        obtain ⟨Mb, c', eA, hcell⟩ := own_cellAt (own_lone (by decide) HOw.out HTk.out HLo.out) hkn hav
        injection eA with eA _ ec
        subst eA
        subst ec
        have hng : ng = g.length := hwg.at0.1
        subst hng
        obtain ⟨gl, hgle⟩ : ∃ gl, gl = g.length := ⟨_, rfl⟩
        have HGe := Lib.hid hgle
        have HGw : Hid (∀ X, Turns wc X [Q] → WrsIs X B (.slice Ag gl cg) g) := fun X h => by rw [hgle]; exact hwg.lone h HLo.out
        rw [← hgle] at hcell hgl
        have HOk := Lib.hid hok
        have HTs : Hid (∀ p, (all.take (k + 1)).any (fun g => inW g p) = ((all.take k).any (fun g => inW g p) || inW g p)) := fun p => by
          rw [List.take_add_one, hg, List.any_append]; simp
        have HBa : Hid (Turns wc wr [Q]) := HTk.out
        clear hg hav hwg hok hgle
        go_wp2
        clear hcell
        go_loopw [7, 28] (fun _ i wr2 => ∃ j : Nat, i = .int .i64 j ∧ j ≤ gl ∧ SeenIs wr2 Q S.n (fun p => (all.take k).any (fun g => inW g p) || inW (g.take j) p) ∧ Turns wc wr2 [Q]) (fun _ i _ => gl - (intOf i).toNat)
        case atStart => exact ⟨0, rfl, by omega, by simpa [inW] using HSk.out, HTk.out⟩
        case round =>
          obtain ⟨j, rfl, hj, hse, ht⟩ := hrel
          have HSj := Lib.hid hse
          have HTj := Lib.hid ht
          clear hse ht
          by_cases hjn : j < gl
          · obtain ⟨⟨q, d⟩, hx⟩ : ∃ x, g[j]? = some x := ⟨_, List.getElem?_eq_getElem (by rw [← HGe.out]; exact hjn)⟩
            obtain ⟨gb, A1, c1, rfl, q0, q1, q2, hd⟩ := (HGw.out wr HTj.out).at0.2 j (q, d) hx
            have hqn : q < S.n := (HOk.out _ (List.mem_of_getElem? hx)).1
            obtain ⟨wz, hwz⟩ : ∃ wz, wz = wr.alloc (.cells #[.int .i64 0, .int .i64 q, .slice A1 d.length c1] 30) := ⟨_, rfl⟩
            have HTz : Hid (Turns wc wz [Q]) := by unfold Hid; rw [hwz]; exact HTj.out.alloc _
            have HRz : Hid (Row wz wr.heap.size 30 #[.int .i64 0, .int .i64 q, .slice A1 d.length c1]) := by unfold Hid; rw [hwz]; exact Row.fresh _ _ _
            have hsz : SeenIs wz Q S.n (fun p => (all.take k).any (fun g => inW g p) || inW (g.take j) p) := by
              rw [hwz]; exact HSj.out.turns ((Turns.refl _ []).alloc _) (by simp)
            obtain ⟨w5, hup, hs5, ht5⟩ := hsz.set HSn.out hqn
            have HS5 : Hid (SeenIs w5 Q S.n (fun p => (all.take k).any (fun g => inW g p) || inW (g.take (j + 1)) p)) := by
              unfold Hid
              have e : (fun p => (all.take k).any (fun g => inW g p) || inW (g.take (j + 1)) p) = setSeen (fun p => (all.take k).any (fun g => inW g p) || inW (g.take j) p) q := by
                funext p
                have : inW (g.take (j + 1)) p = (inW (g.take j) p || (p == q)) := by
                  unfold inW
                  rw [List.take_add_one, hx, List.any_append]
                  simp [Bool.beq_comm]
                rw [this]; unfold setSeen
                cases (p == q) <;> simp
              rw [e]; exact hs5
            have HT5 : Hid (Turns wc w5 [Q]) := HTz.out.trans ht5 (fun y hy => .inl hy)
            have r1 := HRz.out.cell 1
            simp only [List.getElem?_toArray, List.getElem?_cons_zero, List.getElem?_cons_succ] at r1
            clear hsz hs5 ht5 hx hd
            generalize d.length = dl at *
            subst hwz
            go_wp2
            go_roundw
            case rel => exact ⟨j + 1, by go_num, by omega, HS5.out, HT5.out⟩
            case measure => simp [intOf]; omega
          · obtain rfl : j = gl := by omega
            have hfull : g.take j = g := by rw [HGe.out]; exact List.take_length
            have HS6 : Hid (SeenIs wr Q S.n (fun p => (all.take (k + 1)).any (fun g => inW g p))) := by
              unfold Hid
              have e : (fun p => (all.take (k + 1)).any (fun g => inW g p)) = (fun p => (all.take k).any (fun g => inW g p) || inW (g.take j) p) := by
                funext p; rw [HTs.out p, hfull]
              rw [e]; exact HSj.out
            clear hfull
            have hAs := HAs.out
            go_wp2
            go_roundw
            case rel => exact ⟨k + 1, by go_num, by omega, HS6.out, HTj.out⟩
            case measure => simp [intOf]; omega
      · obtain rfl : k = an := by omega
        have hfull : all.take k = all := by rw [HAn.out]; exact List.take_length
        rw [hfull] at HSk
        have HC3 := Lib.hid (HC2.out.keep (Turns.refl wc []))
        clear hfull
        have hLt := HTk.out
        obtain ⟨⟨cn, f, hmap, hf⟩, hlt⟩ := HC0.out.loose
        have HMap : Hid (MapIs Try.prog 77 wr L cn f) := (hmap.turns (Turns.of_below HBw.out []) (by simp)).turns hLt (fun hm => by
          have h1 := hmap.lt
          have h2 := List.mem_singleton.1 hm
          have h3 := HQe.out
          omega)
        have HF := Lib.hid hf
        have HLt := Lib.hid hlt
        have c3 : wr.cell? ⟨C, 3, none⟩ = some (.map (some L)) := hLt.cell (HC2.out.row.cell 3) (fun hm => by
          have h1 : C = Q := List.mem_singleton.1 hm
          have h2 := HC2.out.row
          rw [h1] at h2
          exact HQn.out.2 _ _ h2)
        clear hmap hf hlt hLt
        go_wp2_with (at_range; refine wpList_range_sweep rfl _ 65 rfl 77 4 spotL_under L cn f rfl HMap.out ?_; intro w7 hit7 hb7)
        obtain ⟨r, hr⟩ : ∃ r, r = wr.heap.size := ⟨_, rfl⟩
        have HIt7 : Hid (SweepIs Try.prog 77 w7 L r f (fun _ => False) cn) := by unfold Hid; rw [hr]; exact hit7
        have HSe7 : Hid (SeenIs w7 Q S.n (fun p => all.any fun g => inW g p)) := HSk.out.turns (Turns.of_below hb7 []) (by simp)
        have HT7 : Hid (Turns wc w7 [Q]) := HTk.out.then_below hb7
        have HRr : Hid (wc.heap.size ≤ r ∧ Q ≠ r) := by have := HTk.out.size; have := HQn.out.1; unfold Hid; omega
        rw [← hr]
        clear hit7 hb7 hr c3
        simp only [Act.put, List.setIfInBounds_toArray, List.set_cons_succ, List.set_cons_zero]
        go_loopw [8] (fun _ wr => ∃ (cnt : Nat) (K : Value → Prop) (lk : Nat → Bool), SweepIs Try.prog 77 wr L r f K cnt ∧ SeenIs wr Q S.n (fun p => (all.any fun g => inW g p) || lk p) ∧ (∀ p, lk p = true → S.loose p = true) ∧ (∀ key, K key → ∃ p : Nat, key = pv p ∧ lk p = true) ∧ Turns wc wr [Q]) (fun _ wr => wr.rangeLeft L r)
        case atStart => exact ⟨cn, fun _ => False, fun _ => false, HIt7.out, by simpa using HSe7.out, by simp, by simp, HT7.out⟩
        case round =>
          obtain ⟨cnt, K, lk, hit, hse, hl1, hl2, ht⟩ := hrel
          have HIt := Lib.hid hit
          have HSe := Lib.hid hse
          have HL1 := Lib.hid hl1
          have HL2 := Lib.hid hl2
          have HT := Lib.hid ht
          clear HIt7 HSe7 HT7 hit hse hl1 hl2 ht HMap
          go_wp2_with (at_next; refine wpList_next_sweep rfl _ rfl 77 L r f K cnt rfl HIt.out ?_ ?_)
          · intro h0 hallK
            have hSn : SeenIs wr Q S.n S.mov := by
              have e : (fun p => (all.any fun g => inW g p) || lk p) = S.mov := by
                funext p
                have h1 : lk p = S.loose p := by
                  cases hlo : S.loose p with
                  | true =>
                    obtain ⟨p', e, h⟩ := HL2.out (pv p) (hallK _ _ ((HF.out _ _).2 ⟨p, hlo, rfl, rfl⟩))
                    have : p = p' := by injection e with e; injection e with e; injection e with e _; injection e with _ e; omega
                    rw [this]; exact h
                  | false =>
                    cases hlk : lk p with
                    | false => rfl
                    | true => rw [HL1.out p hlk] at hlo; cases hlo
                rw [h1, HAll.out, List.any_append]
                simp [Cr.mov, Bool.or_assoc]
              rw [← e]; exact HSe.out
            have HFin := Lib.hid (sortedA_any wr hSn HSn.out)
            have HBf : Hid (Below w.heap.size w wr) := HT.out.below HBw.out HBw.out.size (fun y hy => by rw [List.mem_singleton.1 hy, HQe.out]; exact Nat.le_refl _)
            clear h0 hallK hSn
            go_wp2_with (first
              | (go_at_call 52; refine (keysA_any _ _).mono ?_; rintro e w' ⟨rfl, rfl⟩)
              | (go_at_call 51; refine HFin.out.mono ?_; rintro e w' ⟨v, rfl, hrow, hbs⟩))
            go_ret
            exact ⟨v, rfl, own_mono hrow (by have := HBf.out.size; omega), HBf.out.trans (((Below.refl _ _).alloc (Nat.le_refl _) _).mono HBf.out.size |>.trans (hbs.mono (by have := HBf.out.size; omega)))⟩
          · intro key vv w8 cnt8 hfk hit8 hlt8 hg8 hen
            obtain ⟨p, hp, rfl, rfl⟩ := (HF.out key vv).1 hfk
            have hpn : p < S.n := HLt.out p hp
            have HT8 : Hid (Turns wc w8 [Q]) := HT.out.trans (Turns.of_grown hg8) (fun q hq => by simp at hq; subst hq; exact .inr HRr.out.1)
            have HSe8 : Hid (SeenIs w8 Q S.n (fun p => (all.any fun g => inW g p) || lk p)) := HSe.out.turns (Turns.of_grown hg8) (by simp; exact HRr.out.2)
            have HIt8 := Lib.hid hit8
            have HLt8 := Lib.hid hlt8
            have HPp := Lib.hid hp
            clear hfk hit8 hlt8 hg8 hp
            obtain ⟨wL, hwL⟩ : ∃ wL, wL = w8.alloc (.cells #[.int .i64 p] 77) := ⟨_, rfl⟩
            have hbL : Below w8.heap.size w8 wL := by rw [hwL]; (repeat (first | (with_reducible refine Below.drew ?_) | (with_reducible refine below_drewN0 ?_ _) | ((with_reducible refine Below.setCell ?_ ?_ _); rotate_left; focus (first | omega | (simp; done) | (simp; omega) | (simp at *; omega))) | ((with_reducible refine Below.alloc ?_ ?_ _); rotate_left; focus (first | omega | (simp; done) | (simp; omega) | (simp at *; omega))) | (with_reducible exact Below.refl _ _)))
            have HRL : Hid (Row wL w8.heap.size 77 #[.int .i64 p]) := by unfold Hid; rw [hwL]; exact Row.fresh _ _ _
            have HTL : Hid (Turns wc wL [Q]) := HT8.out.then_below hbL
            have HItL := Lib.hid (HIt8.out.below hbL)
            have hsL : SeenIs wL Q S.n (fun p => (all.any fun g => inW g p) || lk p) := HSe8.out.turns (Turns.of_below hbL []) (by simp)
            obtain ⟨w9, hup, hs9, ht9⟩ := hsL.set HSn.out hpn
            have HS9 : Hid (SeenIs w9 Q S.n (fun i => (all.any fun g => inW g i) || setSeen lk p i)) := by
              unfold Hid
              have e : (fun i => (all.any fun g => inW g i) || setSeen lk p i) = setSeen (fun p => (all.any fun g => inW g p) || lk p) p := by
                funext i; unfold setSeen
                cases (i == p) <;> simp
              rw [e]; exact hs9
            have HT9 : Hid (Turns wc w9 [Q]) := HTL.out.trans ht9 (fun y hy => .inl hy)
            have HIt9 : Hid (SweepIs Try.prog 77 w9 L r f (fun y => y = pv p ∨ K y) cnt8) := HItL.out.keep (ht9.block L HItL.out.lt.2 (fun hm => by
              have h1 := List.mem_singleton.1 hm
              have h2 := HC0.out.loose.lt
              have h3 := HQe.out
              omega)) (ht9.block r HItL.out.lt.1 (fun hm => HRr.out.2 (List.mem_singleton.1 hm).symm))
            have r1 := HRL.out.cell 0
            simp only [List.getElem?_toArray, List.getElem?_cons_zero, List.getElem?_cons_succ] at r1
            clear hbL hsL hs9 ht9
            subst hwL
            go_wp2
            go_roundw
            case rel => exact ⟨cnt8, _, setSeen lk p, HIt9.out, HS9.out, fun i hi => by
              unfold setSeen at hi
              rw [Bool.or_eq_true] at hi
              rcases hi with h | h
              · rw [show i = p by simpa using h]; exact HPp.out
              · exact HL1.out i h, fun y hy => by
              rcases hy with rfl | hy
              · exact ⟨p, rfl, by simp [setSeen]⟩
              · obtain ⟨q, e, h⟩ := HL2.out y hy
                exact ⟨q, e, by simp [setSeen, h]⟩, HT9.out⟩
            case measure => rw [HIt9.out.left_eq, HIt.out.left_eq]; exact HLt8.out
end Go.Proofs.Ytomigaldomiefaa
