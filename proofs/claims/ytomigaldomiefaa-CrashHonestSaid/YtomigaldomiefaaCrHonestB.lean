/- CrashHonest: its walk. -/
import Derived.Test.YtomigaldomiefaaCrHonestA
import Derived.Test.YtomigaldomiefaaCrHon
namespace Go.Proofs.Ytomigaldomiefaa
open Go.RowKit Go.Shelf Go.MapKept Go.ChangeMaps
attribute [local go_sem] Oper.semAt_some
attribute [local simp, local go_sem] wide_fn
set_option linter.unusedVariables false
set_option linter.unusedSimpArgs false

/-- Bools in a row, that came in. -/
def BoolsAt (w : World) (A : Option Addr) (n : Nat) : Prop := ∀ i, i < n → ∃ g off b, A = some ⟨g, off, none⟩ ∧ w.cell? ⟨g, off + i, none⟩ = some (.bool b)
theorem data_info : (Try.prog.info? 22).map (fun i => (i.zero, i.size, i.bytes)) = some (some (.slice none 0 0), 1, 24) := by kernel_rfl
set_option maxRecDepth 100000 in
set_option maxHeartbeats 8000000 in
theorem honest_walk (n : Nat) (hn : 1 ≤ n ∧ n ≤ 40) (level : Int) (A1 A2 A3 A4 A5 : Option Addr) (c1 c2 c3 c4 c5 : Nat) (its its4 : List Ws) (gss : List Gs) (hl1 : its.length ≤ 100) (hl2 : gss.length ≤ 8) (hl4 : its4.length ≤ 30) (n3 n5 : Nat) (hgl : ∀ g ∈ gss, g.its.length ≤ 3518437208883)
    (w : World) (hW1 : Writes w A1 its) (hG : ArgG w A2 gss) (hW4 : Writes w A4 its4) (hB3 : BoolsAt w A3 n3) (hB5 : BoolsAt w A5 n5) :
    Calls Try.prog 4 #[.int .i64 n, .slice A1 its.length c1, .slice A2 gss.length c2, .int .i64 level, .slice A3 n3 c3, .slice A4 its4.length c4, .slice A5 n5 c5] w fun e w' => e = .returned (.bool true) ∧ Below w.heap.size w w' := by
  obtain ⟨w1, hw1⟩ : ∃ w1, w1 = w.alloc (.cells #[.int .i64 n] 3) := ⟨_, rfl⟩
  have HB1 : Hid (Below w.heap.size w w1) := by unfold Hid; rw [hw1]; (repeat (first | (with_reducible refine Below.drew ?_) | (with_reducible refine below_drewN0 ?_ _) | ((with_reducible refine Below.setCell ?_ ?_ _); rotate_left; focus (first | omega | (simp; done) | (simp; omega) | (simp at *; omega))) | ((with_reducible refine Below.alloc ?_ ?_ _); rotate_left; focus (first | omega | (simp; done) | (simp; omega) | (simp at *; omega))) | (with_reducible exact Below.refl _ _)))
  have HR1 : Hid (Row w1 w.heap.size 3 #[.int .i64 n]) := by unfold Hid; rw [hw1]; exact Row.fresh _ _ _
  have HW1w := Lib.hid hw1
  obtain ⟨Zn, hZn⟩ : ∃ Z, Z = w.heap.size := ⟨_, rfl⟩
  have HZn := Lib.hid hZn
  rw [← hZn] at HR1
  obtain ⟨n1, hn1⟩ : ∃ n, n = its.length := ⟨_, rfl⟩
  obtain ⟨n2, hn2⟩ : ∃ n, n = gss.length := ⟨_, rfl⟩
  obtain ⟨n4, hn4⟩ : ∃ n, n = its4.length := ⟨_, rfl⟩
  have HN := Lib.hid (And.intro hn1 (And.intro hn2 hn4))
  rw [← hn1, ← hn2, ← hn4]
  rw [← hn1] at hl1
  rw [← hn2] at hl2
  rw [← hn4] at hl4
  have HW1 := Lib.hid hW1
  have HG := Lib.hid hG
  have HW4 := Lib.hid hW4
  have HGl := Lib.hid hgl
  have HB3s := Lib.hid hB3
  have HB5s := Lib.hid hB5
  have p0 : ¬ (n : Int) < 1 := by omega
  have p00 : ¬ (40 : Int) < n := by omega
  have p1 : ¬ (100 : Int) < n1 := by omega
  have p2 : ¬ (8 : Int) < n2 := by omega
  have p4 : ¬ (30 : Int) < n4 := by omega
  clear hn1 hn2 hn4 hW1 hG hW4 hw1 hZn hgl hB3 hB5
  go_enter Try.func4, Try.ntmps4
  go_wp2_with fail
  rw [← HZn.out, ← HW1w.out]
  refine (known_any w1).mono ?_
  rintro e w2 ⟨rfl, hb⟩
  have HB2 : Hid (Below w.heap.size w w2) := HB1.out.trans (hb.mono HB1.out.size)
  have HR2 := Lib.hid (HR1.out.below hb HR1.out.lt)
  have d1 := HR2.out.cell 0
  simp only [List.getElem?_toArray, List.getElem?_cons_zero, List.getElem?_cons_succ] at d1
  have HNw := Lib.hid (New_yes n 2 (by omega) (by decide) w2)
  clear hb
  go_wp2_with fail
  refine HNw.out.mono ?_
  rintro e w3 ⟨C, H, L, rfl, hc, hb⟩
  have HB3 : Hid (Below w.heap.size w w3) := HB2.out.trans (hb.mono HB2.out.size)
  have HC3 := Lib.hid hc
  have HR3 := Lib.hid (HR2.out.below hb HR2.out.lt)
  have HLo : Hid ((w.heap.size ≤ C ∧ w.heap.size ≤ H ∧ w.heap.size ≤ L) ∧ (C < w3.heap.size ∧ H < w3.heap.size ∧ L < w3.heap.size)) := by
    have h1 := hc.low
    have h2 := HB2.out.size
    have h3 := hc.row.lt
    have h4 := hc.has.lt
    have h5 := hc.loose.lt
    unfold Hid; omega
  have d2 := HR3.out.cell 0
  simp only [List.getElem?_toArray, List.getElem?_cons_zero, List.getElem?_cons_succ] at d2
  have hmk : (Instr.makeSlice 37 (.int .i64 n) (.int .i64 n)).run Try.prog w3 = .ok (.slice (some ⟨w3.heap.size, 0, none⟩) n n) (w3.alloc (.cells (madeCells #[.slice none 0 0] n) 22)) := run_make_row' (P := Try.prog) 37 22 _ 24 Try.underlying37 data_info rfl .i64 .i64 n (by omega) (by omega) w3
  obtain ⟨X, hX⟩ : ∃ X, X = w3.heap.size := ⟨_, rfl⟩
  have HX := Lib.hid hX
  obtain ⟨w4, hw4⟩ : ∃ w4, w4 = (w3.alloc (.cells (madeCells #[.slice none 0 0] n) 22)).alloc (.cells #[.slice (some ⟨X, 0, none⟩) n n] 37) := ⟨_, rfl⟩
  have HB4 : Hid (Below w3.heap.size w3 w4) := by unfold Hid; rw [hw4]; (repeat (first | (with_reducible refine Below.drew ?_) | (with_reducible refine below_drewN0 ?_ _) | ((with_reducible refine Below.setCell ?_ ?_ _); rotate_left; focus (first | omega | (simp; done) | (simp; omega) | (simp at *; omega))) | ((with_reducible refine Below.alloc ?_ ?_ _); rotate_left; focus (first | omega | (simp; done) | (simp; omega) | (simp at *; omega))) | (with_reducible exact Below.refl _ _)))
  have HZh : Hid (Row w4 (X + 1) 37 #[.slice (some ⟨X, 0, none⟩) n n]) := by
    unfold Hid; rw [hw4, hX]
    have := Row.fresh (w3.alloc (.cells (madeCells #[.slice none 0 0] n) 22)) 37 #[.slice (some ⟨w3.heap.size, 0, none⟩) n n]
    rw [World.size_alloc] at this; exact this
  have HBu : Hid (BufIs w4 X n [C, H, L] (fun p => if p < 0 then [0, 0] else [])) := by
    refine ⟨⟨madeCells #[.slice none 0 0] n, ?_, by simp [madeCells], fun p hp => ⟨none, 0, ?_, fun i hi => by simp at hi, fun a e => by cases e⟩⟩, by have := HLo.out; simp; omega⟩
    · rw [hw4, hX]; exact (Row.fresh _ _ _).alloc _
    · rw [made_at _ _ _ hp]; simp
  have HW4w := Lib.hid hw4
  have HB23 := Lib.hid hb
  have HLo2 : Hid ((w2.heap.size ≤ C ∧ w2.heap.size ≤ H ∧ w2.heap.size ≤ L) ∧ Zn < w2.heap.size ∧ w2.heap.size ≤ w3.heap.size) := ⟨hc.low, HR2.out.lt, hb.size⟩
  clear hc hb hX hw4 HNw d1
  go_wp2_with fail
  rw [← HX.out, ← HW4w.out]
  clear hmk d2
  go_loopw [18] (fun i wr => ∃ k : Nat, i = .int .i64 k ∧ k ≤ n ∧ BufIs wr X n [C, H, L] (fun p => if p < k then [0, 0] else []) ∧ Row wr (X + 1) 37 #[.slice (some ⟨X, 0, none⟩) n n] ∧ Below w3.heap.size w3 wr) (fun i _ => n - (intOf i).toNat)
  case atStart => exact ⟨0, rfl, by omega, HBu.out, HZh.out, HB4.out⟩
  case round =>
    obtain ⟨k, rfl, hk, hbu, hzh, hb⟩ := hrel
    have HBk := Lib.hid hbu
    have HZk := Lib.hid hzh
    have HB := Lib.hid hb
    have d3 := (HR3.out.below hb HR3.out.lt).cell 0
    simp only [List.getElem?_toArray, List.getElem?_cons_zero, List.getElem?_cons_succ] at d3
    clear hbu hzh hb HBu HZh HB4
    by_cases hkn : k < n
    · go_wp2_with fail
      have k1 : ∀ t : Kept wr [X], t.u.cell? ⟨X + 1, 0, none⟩ = some (.slice (some ⟨X, 0, none⟩) n n) := fun t => (t.h.row HZk.out (by simp)).cell 0
      clear d3
      refine wp_region_noPanic ?_
      (refine region_kept ([X]) [0, 1] [2, 3, 4] (by kernel_rfl) (by kernel_rfl) (fun _ _ _ _ _ h => h) ?_; simp only [List.filterMap_cons, List.getElem?_cons_zero, List.getElem?_cons_succ, List.filterMap_nil]; (repeat ((show wpQuiet _ _ _ _ (_ :: _) _); go_big_quiet_step (fail))); refine wpQuiet_nil ?_)
      clear k1
      have hmk : ∀ v : World, (Instr.makeSlice 22 (.int .i64 2) (.int .i64 2)).run Try.prog v = .ok (.slice (some ⟨v.heap.size, 0, none⟩) 2 2) (v.alloc (.cells (madeCells #[.int .u8 0] 2) 5)) := fun v =>
        run_make_row' (P := Try.prog) 22 5 _ 1 Try.underlying22 u8_info rfl .i64 .i64 2 (by omega) (by omega) v
      obtain ⟨u1, hu1⟩ : ∃ u1, u1 = (wr.alloc (.cells (madeCells #[.int .u8 0] 2) 5)).drew := ⟨_, rfl⟩
      have HU1 := Lib.hid hu1
      have HBu1 : Hid (Below wr.heap.size wr u1) := by unfold Hid; rw [hu1]; (repeat (first | (with_reducible refine Below.drew ?_) | (with_reducible refine below_drewN0 ?_ _) | ((with_reducible refine Below.setCell ?_ ?_ _); rotate_left; focus (first | omega | (simp; done) | (simp; omega) | (simp at *; omega))) | ((with_reducible refine Below.alloc ?_ ?_ _); rotate_left; focus (first | omega | (simp; done) | (simp; omega) | (simp at *; omega))) | (with_reducible exact Below.refl _ _)))
      have HZc : Hid (Cells8 u1 (some ⟨wr.heap.size, 0, none⟩) [0, 0]) := by unfold Hid; rw [hu1]; exact zeros_cells wr 2
      have hwr := HB.out.size
      obtain ⟨A0, c0, y1, _⟩ := (HBk.out.below HBu1.out).at hkn
      have y2 := (HBk.out.below HBu1.out).frozen k
      have HBp := Lib.hid ((HBk.out.below HBu1.out).put hkn (c := 2) HZc.out (fun a e => by
        injection e with e; subst e
        have := HLo.out; have := HX.out; have := HZk.out.lt
        simp; omega))
      have HHe : Hid ((fun q => if q = k then [0, 0] else (fun p => if p < k then [0, 0] else []) q) = (fun p => if p < k + 1 then [0, 0] else [] : Nat → List Nat)) := by
        funext q
        by_cases e : q = k
        · rw [if_pos e, if_pos (by omega)]
        · rw [if_neg e]
          by_cases e2 : q < k
          · rw [if_pos (by omega)]; exact if_pos e2
          · rw [if_neg (by omega)]; exact if_neg e2
      rw [HHe.out] at HBp
      have HTu : Hid (Turns wr (u1.setCell ⟨X, k, none⟩ (.slice (some ⟨wr.heap.size, 0, none⟩) 2 2)) [X]) := (Turns.of_below HBu1.out [X]).setCell (by simp) _
      generalize (if k < k then [0, 0] else ([] : List Nat)).length = l0 at *
      clear hu1
      refine wpSeqS_step ?_
      go_wp2_with fail
      rw [← HU1.out]
      refine outQ_normal (Turns.of_below HBu1.out _) ?_
      refine wpSeqS_step ?_
      go_wp2_with fail
      refine outQ_normal (Turns.of_below HBu1.out _) ?_
      refine wpSeqS_last ?_
      go_wp2
      refine NoPanic.normal ?_
      have HBr : Hid (Below w3.heap.size w3 (u1.setCell ⟨X, k, none⟩ (.slice (some ⟨wr.heap.size, 0, none⟩) 2 2))) := HTu.out.below HB.out HB.out.size (fun y hy => by rw [List.mem_singleton.1 hy, HX.out]; exact Nat.le_refl _)
      have HZr := Lib.hid (HTu.out.row HZk.out (by simp))
      clear y1 y2 hmk
      go_wp2
      go_roundw
      case rel => exact ⟨k + 1, by go_num, by omega, HBp.out, HZr.out, HBr.out⟩
      case measure => simp [intOf]; omega
    · obtain rfl : n = k := by omega
      have HHon : Hid (Hon w2 wr w2.heap.size C H L X n Zn (cr0 n 2) (fun _ => [0, 0])) := by
        have h1 := HLo.out; have h2 := HLo2.out; have h3 := HX.out
        exact ⟨⟨_, _, HC3.out.below HB.out⟩, HBk.out.same (fun p hp => (if_pos hp).symm), HR3.out.below HB.out HR3.out.lt, HZk.out, HB23.out.trans (HB.out.mono HB23.out.size), h2.1, by omega, by omega, h2.2.1⟩
      clear HBk HZk HB HC3 HR3 HB23 HB3
      obtain ⟨D, hDe⟩ : ∃ D, D = (cr0 n 2).durable (rightL n 2 its) := ⟨_, rfl⟩
      have HDf : Hid (D.n = n ∧ D.sz = 2 ∧ ∀ p, p < n → D.base0 p = hasOf p its) := by
        obtain ⟨h1, h2, h3, h4⟩ := durable_same (rightL n 2 its) (cr0 n 2)
        rw [← hDe] at h1 h2 h3 h4
        exact ⟨h1, h2, fun p hp => by rw [hDe, (durable_base0 n p hp its (cr0 n 2) rfl).1]; rfl⟩
      obtain ⟨x4, x5, hx⟩ := HHon.out.cr
      have HC1 := Lib.hid (Durable_any hx A1 c1 its (by rw [← HN.out.1]; omega) (HW1.out.keep (keep_below (HB2.out.trans (HHon.out.below.mono HB2.out.size)))))
      rw [← HN.out.1, show (cr0 n 2).durable (rightL (cr0 n 2).n (cr0 n 2).sz its) = D from hDe.symm] at HC1
      clear hx hDe
      go_wp2_with fail
      refine HC1.out.mono ?_
      rintro e w5 ⟨⟨_, rfl⟩, hc, ht⟩
      have HH5 := Lib.hid (HHon.out.turn (turns_sub ht (by simp)) ⟨_, _, hc⟩)
      clear hc ht HC1 HHon d3
      go_wp2_with fail
      go_loopw [20] (fun i wx => ∃ (k : Nat) (h : Nat → List Nat), i = .int .i64 k ∧ k ≤ n1 ∧ Hon w2 wx w2.heap.size C H L X n Zn D h ∧ ∀ p, p < n → h p = hasOf p (its.take k)) (fun i _ => n1 - (intOf i).toNat)
      case atStart => exact ⟨0, _, rfl, by omega, HH5.out, fun p _ => rfl⟩
      case round =>
        obtain ⟨k, h, rfl, hk, hh, hp⟩ := hrel
        have HH := Lib.hid hh
        have HP := Lib.hid hp
        clear hh hp HH5
        by_cases hkm : k < n1
        · obtain ⟨x, hx⟩ : ∃ x, its[k]? = some x := ⟨_, List.getElem?_eq_getElem (by rw [← HN.out.1]; exact hkm)⟩
          obtain ⟨⟨b, off, e1, hcell⟩, hA⟩ := HW1.out.at0 k x hx
          subst e1
          have HSt := Lib.hid (HH.out.step hA HB2.out)
          have HHas := Lib.hid (fun p : Nat => hasOf_take p its k x hx)
          have HBx := Lib.hid (HB2.out.trans (HH.out.below.mono HB2.out.size))
          have s0 := keep_below HBx.out _ _ (hcell 0 _ rfl)
          have s1 := keep_below HBx.out _ _ (hcell 1 _ rfl)
          have s2 := keep_below HBx.out _ _ (hcell 2 _ rfl)
          simp only [Nat.add_zero] at s0 s1 s2
          rw [← Nat.add_assoc] at s1 s2
          clear hcell hA hx
          go_wp2_with fail
          refine HSt.out.mono ?_
          rintro e w6 ⟨⟨_, rfl⟩, hh⟩
          have HH6 := Lib.hid hh
          clear hh HSt s0 s1 s2
          go_wp2
          go_roundw
          case rel => exact ⟨k + 1, putH n h x, by go_num, by omega, HH6.out, fun p hp => by rw [putH_step n h x p hp, HP.out p hp]; exact (HHas.out p).symm⟩
          case measure => simp [intOf]; omega
        · obtain rfl : n1 = k := by omega
          have HP2 : Hid (∀ p, p < n → h p = D.base0 p) := fun p hp => by
            rw [HP.out p hp, HDf.out.2.2 p hp, HN.out.1, List.take_length]
          clear HP
          -- Cached
          obtain ⟨E, hE⟩ : ∃ E, E = { D with groups := rightG D.n D.sz gss } := ⟨_, rfl⟩
          have HE := Lib.hid hE
          obtain ⟨x4, x5, hx⟩ := HH.out.cr
          have HC1 := Lib.hid (Cached_any hx A2 c2 gss (by rw [← HN.out.2.1]; omega) HGl.out (fun wr' ht => HG.out.keep (keep_below (HB2.out.trans ((ht.below HH.out.below HH.out.below.size (fun y hy => by rw [List.mem_singleton.1 hy]; exact HLo2.out.1.1)).mono HB2.out.size)))))
          rw [← HN.out.2.1, ← hE] at HC1
          clear hx hE
          go_wp2_with fail
          refine HC1.out.mono ?_
          rintro e w7 ⟨⟨_, rfl⟩, ⟨_, hc⟩, ht⟩
          have HH7 := Lib.hid (HH.out.turn (turns_sub ht (by simp)) ⟨_, _, hc⟩)
          clear hc ht HC1 HH
          -- Flight
          obtain ⟨F, hF⟩ : ∃ F, F = { E with fly := rightL E.n E.sz its4 } := ⟨_, rfl⟩
          have HF := Lib.hid hF
          obtain ⟨x4, x5, hx⟩ := HH7.out.cr
          have HC1 := Lib.hid (Flight_any hx A4 c4 its4 (by rw [← HN.out.2.2]; omega) (HW4.out.keep (keep_below (HB2.out.trans (HH7.out.below.mono HB2.out.size)))))
          rw [← HN.out.2.2, ← hF] at HC1
          clear hx hF
          go_wp2_with fail
          refine HC1.out.mono ?_
          rintro e w8 ⟨⟨_, rfl⟩, ⟨_, hc⟩, ht⟩
          have HH8 := Lib.hid (HH7.out.turn (turns_sub ht (by simp)) ⟨_, _, hc⟩)
          clear hc ht HC1 HH7
          have HFf : Hid (F.n = n ∧ F.sz = 2 ∧ F.groups = rightG F.n 2 gss ∧ F.groups.length = n2 ∧ F.fly = rightL n 2 its4 ∧ ∀ p, p < F.n → h p = F.base 0 p) := by
            have h1 := HDf.out
            have e1 : F.n = n := by rw [HF.out, HE.out]; exact h1.1
            have e2 : F.sz = 2 := by rw [HF.out, HE.out]; exact h1.2.1
            have e3 : F.groups = rightG D.n D.sz gss := by rw [HF.out, HE.out]
            refine ⟨e1, e2, by rw [e3, e1, h1.1, h1.2.1], by rw [e3, rightG, List.length_map]; exact HN.out.2.1.symm, by rw [HF.out, HE.out]; show rightL D.n D.sz its4 = _; rw [h1.1, h1.2.1], fun p hp => ?_⟩
            rw [e1] at hp
            rw [HP2.out p hp, HF.out, HE.out]; rfl
          clear HP2 HE HF HDf
          go_wp2_with fail
          go_loopw [21, 22] (fun kk i wx => ∃ (g c : Nat) (h : Nat → List Nat), kk = .int .i64 c ∧ i = .int .i64 g ∧ c ≤ 100 * g ∧ g ≤ n2 ∧ Hon w2 wx w2.heap.size C H L X n Zn F h ∧ Outer F level g h) (fun _ i _ => n2 - (intOf i).toNat)
          case atStart => exact ⟨0, 0, h, rfl, rfl, by omega, by omega, HH8.out, .inl HFf.out.2.2.2.2.2⟩
          case round =>
            obtain ⟨g, cc, h3, rfl, rfl, hcc, hg, hh, hout⟩ := hrel
            have HH9 := Lib.hid hh
            have HOu := Lib.hid hout
            clear hh hout HH8
            have HBx := Lib.hid (HB2.out.trans (HH9.out.below.mono HB2.out.size))
            by_cases hg2 : g < n2
            · by_cases hlv : (g : Int) ≤ level
              · obtain ⟨G, hG⟩ : ∃ G, gss[g]? = some G := ⟨_, List.getElem?_eq_getElem (by rw [← HN.out.2.1]; exact hg2)⟩
                obtain ⟨⟨b, off, e1, hcell⟩, hWg⟩ := HG.out.at0 g G hG
                subst e1
                have s0 := keep_below HBx.out _ _ hcell
                have HGg := Lib.hid hG
                have HWg := Lib.hid hWg
                obtain ⟨gA, gc, gi⟩ := G
                simp only at s0 HWg
                by_cases h100 : 100 < gi.length
                · have h100' : (100 : Int) < gi.length := by omega
                  clear hcell hG hWg
                  generalize gi.length = gl at *
                  go_wp2
                  go_ret
                  exact ⟨rfl, HBx.out⟩
                · have h100' : ¬ (100 : Int) < gi.length := by omega
                  obtain ⟨gl, hgl⟩ : ∃ gl, gl = gi.length := ⟨_, rfl⟩
                  have HGL := Lib.hid hgl
                  rw [← hgl] at s0 h100' h100
                  clear hcell hG hWg hgl
                  go_wp2_with fail
                  by_cases hlt : (g : Int) < level
                  · have HOb : Hid (∀ p, p < F.n → h3 p = F.base g p) := by
                      rcases HOu.out with h | ⟨h, _⟩
                      · exact h
                      · omega
                    clear s0
                    go_loopw [21, 23] (fun kk i wy => ∃ (j c : Nat) (h : Nat → List Nat), kk = .int .i64 c ∧ i = .int .i64 j ∧ c ≤ 100 * g + j ∧ j ≤ gl ∧ Hon w2 wy w2.heap.size C H L X n Zn F h ∧ Front F g gi j h) (fun _ i _ => gl - (intOf i).toNat)
                    case atStart => exact ⟨0, cc, h3, rfl, rfl, by omega, by omega, HH9.out, front_start g gi h3 HOb.out⟩
                    case round =>
                      obtain ⟨j, c, h, rfl, rfl, hc, hj, hh, hf⟩ := hrel
                      have HHa := Lib.hid hh
                      have HFr := Lib.hid hf
                      have HBy := Lib.hid (HB2.out.trans (HHa.out.below.mono HB2.out.size))
                      obtain ⟨⟨b', off', e1, hcell⟩, hWg⟩ := HG.out.at0 g _ HGg.out
                      injection e1 with e1
                      injection e1 with e1 e2 _
                      subst e1; subst e2
                      simp only at hcell
                      rw [← HGL.out] at hcell
                      have s0 := keep_below HBy.out _ _ hcell
                      clear hh hf hcell hWg
                      by_cases hjg : j < gl
                      · obtain ⟨x, hx⟩ : ∃ x, gi[j]? = some x := ⟨_, List.getElem?_eq_getElem (by rw [← HGL.out]; exact hjg)⟩
                        obtain ⟨⟨b', off', rfl, hcell⟩, hA⟩ := HWg.out.at0 j x hx
                        have HSt := Lib.hid (HHa.out.step hA HB2.out)
                        have HFs : Hid (Front F g gi (j + 1) (putH n h x)) := by
                          have := front_step g gi j x hx h HFr.out
                          rw [HFf.out.1] at this; exact this
                        have t0 := keep_below HBy.out _ _ (hcell 0 _ rfl)
                        have t1 := keep_below HBy.out _ _ (hcell 1 _ rfl)
                        have t2 := keep_below HBy.out _ _ (hcell 2 _ rfl)
                        simp only [Nat.add_zero] at t0 t1 t2
                        rw [← Nat.add_assoc] at t1 t2
                        clear hcell hA hx
                        go_wp2_with fail
                        refine HSt.out.mono ?_
                        rintro e wz ⟨⟨_, rfl⟩, hh⟩
                        have HHb := Lib.hid hh
                        have hne : ¬ (g : Int) = level := by omega
                        clear hh HSt s0 t0 t1 t2
                        go_wp2
                        go_roundw
                        case rel => exact ⟨j + 1, c, putH n h x, by go_num, by go_num, by omega, by omega, HHb.out, HFs.out⟩
                        case measure => simp [intOf]; omega
                      · obtain rfl : gl = j := by omega
                        have HFe : Hid (∀ p, p < F.n → h p = F.base (g + 1) p) := front_end HFf.out.2.2.1 g ⟨gA, gc, gi⟩ HGg.out h (by show Front F g gi gi.length h; rw [← HGL.out]; exact HFr.out)
                        go_wp2
                        clear s0
                        go_roundw
                        case rel => exact ⟨g + 1, c, h, by go_num, by go_num, by omega, by omega, HHa.out, .inl HFe.out⟩
                        case measure => simp [intOf]; omega
                  · have HOb : Hid (∀ p, p < F.n → h3 p = F.base g p) := by
                      rcases HOu.out with h | ⟨h, _⟩
                      · exact h
                      · omega
                    obtain rfl : level = (g : Int) := by omega
                    clear s0 hlv hlt
                    go_loopw [21, 23] (fun kk i wy => ∃ (j c : Nat) (h : Nat → List Nat), kk = .int .i64 c ∧ i = .int .i64 j ∧ c ≤ 100 * g + j ∧ j ≤ gl ∧ Hon w2 wy w2.heap.size C H L X n Zn F h ∧ Some' F g (rightL n 2 (gi.take j)) h) (fun _ i _ => gl - (intOf i).toNat)
                    case atStart => exact ⟨0, cc, h3, rfl, rfl, by omega, by omega, HH9.out, some_start g h3 HOb.out⟩
                    case round =>
                      obtain ⟨j, c, h, rfl, rfl, hc, hj, hh, hf⟩ := hrel
                      have HHa := Lib.hid hh
                      have HFr := Lib.hid hf
                      have HBy := Lib.hid (HB2.out.trans (HHa.out.below.mono HB2.out.size))
                      obtain ⟨⟨b', off', e1, hcell⟩, hWg⟩ := HG.out.at0 g _ HGg.out
                      injection e1 with e1
                      injection e1 with e1 e2 _
                      subst e1; subst e2
                      simp only at hcell
                      rw [← HGL.out] at hcell
                      have s0 := keep_below HBy.out _ _ hcell
                      clear hh hf hcell hWg
                      by_cases hjg : j < gl
                      · obtain ⟨x, hx⟩ : ∃ x, gi[j]? = some x := ⟨_, List.getElem?_eq_getElem (by rw [← HGL.out]; exact hjg)⟩
                        obtain ⟨⟨b', off', rfl, hcell⟩, hA⟩ := HWg.out.at0 j x hx
                        have HSt := Lib.hid (HHa.out.step hA HB2.out)
                        have HFs : Hid (Some' F g (rightL n 2 (gi.take (j + 1))) (putH n h x) ∧ Some' F g (rightL n 2 (gi.take (j + 1))) h) := by
                          have := some_step (S := F) g gi j x hx h (by rw [HFf.out.1]; exact HFr.out)
                          rw [HFf.out.1] at this; exact this
                        have t0 := keep_below HBy.out _ _ (hcell 0 _ rfl)
                        have t1 := keep_below HBy.out _ _ (hcell 1 _ rfl)
                        have t2 := keep_below HBy.out _ _ (hcell 2 _ rfl)
                        simp only [Nat.add_zero] at t0 t1 t2
                        rw [← Nat.add_assoc] at t1 t2
                        clear hcell hA hx
                        by_cases hcn : c < n3
                        · obtain ⟨b3, o3, bb, rfl, hbc⟩ := HB3s.out c hcn
                          have hbc := keep_below HBy.out _ _ hbc
                          have hcn' : (c : Int) < n3 := by omega
                          cases bb with
                          | true =>
                            go_wp2_with fail
                            refine HSt.out.mono ?_
                            rintro e wz ⟨⟨_, rfl⟩, hh⟩
                            have HHb := Lib.hid hh
                            clear hh HSt s0 t0 t1 t2 hbc
                            go_wp2
                            go_roundw
                            case rel => exact ⟨j + 1, c + 1, putH n h x, by go_num, by go_num, by omega, by omega, HHb.out, HFs.out.1⟩
                            case measure => simp [intOf]; omega
                          | false =>
                            go_wp2_with fail
                            clear HSt s0 t0 t1 t2 hbc
                            go_wp2
                            go_roundw
                            case rel => exact ⟨j + 1, c + 1, h, by go_num, by go_num, by omega, by omega, HHa.out, HFs.out.2⟩
                            case measure => simp [intOf]; omega
                        · have hcn' : ¬ (c : Int) < n3 := by omega
                          go_wp2_with fail
                          clear HSt s0 t0 t1 t2
                          go_wp2
                          go_roundw
                          case rel => exact ⟨j + 1, c + 1, h, by go_num, by go_num, by omega, by omega, HHa.out, HFs.out.2⟩
                          case measure => simp [intOf]; omega
                      · obtain rfl : gl = j := by omega
                        have HFe : Hid (Some' F g (F.groups.getD g []) h) := by
                          unfold Hid
                          rw [group_at HFf.out.2.2.1 g ⟨gA, gc, gi⟩ HGg.out, HFf.out.1]
                          have := HFr.out
                          rw [HGL.out, List.take_length] at this; exact this
                        go_wp2
                        clear s0
                        go_roundw
                        case rel => exact ⟨g + 1, c, h, by go_num, by go_num, by omega, by omega, HHa.out, .inr ⟨by omega, by omega, HFe.out⟩⟩
                        case measure => simp [intOf]; omega
              · have hlv' : ¬ (g : Int) ≤ level := hlv
                go_wp2_with fail
                have HMid : Hid (Mid F h3) := outer_mid F level g h3 (by rw [HFf.out.2.2.2.1]; exact hg) HOu.out
                clear HOu HBx
                go_loopw [24] (fun i wy => ∃ (j : Nat) (h : Nat → List Nat), i = .int .i64 j ∧ j ≤ n4 ∧ Hon w2 wy w2.heap.size C H L X n Zn F h ∧ Last F (rightL n 2 (its4.take j)) h) (fun i _ => n4 - (intOf i).toNat)
                case atStart => exact ⟨0, h3, rfl, by omega, HH9.out, last_start F h3 HMid.out⟩
                case round =>
                  obtain ⟨j, h, rfl, hj, hh, hl⟩ := hrel
                  have HHa := Lib.hid hh
                  have HLa := Lib.hid hl
                  have HBy := Lib.hid (HB2.out.trans (HHa.out.below.mono HB2.out.size))
                  clear hh hl
                  by_cases hjn : j < n4
                  · obtain ⟨x, hx⟩ : ∃ x, its4[j]? = some x := ⟨_, List.getElem?_eq_getElem (by rw [← HN.out.2.2]; exact hjn)⟩
                    obtain ⟨⟨b', off', rfl, hcell⟩, hA⟩ := HW4.out.at0 j x hx
                    have HSt := Lib.hid (HHa.out.step hA HB2.out)
                    have HFs : Hid (Last F (rightL n 2 (its4.take (j + 1))) (putH n h x) ∧ Last F (rightL n 2 (its4.take (j + 1))) h) := by
                      have := last_step F its4 j x hx h (by rw [HFf.out.1]; exact HLa.out)
                      rw [HFf.out.1] at this; exact this
                    have t0 := keep_below HBy.out _ _ (hcell 0 _ rfl)
                    have t1 := keep_below HBy.out _ _ (hcell 1 _ rfl)
                    have t2 := keep_below HBy.out _ _ (hcell 2 _ rfl)
                    simp only [Nat.add_zero] at t0 t1 t2
                    rw [← Nat.add_assoc] at t1 t2
                    clear hcell hA hx
                    by_cases hcn : j < n5
                    · obtain ⟨b3, o3, bb, rfl, hbc⟩ := HB5s.out j hcn
                      have hbc := keep_below HBy.out _ _ hbc
                      have hcn' : (j : Int) < n5 := by omega
                      cases bb with
                      | true =>
                        go_wp2_with fail
                        refine HSt.out.mono ?_
                        rintro e wz ⟨⟨_, rfl⟩, hh⟩
                        have HHb := Lib.hid hh
                        clear hh HSt t0 t1 t2 hbc
                        go_wp2
                        go_roundw
                        case rel => exact ⟨j + 1, putH n h x, by go_num, by omega, HHb.out, HFs.out.1⟩
                        case measure => simp [intOf]; omega
                      | false =>
                        go_wp2_with fail
                        clear HSt t0 t1 t2 hbc
                        go_wp2
                        go_roundw
                        case rel => exact ⟨j + 1, h, by go_num, by omega, HHa.out, HFs.out.2⟩
                        case measure => simp [intOf]; omega
                    · have hcn' : ¬ (j : Int) < n5 := by omega
                      go_wp2_with fail
                      clear HSt t0 t1 t2
                      go_wp2
                      go_roundw
                      case rel => exact ⟨j + 1, h, by go_num, by omega, HHa.out, HFs.out.2⟩
                      case measure => simp [intOf]; omega
                  · obtain rfl : n4 = j := by omega
                    have HLf : Hid (Last F F.fly h) := by
                      unfold Hid
                      rw [HFf.out.2.2.2.2.1]
                      have := HLa.out
                      rw [HN.out.2.2, List.take_length] at this; exact this
                    obtain ⟨x4, x5, hx⟩ := HHa.out.cr
                    have HIn := Lib.hid (last_in hx HLf.out)
                    obtain ⟨rd, hrd⟩ : ∃ rd, rd = rdOf ((List.range n).map h) := ⟨_, rfl⟩
                    have HRp : Hid (∀ p, p < F.n → rd p = h p) := fun p hp => by rw [hrd]; exact rdOf_range n h p (by rw [← HFf.out.1]; exact hp)
                    have HM1 : Hid (F.may rd = true) := (may_congr F rd h HRp.out).trans (last_may F h HLf.out)
                    have HM2 : Hid ((F.settled rd F.n).may rd = true) := settled_may F rd (fun p hp => by rw [HRp.out p hp]; exact (HIn.out p hp).1)
                    have HBb : Hid (∀ p, p < n → ∀ u ∈ h p, u < 256) := fun p hp => (HIn.out p (by rw [HFf.out.1]; exact hp)).2
                    have HRd := Lib.hid hrd
                    clear hx hrd HIn HRp HMid HLa
                    -- May
                    have z1 := HHa.out.zh.cell 0
                    simp only [List.getElem?_toArray, List.getElem?_cons_zero, List.getElem?_cons_succ] at z1
                    have HRa := Lib.hid (reader_any (some ⟨X, 0, none⟩) n n wr)
                    go_wp2_with fail
                    refine HRa.out.mono ?_
                    rintro e wb ⟨rfl, hwb⟩
                    clear HRa z1
                    have HBb1 : Hid (Below wr.heap.size wr wb) := by unfold Hid; rw [hwb]; exact (Below.refl _ _).alloc (Nat.le_refl _) _
                    have HRb1 : Hid (Row wb wr.heap.size 37 #[.slice (some ⟨X, 0, none⟩) n n]) := by unfold Hid; rw [hwb]; exact Row.fresh _ _ _
                    have HHb := Lib.hid (HHa.out.later HBb1.out)
                    have hXl := HHa.out.zh.lt
                    obtain ⟨x4, x5, hx⟩ := HHb.out.cr
                    have hMy := May_any w2.heap.size C H L x4 x5 F [C, H, L] _ _ rd wb (by rw [HRd.out]; exact HHb.out.reads hn.2 HBb.out HRb1.out (by omega) F.n (by rw [HFf.out.1]; omega) [C, H, L] (fun x hx => hx)) hx
                    rw [HM1.out] at hMy
                    have HMy := Lib.hid hMy
                    clear hMy hx hwb hXl
                    go_wp2_with fail
                    refine HMy.out.mono ?_
                    rintro e wc ⟨rfl, hb⟩
                    have HHc := Lib.hid (HHb.out.later hb)
                    clear hb HMy
                    -- Settle
                    have z1 := HHc.out.zh.cell 0
                    simp only [List.getElem?_toArray, List.getElem?_cons_zero, List.getElem?_cons_succ] at z1
                    have HRa := Lib.hid (reader_any (some ⟨X, 0, none⟩) n n wc)
                    go_wp2_with fail
                    refine HRa.out.mono ?_
                    rintro e wd ⟨rfl, hwb⟩
                    clear HRa z1
                    have HBb2 : Hid (Below wc.heap.size wc wd) := by unfold Hid; rw [hwb]; exact (Below.refl _ _).alloc (Nat.le_refl _) _
                    have HRb2 : Hid (Row wd wc.heap.size 37 #[.slice (some ⟨X, 0, none⟩) n n]) := by unfold Hid; rw [hwb]; exact Row.fresh _ _ _
                    have HHd := Lib.hid (HHc.out.later HBb2.out)
                    have hXl := HHc.out.zh.lt
                    obtain ⟨x4, x5, hx⟩ := HHd.out.cr
                    have hSe := Settle_any _ _ rd (by rw [HRd.out]; exact HHd.out.reads hn.2 HBb.out HRb2.out (by omega) F.n (by rw [HFf.out.1]; omega) [C, H, L] (fun x hx => hx)) hx
                    rw [HM1.out] at hSe
                    simp only [if_true] at hSe
                    have HSe := Lib.hid hSe
                    clear hSe hx hwb hXl
                    go_wp2_with fail
                    refine HSe.out.mono ?_
                    rintro e we ⟨rfl, hc, ht⟩
                    have HHe := Lib.hid (HHd.out.turn ht ⟨_, _, hc⟩)
                    have hLe := Levels_any hc
                    have hgl : (F.settled rd F.n).groups.length = 0 := rfl
                    rw [hgl] at hLe
                    have HLe := Lib.hid hLe
                    clear hLe hgl hc ht HSe
                    go_wp2_with fail
                    refine HLe.out.mono ?_
                    rintro e wf ⟨rfl, rfl⟩
                    clear HLe
                    -- May
                    have z1 := HHe.out.zh.cell 0
                    simp only [List.getElem?_toArray, List.getElem?_cons_zero, List.getElem?_cons_succ] at z1
                    have HRa := Lib.hid (reader_any (some ⟨X, 0, none⟩) n n we)
                    go_wp2_with fail
                    refine HRa.out.mono ?_
                    rintro e wg ⟨rfl, hwb⟩
                    clear HRa z1
                    have HBb3 : Hid (Below we.heap.size we wg) := by unfold Hid; rw [hwb]; exact (Below.refl _ _).alloc (Nat.le_refl _) _
                    have HRb3 : Hid (Row wg we.heap.size 37 #[.slice (some ⟨X, 0, none⟩) n n]) := by unfold Hid; rw [hwb]; exact Row.fresh _ _ _
                    have HHg := Lib.hid (HHe.out.later HBb3.out)
                    have hXl := HHe.out.zh.lt
                    obtain ⟨x4, x5, hx⟩ := HHg.out.cr
                    have hMy := May_any w2.heap.size C H L x4 x5 (F.settled rd F.n) [C, H, L] _ _ rd wg (by rw [HRd.out]; exact HHg.out.reads hn.2 HBb.out HRb3.out (by omega) F.n (by rw [HFf.out.1]; omega) [C, H, L] (fun x hx => hx)) hx
                    rw [HM2.out] at hMy
                    have HMy := Lib.hid hMy
                    clear hMy hx hwb hXl
                    go_wp2_with fail
                    refine HMy.out.mono ?_
                    rintro e wk ⟨rfl, hb⟩
                    have HHk := Lib.hid (HHg.out.later hb)
                    clear hb HMy
                    go_wp2
                    go_ret
                    exact ⟨rfl, HB2.out.trans (HHk.out.below.mono HB2.out.size)⟩
            · go_wp2_with fail
              have HMid : Hid (Mid F h3) := outer_mid F level g h3 (by rw [HFf.out.2.2.2.1]; exact hg) HOu.out
              clear HOu HBx
              go_loopw [24] (fun i wy => ∃ (j : Nat) (h : Nat → List Nat), i = .int .i64 j ∧ j ≤ n4 ∧ Hon w2 wy w2.heap.size C H L X n Zn F h ∧ Last F (rightL n 2 (its4.take j)) h) (fun i _ => n4 - (intOf i).toNat)
              case atStart => exact ⟨0, h3, rfl, by omega, HH9.out, last_start F h3 HMid.out⟩
              case round =>
                obtain ⟨j, h, rfl, hj, hh, hl⟩ := hrel
                have HHa := Lib.hid hh
                have HLa := Lib.hid hl
                have HBy := Lib.hid (HB2.out.trans (HHa.out.below.mono HB2.out.size))
                clear hh hl
                by_cases hjn : j < n4
                · obtain ⟨x, hx⟩ : ∃ x, its4[j]? = some x := ⟨_, List.getElem?_eq_getElem (by rw [← HN.out.2.2]; exact hjn)⟩
                  obtain ⟨⟨b', off', rfl, hcell⟩, hA⟩ := HW4.out.at0 j x hx
                  have HSt := Lib.hid (HHa.out.step hA HB2.out)
                  have HFs : Hid (Last F (rightL n 2 (its4.take (j + 1))) (putH n h x) ∧ Last F (rightL n 2 (its4.take (j + 1))) h) := by
                    have := last_step F its4 j x hx h (by rw [HFf.out.1]; exact HLa.out)
                    rw [HFf.out.1] at this; exact this
                  have t0 := keep_below HBy.out _ _ (hcell 0 _ rfl)
                  have t1 := keep_below HBy.out _ _ (hcell 1 _ rfl)
                  have t2 := keep_below HBy.out _ _ (hcell 2 _ rfl)
                  simp only [Nat.add_zero] at t0 t1 t2
                  rw [← Nat.add_assoc] at t1 t2
                  clear hcell hA hx
                  by_cases hcn : j < n5
                  · obtain ⟨b3, o3, bb, rfl, hbc⟩ := HB5s.out j hcn
                    have hbc := keep_below HBy.out _ _ hbc
                    have hcn' : (j : Int) < n5 := by omega
                    cases bb with
                    | true =>
                      go_wp2_with fail
                      refine HSt.out.mono ?_
                      rintro e wz ⟨⟨_, rfl⟩, hh⟩
                      have HHb := Lib.hid hh
                      clear hh HSt t0 t1 t2 hbc
                      go_wp2
                      go_roundw
                      case rel => exact ⟨j + 1, putH n h x, by go_num, by omega, HHb.out, HFs.out.1⟩
                      case measure => simp [intOf]; omega
                    | false =>
                      go_wp2_with fail
                      clear HSt t0 t1 t2 hbc
                      go_wp2
                      go_roundw
                      case rel => exact ⟨j + 1, h, by go_num, by omega, HHa.out, HFs.out.2⟩
                      case measure => simp [intOf]; omega
                  · have hcn' : ¬ (j : Int) < n5 := by omega
                    go_wp2_with fail
                    clear HSt t0 t1 t2
                    go_wp2
                    go_roundw
                    case rel => exact ⟨j + 1, h, by go_num, by omega, HHa.out, HFs.out.2⟩
                    case measure => simp [intOf]; omega
                · obtain rfl : n4 = j := by omega
                  have HLf : Hid (Last F F.fly h) := by
                    unfold Hid
                    rw [HFf.out.2.2.2.2.1]
                    have := HLa.out
                    rw [HN.out.2.2, List.take_length] at this; exact this
                  obtain ⟨x4, x5, hx⟩ := HHa.out.cr
                  have HIn := Lib.hid (last_in hx HLf.out)
                  obtain ⟨rd, hrd⟩ : ∃ rd, rd = rdOf ((List.range n).map h) := ⟨_, rfl⟩
                  have HRp : Hid (∀ p, p < F.n → rd p = h p) := fun p hp => by rw [hrd]; exact rdOf_range n h p (by rw [← HFf.out.1]; exact hp)
                  have HM1 : Hid (F.may rd = true) := (may_congr F rd h HRp.out).trans (last_may F h HLf.out)
                  have HM2 : Hid ((F.settled rd F.n).may rd = true) := settled_may F rd (fun p hp => by rw [HRp.out p hp]; exact (HIn.out p hp).1)
                  have HBb : Hid (∀ p, p < n → ∀ u ∈ h p, u < 256) := fun p hp => (HIn.out p (by rw [HFf.out.1]; exact hp)).2
                  have HRd := Lib.hid hrd
                  clear hx hrd HIn HRp HMid HLa
                  -- May
                  have z1 := HHa.out.zh.cell 0
                  simp only [List.getElem?_toArray, List.getElem?_cons_zero, List.getElem?_cons_succ] at z1
                  have HRa := Lib.hid (reader_any (some ⟨X, 0, none⟩) n n wr)
                  go_wp2_with fail
                  refine HRa.out.mono ?_
                  rintro e wb ⟨rfl, hwb⟩
                  clear HRa z1
                  have HBb1 : Hid (Below wr.heap.size wr wb) := by unfold Hid; rw [hwb]; exact (Below.refl _ _).alloc (Nat.le_refl _) _
                  have HRb1 : Hid (Row wb wr.heap.size 37 #[.slice (some ⟨X, 0, none⟩) n n]) := by unfold Hid; rw [hwb]; exact Row.fresh _ _ _
                  have HHb := Lib.hid (HHa.out.later HBb1.out)
                  have hXl := HHa.out.zh.lt
                  obtain ⟨x4, x5, hx⟩ := HHb.out.cr
                  have hMy := May_any w2.heap.size C H L x4 x5 F [C, H, L] _ _ rd wb (by rw [HRd.out]; exact HHb.out.reads hn.2 HBb.out HRb1.out (by omega) F.n (by rw [HFf.out.1]; omega) [C, H, L] (fun x hx => hx)) hx
                  rw [HM1.out] at hMy
                  have HMy := Lib.hid hMy
                  clear hMy hx hwb hXl
                  go_wp2_with fail
                  refine HMy.out.mono ?_
                  rintro e wc ⟨rfl, hb⟩
                  have HHc := Lib.hid (HHb.out.later hb)
                  clear hb HMy
                  -- Settle
                  have z1 := HHc.out.zh.cell 0
                  simp only [List.getElem?_toArray, List.getElem?_cons_zero, List.getElem?_cons_succ] at z1
                  have HRa := Lib.hid (reader_any (some ⟨X, 0, none⟩) n n wc)
                  go_wp2_with fail
                  refine HRa.out.mono ?_
                  rintro e wd ⟨rfl, hwb⟩
                  clear HRa z1
                  have HBb2 : Hid (Below wc.heap.size wc wd) := by unfold Hid; rw [hwb]; exact (Below.refl _ _).alloc (Nat.le_refl _) _
                  have HRb2 : Hid (Row wd wc.heap.size 37 #[.slice (some ⟨X, 0, none⟩) n n]) := by unfold Hid; rw [hwb]; exact Row.fresh _ _ _
                  have HHd := Lib.hid (HHc.out.later HBb2.out)
                  have hXl := HHc.out.zh.lt
                  obtain ⟨x4, x5, hx⟩ := HHd.out.cr
                  have hSe := Settle_any _ _ rd (by rw [HRd.out]; exact HHd.out.reads hn.2 HBb.out HRb2.out (by omega) F.n (by rw [HFf.out.1]; omega) [C, H, L] (fun x hx => hx)) hx
                  rw [HM1.out] at hSe
                  simp only [if_true] at hSe
                  have HSe := Lib.hid hSe
                  clear hSe hx hwb hXl
                  go_wp2_with fail
                  refine HSe.out.mono ?_
                  rintro e we ⟨rfl, hc, ht⟩
                  have HHe := Lib.hid (HHd.out.turn ht ⟨_, _, hc⟩)
                  have hLe := Levels_any hc
                  have hgl : (F.settled rd F.n).groups.length = 0 := rfl
                  rw [hgl] at hLe
                  have HLe := Lib.hid hLe
                  clear hLe hgl hc ht HSe
                  go_wp2_with fail
                  refine HLe.out.mono ?_
                  rintro e wf ⟨rfl, rfl⟩
                  clear HLe
                  -- May
                  have z1 := HHe.out.zh.cell 0
                  simp only [List.getElem?_toArray, List.getElem?_cons_zero, List.getElem?_cons_succ] at z1
                  have HRa := Lib.hid (reader_any (some ⟨X, 0, none⟩) n n we)
                  go_wp2_with fail
                  refine HRa.out.mono ?_
                  rintro e wg ⟨rfl, hwb⟩
                  clear HRa z1
                  have HBb3 : Hid (Below we.heap.size we wg) := by unfold Hid; rw [hwb]; exact (Below.refl _ _).alloc (Nat.le_refl _) _
                  have HRb3 : Hid (Row wg we.heap.size 37 #[.slice (some ⟨X, 0, none⟩) n n]) := by unfold Hid; rw [hwb]; exact Row.fresh _ _ _
                  have HHg := Lib.hid (HHe.out.later HBb3.out)
                  have hXl := HHe.out.zh.lt
                  obtain ⟨x4, x5, hx⟩ := HHg.out.cr
                  have hMy := May_any w2.heap.size C H L x4 x5 (F.settled rd F.n) [C, H, L] _ _ rd wg (by rw [HRd.out]; exact HHg.out.reads hn.2 HBb.out HRb3.out (by omega) F.n (by rw [HFf.out.1]; omega) [C, H, L] (fun x hx => hx)) hx
                  rw [HM2.out] at hMy
                  have HMy := Lib.hid hMy
                  clear hMy hx hwb hXl
                  go_wp2_with fail
                  refine HMy.out.mono ?_
                  rintro e wk ⟨rfl, hb⟩
                  have HHk := Lib.hid (HHg.out.later hb)
                  clear hb HMy
                  go_wp2
                  go_ret
                  exact ⟨rfl, HB2.out.trans (HHk.out.below.mono HB2.out.size)⟩
end Go.Proofs.Ytomigaldomiefaa
