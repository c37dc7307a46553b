/- crash: Cached. -/
import Derived.Test.YtomigaldomiefaaCrSet
namespace Go.Proofs.Ytomigaldomiefaa
open Go.RowKit Go.MapKept Go.ChangeMaps
open Go.Maps (Keyed)
set_option linter.unusedVariables false
set_option linter.unusedSimpArgs false

theorem grp_info : (Try.prog.info? 23).map (fun i => (i.zero, i.size, i.bytes)) = some (some (.slice none 0 0), 1, 24) := by kernel_rfl
/-- A group that came in. -/
structure Gs where
  A : Option Addr
  c : Nat
  its : List Ws
/-- Groups in a row. -/
structure ArgG (w : World) (A : Option Addr) (gss : List Gs) : Prop where
  at0 : ∀ (i : Nat) (g : Gs), gss[i]? = some g → (∃ b off, A = some ⟨b, off, none⟩ ∧ w.cell? ⟨b, off + i, none⟩ = some (.slice g.A g.its.length g.c)) ∧ Writes w g.A g.its
theorem ArgG.keep {w w' : World} {a : Option Addr} {gss : List Gs} (h : ArgG w a gss) (hk : ∀ p v, w.cell? p = some v → w'.cell? p = some v) : ArgG w' a gss :=
  ⟨fun i x hx => by obtain ⟨⟨b, off, e, hc⟩, hA⟩ := h.at0 i x hx; exact ⟨⟨b, off, e, hk _ _ hc⟩, hA.keep hk⟩⟩
def rightG (n sz : Nat) (gss : List Gs) : List (List Wr) := gss.map fun g => rightL n sz g.its
theorem rightG_take (n sz : Nat) (gss : List Gs) (k : Nat) (g : Gs) (h : gss[k]? = some g) : rightG n sz (gss.take (k + 1)) = rightG n sz (gss.take k) ++ [rightL n sz g.its] := by
  have e : gss.take (k + 1) = gss.take k ++ [g] := by rw [List.take_add_one, h]; rfl
  unfold rightG; rw [e, List.map_append]; rfl
section
variable {w w' : World} {B C H L : Nat} {v4 v5 : Value} {S : Cr} {T : List Nat}
theorem WrsIs.aside {v : Value} {l : List Wr} (h : WrsIs w B v l) (ht : Turns w w' T) (hT : ∀ g ∈ T, ∃ cs, Row w g 23 cs) : WrsIs w' B v l := by
  obtain ⟨its, h1, h2, h3⟩ := h
  refine ⟨its, h1, ht.own h2 fun g hg hm => ?_, fun x hx => ⟨(h3 x hx).1, (h3 x hx).2.1, (h3 x hx).2.2.aside ht fun g hg => by obtain ⟨cs, hr⟩ := hT g hg; exact ⟨_, cs, hr, by decide⟩⟩⟩
  obtain ⟨cs, hr⟩ := hT g hm
  obtain ⟨_, _, cs', hr'⟩ := own_blk h2 (k := g) (by unfold blkV; rw [hg]; simp)
  exact Row.ne_type hr hr' (by decide) rfl
theorem GrsIs.blk {v : Value} {gs : List (List Wr)} (h : GrsIs w B v gs) : ∀ g ∈ blkV v, ∃ cs, Row w g 23 cs := fun g hg => by
  obtain ⟨vs, h1, _⟩ := h
  exact (own_blk h1 hg).2.2
theorem GrsIs.push {v' u : Value} {gs : List (List Wr)} {vs : List Value} {g : List Wr} (hvs : ∀ (i : Nat) (g : List Wr), gs[i]? = some g → ∃ u, vs[i]? = some u ∧ WrsIs w B u g) (hl : vs.length = gs.length) (ht : Turns w w' T) (hT : ∀ g ∈ T, ∃ cs, Row w g 23 cs) (ho : w'.ownsRow B 23 1 v' (gs.length + 1) (vs ++ [u])) (hu : WrsIs w B u g) : GrsIs w' B v' (gs ++ [g]) := by
  refine ⟨vs ++ [u], by rw [List.length_append]; exact ho, fun i x hx => ?_⟩
  rcases Nat.lt_or_ge i gs.length with hlt | hge
  · rw [List.getElem?_append_left hlt] at hx
    obtain ⟨y, hy, hw⟩ := hvs i x hx
    exact ⟨y, by rw [List.getElem?_append_left (by omega)]; exact hy, hw.aside ht hT⟩
  · rw [List.getElem?_append_right hge] at hx
    have hi : i = gs.length := by
      have := (List.getElem?_eq_some_iff.1 hx).1
      simp at this; omega
    subst hi
    simp at hx; subst hx
    exact ⟨u, by rw [List.getElem?_append_right (by omega), hl]; simp, hu.aside ht hT⟩
theorem CrIs.regroup (h : CrIs w B C H L v4 v5 S) (ht : Turns w w' T) (hT : ∀ g ∈ T, ∃ cs, Row w g 23 cs) {v : Value} {gs : List (List Wr)} (hv : GrsIs w' B v gs) (ok : ∀ g ∈ gs, OkL S.n S.sz g) (few : gs.length ≤ 1048576 ∧ ∀ g ∈ gs, g.length ≤ 3518437208883) :
    CrIs (w'.setCell ⟨C, 4, none⟩ v) B C H L v v5 { S with groups := gs } ∧ (w'.frozen? ⟨C, 4, none⟩ = false ∧ w'.cell? ⟨C, 4, none⟩ = some v4) := by
  have hC : Row w' C 67 _ := ht.row h.row (fun hm => by obtain ⟨cs, hr⟩ := hT _ hm; exact Row.ne_type hr h.row (by decide) rfl)
  have hH := h.has.turns ht (fun hm => by obtain ⟨cs, hr⟩ := hT _ hm; exact h.has.not_row _ _ hr)
  have hL := h.loose.turns ht (fun hm => by obtain ⟨cs, hr⟩ := hT _ hm; exact h.loose.not_row _ _ hr)
  have hF := h.fly.aside ht hT
  have hl : Lone w' [C] := fun g ty cs hr hne hm => Row.ne_type hr hC hne (List.mem_singleton.1 hm)
  have h2 : Turns w' (w'.setCell ⟨C, 4, none⟩ v) [C] := (Turns.refl w' [C]).setCell (by simp) v
  exact ⟨⟨by simpa using hC.put 4 v, hH.turns h2 (by simpa using h.neC.1), hL.turns h2 (by simpa using h.neC.2), hv.lone h2 hl, hF.lone h2 hl, h.low, h.ne, h.n, h.sz, ok, h.okF, ⟨few.1, few.2, h.few.2.2⟩⟩, hC.frozen 4, hC.cell 4⟩
set_option maxRecDepth 100000 in
set_option maxHeartbeats 4000000 in
theorem Cached_any (h : CrIs w B C H L v4 v5 S) (A : Option Addr) (c : Nat) (gss : List Gs) (hlen : gss.length ≤ 1048576) (hl2 : ∀ g ∈ gss, g.its.length ≤ 3518437208883) (hG : ∀ wr, Turns w wr [C] → ArgG wr A gss) :
    Calls Try.prog 10 #[.pointer (some ⟨C, 0, none⟩), .slice A gss.length c] w fun e w' => (∃ v, e = .returned v) ∧ (∃ v, CrIs w' B C H L v v5 { S with groups := rightG S.n S.sz gss }) ∧ Turns w w' [C] := by
  obtain ⟨i0, hi, hz0, hz1, hz2⟩ := info_parts grp_info
  have HG := Lib.hid hG
  have HL2 := Lib.hid hl2
  have hBw := h.lt
  have c4 := h.cells.2.2.2.2.1
  have fz := h.row.frozen 4
  have HC0 : Hid (CrIs (w.setCell ⟨C, 4, none⟩ (.slice none 0 0)) B C H L (.slice none 0 0) v5 { S with groups := [] }) := h.put4 (GrsIs.nil w B) (by simp) (by simp)
  have HT0 : Hid (Turns w (w.setCell ⟨C, 4, none⟩ (.slice none 0 0)) [C]) := (Turns.refl w [C]).setCell (by simp) _
  obtain ⟨B0, hB0⟩ : ∃ B0, B0 = w.heap.size := ⟨_, rfl⟩
  have HB0 : Hid (B < B0 ∧ C < B0 ∧ B0 = w.heap.size) := ⟨by omega, by rw [hB0]; exact h.row.lt, hB0⟩
  obtain ⟨ln, hln⟩ : ∃ ln, ln = gss.length := ⟨_, rfl⟩
  have HLn := Lib.hid hln
  rw [← hln] at hlen ⊢
  clear h hG hl2 hln hB0 hBw
  go_enter Try.func10, Try.ntmps10
  go_wp2
  clear c4 fz
  go_loopw [5, 11] (fun gp i wr => ∃ (k : Nat) (v : Value), i = .int .i64 k ∧ k ≤ ln ∧ CrIs wr B C H L v v5 { S with groups := rightG S.n S.sz (gss.take k) } ∧ GrsIs wr B0 v (rightG S.n S.sz (gss.take k)) ∧ Turns w wr [C]) (fun _ i _ => ln - (intOf i).toNat)
  case atStart => exact ⟨0, .slice none 0 0, rfl, by omega, HC0.out, GrsIs.nil _ _, HT0.out⟩
  case round =>
    clear HC0 HT0
    obtain ⟨k, v, rfl, hk, hc, hgr, ht⟩ := hrel
    by_cases hkn : k < ln
    · obtain ⟨g, hg⟩ : ∃ g, gss[k]? = some g := ⟨_, List.getElem?_eq_getElem (by rw [← HLn.out]; exact hkn)⟩
      obtain ⟨⟨b, off, e1, q0⟩, hW⟩ := (HG.out wr ht).at0 k g hg
      subst e1
      have hgl := HL2.out g (List.mem_of_getElem? hg)
      have HSt := Lib.hid (rightG_take S.n S.sz gss k g hg)
      have HW0 : Hid (Writes wr.drew g.A g.its) := hW.keep (fun _ _ h => h)
      have HOk := Lib.hid (rightL_ok S.n S.sz hW)
      have HLe : Hid ((rightL S.n S.sz g.its).length ≤ 3518437208883) := Nat.le_trans (rightL_le S.n S.sz g.its) hgl
      have HRi := Lib.hid (right_any C S.n S.sz g.A g.c g.its hgl hc.sz.2 wr.drew HW0.out hc.cells.1 hc.cells.2.1)
      obtain ⟨vs, hvo, hve⟩ := hgr
      have hgk : (rightG S.n S.sz (gss.take k)).length = k := by unfold rightG; rw [List.length_map, List.length_take, ← HLn.out]; omega
      rw [hgk] at hvo
      obtain ⟨A4, c4, rfl, _, _⟩ := own_shape hvo
      have HGb : Hid (∀ x ∈ blkV (.slice A4 k c4), ∃ cs, Row wr x 23 cs) := fun x hx => (own_blk hvo hx).2.2
      have HGl : Hid (∀ x ∈ blkV (.slice A4 k c4), B0 ≤ x) := fun x hx => (own_blk hvo hx).1
      have HVe := Lib.hid hve
      have HVo := Lib.hid hvo
      have HCr := Lib.hid hc
      have HTr := Lib.hid ht
      have hCn : C ∉ blkV (.slice A4 k c4) := fun hm => by obtain ⟨cs, hr⟩ := HGb.out _ hm; exact Row.ne_type hr hc.row (by decide) rfl
      have k4 : ∀ t : Kept wr (blkV (.slice A4 k c4)), t.u.cell? ⟨C, 4, none⟩ = some (.slice A4 k c4) := fun t => (t.h.row HCr.out.row hCn).cell 4
      generalize g.its.length = gl at *
      clear hW hve hvo hc ht hg hgl HW0
      go_wp2
      (refine region_kept (blkV (.slice A4 k c4)) [0, 1, 2, 3, 4, 5, 6] [7, 8, 9, 10, 11, 12] (by kernel_rfl) (by kernel_rfl) (fun _ _ _ _ _ h => h) ?_; simp only [List.filterMap_cons, List.getElem?_cons_zero, List.getElem?_cons_succ, List.filterMap_nil]; (repeat ((show wpQuiet _ _ _ _ (_ :: _) _); go_big_quiet_step (fail))); refine wpQuiet_nil ?_)
      clear k4 hCn q0
      refine wpSeqS_step ?_
      go_wp2_with fail
      refine HRi.out.mono ?_
      rintro e w4 ⟨v7, rfl, hv7, hb4⟩
      obtain ⟨n7, A7, c7, rfl⟩ := hv7.shape
      have HB4 : Hid (Below wr.heap.size wr w4) := (Below.refl _ _).drew.trans hb4
      have HV7 := Lib.hid hv7
      clear HRi hv7 hb4
      go_wp2_with fail
      refine outQ_normal (Turns.of_below HB4.out _) ?_
      refine wpSeqS_step ?_
      go_wp2_with fail
      refine outQ_normal ((Turns.of_below HB4.out _).alloc _) ?_
      have HB5 : Hid (Below wr.heap.size wr (w4.alloc (.cells #[.slice A7 n7 c7] 23))) := HB4.out.alloc HB4.out.size _
      have HO5 := Lib.hid (own_below HVo.out HB5.out)
      have HS5 := Lib.hid (src_new (w := w4) (t := 23) (cs := [.slice A7 n7 c7]) (sz := 1) rfl)
      have hBs : B0 ≤ (w4.alloc (.cells #[.slice A7 n7 c7] 23)).heap.size := by have h1 := HTr.out.size; have h2 := HB5.out.size; have h3 := HB0.out.2.2; omega
      refine wpSeqS_step (wpList_append_src _ rfl (.tmp 19) (.tmp 23) 35 rfl B0 23 i0 _ 1 24 Try.underlying35 hi hz0 hz1 hz2 rfl (by decide) _ k vs rfl HO5.out (some ⟨w4.heap.size, 0, none⟩) 1 1 _ rfl HS5.out (by intro u hu; rw [List.mem_singleton.1 hu]; rfl) (by unfold maxLen; omega) (by omega) hBs ?_)
      intro v6 w6 hown hgrow hat
      obtain ⟨A6, c6, rfl, _, _⟩ := own_shape hown
      have HT5 : Hid (Turns (w4.alloc (.cells #[.slice A7 n7 c7] 23)) w6 (blkV (.slice A4 k c4))) := turns_own hgrow
      have HT6 : Hid (Turns wr w6 (blkV (.slice A4 k c4))) := (Turns.of_below HB5.out _).trans HT5.out (fun k hk => .inl hk)
      refine wpList_nil (outQ_normal HT6.out ?_)
      have hb45 : Below w4.heap.size w4 (w4.alloc (.cells #[.slice A7 n7 c7] 23)) := (Below.refl _ _).alloc (Nat.le_refl _) _
      have hTb : ∀ x ∈ blkV (.slice A4 k c4), ∃ cs, Row (w4.alloc (.cells #[.slice A7 n7 c7] 23)) x 23 cs := fun x hx => by
        obtain ⟨cs, hr⟩ := HGb.out x hx
        exact ⟨cs, hr.below HB5.out hr.lt⟩
      have hGp : GrsIs w6 B0 (.slice A6 (k + 1) c6) (rightG S.n S.sz (gss.take (k + 1))) := by
        rw [HSt.out]
        have hv7 : WrsIs (w4.alloc (.cells #[.slice A7 n7 c7] 23)) B0 (.slice A7 n7 c7) (rightL S.n S.sz g.its) := (HV7.out.mono (by have h1 := HTr.out.size; have h3 := HB0.out.2.2; show B0 ≤ wr.heap.size; omega)).lone (Turns.of_below hb45 []) (lone_nil _)
        refine GrsIs.push (vs := vs) (u := .slice A7 n7 c7) (fun i x hx => ?_) ?_ HT5.out hTb ?_ hv7
        · obtain ⟨y, hy, hw⟩ := HVe.out i x hx
          exact ⟨y, hy, hw.lone (Turns.of_below HB5.out []) (lone_nil _)⟩
        · have := HVo.out.1; rw [hgk]; omega
        · rw [hgk]; exact hown
      obtain ⟨hcr, fz6, c46⟩ := HCr.out.regroup HT6.out HGb.out (hGp.mono (Nat.le_of_lt HB0.out.1)) (fun x hx => by
        rw [HSt.out] at hx
        rcases List.mem_append.1 hx with hx | hx
        · exact HCr.out.okG x hx
        · rw [List.mem_singleton.1 hx]; exact HOk.out) ⟨by rw [HSt.out, List.length_append, hgk]; simp; omega, fun x hx => by
        rw [HSt.out] at hx
        rcases List.mem_append.1 hx with hx | hx
        · exact HCr.out.few.2.1 x hx
        · rw [List.mem_singleton.1 hx]; exact HLe.out⟩
      have HCr2 := Lib.hid hcr
      have HG2 : Hid (GrsIs (w6.setCell ⟨C, 4, none⟩ (.slice A6 (k + 1) c6)) B0 (.slice A6 (k + 1) c6) (rightG S.n S.sz (gss.take (k + 1)))) := by
        refine hGp.lone ((Turns.refl w6 [C]).setCell (by simp) _) (fun y ty cs hr hne hm => ?_)
        rw [List.mem_singleton.1 hm] at hr
        have hC6 := HT6.out.row HCr.out.row (fun hm => by obtain ⟨cs, hr⟩ := HGb.out _ hm; exact Row.ne_type hr HCr.out.row (by decide) rfl)
        exact Row.ne_type hr hC6 hne rfl
      have HT7 : Hid (Turns w (w6.setCell ⟨C, 4, none⟩ (.slice A6 (k + 1) c6)) [C]) := (HTr.out.trans HT6.out (fun x hx => .inr (by have := HGl.out x hx; have := HB0.out.2.2; omega))).setCell (by simp) _
      clear hown hgrow hat HS5 HO5 HT5 hcr hGp hTb hb45 hBs
      refine wpSeqS_step ?_
      go_wp2_with fail
      refine outQ_normal HT6.out ?_
      refine wpSeqS_step ?_
      go_wp2_with fail
      refine outQ_normal HT6.out ?_
      refine wpSeqS_last ?_
      go_wp2
      go_roundw
      case rel => exact ⟨k + 1, _, by go_num, by omega, HCr2.out, HG2.out, HT7.out⟩
      case measure => simp [intOf]; omega
    · obtain rfl : k = ln := by omega
      have hall : gss.take k = gss := by rw [HLn.out]; exact List.take_length
      rw [hall] at hc
      have HCr := Lib.hid hc
      have HTr := Lib.hid ht
      clear hc hgr ht hall
      go_wp2
      go_end0
      exact ⟨⟨_, rfl⟩, ⟨_, HCr.out⟩, HTr.out⟩
end
end Go.Proofs.Ytomigaldomiefaa
