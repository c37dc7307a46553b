/- What follows is laid together from several texts of mine, in their order. -/
import Derived.Test.YtclhhdodebdmjaaGreatQ19

namespace Go.Proofs.YtclhhdodebdmjaaGreat
open Go.RowKit Go.MapKept Go.ChangeMaps
open Go.Maps (Keyed)
set_option linter.unusedVariables false
set_option linter.unusedSimpArgs false
set_option maxRecDepth 100000

/-- A write: area, sector (or place), its bytes as they lie. -/
structure Wx where
  a : Int
  p : Nat
  A : Option Addr
  n : Nat
  l : List Nat
def Ab.last (S : Ab) (p : Nat) (l : List Nat) : Ab := { S with has := fun q => if q = p then some l else S.has q, was := fun q => if q = p then Option.none else S.was q }
def Ab.lasts (S : Ab) (ws : List Wx) : Ab := ws.foldl (fun S x => S.last x.p x.l) S
theorem Ab.lasts_snoc (S : Ab) (ws : List Wx) (k : Nat) (x : Wx) (hx : ws[k]? = some x) : S.lasts (ws.take (k + 1)) = (S.lasts (ws.take k)).last x.p x.l := by
  unfold Ab.lasts
  rw [List.take_add_one, hx]
  simp
/-- Writes among an argument: they are read in whatever world keeps what was. -/
def WsAt (w : World) (U : List Nat) (A : Option Addr) (ws : List Wx) : Prop := ∀ W, Turns w W U → ∀ i x, ws[i]? = some x → (∃ g off, A = some ⟨g, off, none⟩ ∧ W.cell? ⟨g, off + i * 3, none⟩ = some (.int .i64 x.a) ∧ W.cell? ⟨g, off + i * 3 + 1, none⟩ = some (.int .i64 (x.p : Int)) ∧ W.cell? ⟨g, off + i * 3 + 2, none⟩ = some (.slice x.A x.l.length x.n)) ∧ Src W 1 x.A x.l.length (intsV .u8 x.l)
theorem seen_any (v : Value) (w : World) : Calls Tryz.prog 52 #[v] w fun e w' => e = .returned (.tuple #[]) ∧ w' = w := by
  go_enter Tryz.func52, Tryz.ntmps52
  go_wp2
  go_end0
  exact ⟨rfl, rfl⟩
theorem intKeyed : Keyed Tryz.prog 3 := Go.Maps.int_keyed Tryz.underlying3
theorem int_key {k : Nat} (h : k < 4294967296) : keyOf Tryz.prog 3 (.int .i64 (k : Nat)) = some (.int .i64 (k : Nat)) := Go.Maps.keyOf_int_mk Tryz.underlying3 (WalkArith.wf_i64 (by omega))
/-- A place is loose no more. -/
theorem AbIs.unwas {w : World} {b : Bn} {T F : List Nat} {c : Cf} {S : Ab} (h : AbIs w b T F c S) (p : Nat) (hp : p < 4294967296) :
    ∃ w', (∀ ty, (Builtin.delete_ #[120, 3] ty #[.map (some b.wm), .int .i64 (p : Int)]).run Tryz.prog w = .ok (.tuple #[]) w') ∧ AbIs w' b T F c { S with was := fun q => if q = p then Option.none else S.was q } ∧ Turns w w' [b.wm] := by
  obtain ⟨m, f, hm, hw⟩ := h.wm
  obtain ⟨w', h1, h2, h3⟩ := hm.delete (ty := 0) intKeyed Tryz.underlying120 (int_key hp)
  have ht : Turns w w' [b.wm] := Turns.of_grown h3
  refine ⟨w', fun ty => h1, h.wms ht ⟨_, _, h2, ?_⟩ { h.ok with wasLt := fun q l hq => ?_ } (fun k hk => hk) h.TF (fun k hk => Nat.lt_of_lt_of_le (h.Flt k hk) ht.size), ht⟩
  · constructor
    · intro key v hv
      by_cases he : key = .int .i64 (p : Int)
      · subst he; rw [updK_same] at hv; cases hv
      · rw [updK_ne _ _ _ he] at hv
        obtain ⟨q, l, rfl, hq⟩ := hw.keys _ _ hv
        exact ⟨q, l, rfl, by rw [if_neg (fun e => he (by rw [e]))]; exact hq⟩
    · intro q l hq
      by_cases he : q = p
      · rw [if_pos he] at hq; cases hq
      · rw [if_neg he] at hq
        obtain ⟨v, h4, h5, h6⟩ := hw.yes q l hq
        exact ⟨v, by rw [updK_ne _ _ _ (fun e => he (by injection e with _ e; omega))]; exact h4, h5.turns ht (fun k hk => h.TF k (h.inT k (by obtain rfl := List.mem_singleton.1 hk; simp [Bn.ts]))), h6⟩
  · by_cases he : q = p
    · simp only [if_pos he] at hq; cases hq
    · simp only [if_neg he] at hq; exact h.ok.wasLt q l hq
section
variable {w : World} {b : Bn} {T F : List Nat} {c : Cf} {S : Ab}
set_option maxHeartbeats 2000000 in
theorem Last_any (h : AbIs w b T F c S) (A : Option Addr) (cw : Nat) (ws : List Wx) (hn : ws.length ≤ 1000) (hp : ∀ x ∈ ws, x.p < (totalI c).toNat) (hl : ∀ x ∈ ws, (x.l.length : Int) = c.sector ∧ ∀ y ∈ x.l, y < 256) (hws : WsAt w [b.LB, b.wm] A ws) :
    Calls Tryz.prog 319 #[.pointer (some ⟨b.n.D, 0, none⟩), .slice A ws.length cw] w fun e w' => e = .returned (.bool true) ∧ ∃ F', AbIs w' b T F' c (S.lasts ws) ∧ Turns w w' [b.LB, b.wm] ∧ (∀ k ∈ F, k ∈ F') ∧ ∀ k ∈ F', k ∈ F ∨ w.heap.size ≤ k := by
  have HW := Lib.hid hws
  have HP := Lib.hid hp
  have HLn := Lib.hid hl
  have H0 := Lib.hid h
  have HS2 : Hid ((∀ q : Nat, q < (totalI c).toNat → (q : Int) < totalI c) ∧ c.sector ≤ 448 ∧ ∀ q : Nat, q < (totalI c).toNat → q < 100000) := by
    have hu := h.ok.cfg.1.user; have hb := h.ok.cfg.1.boot; have hr := h.ok.cfg.1.rpa
    have hs := h.ok.cfg.1.sector
    have : totalI c = c.user + 2 * c.boot + c.rpa := rfl
    exact ⟨fun q hq => by omega, hs.2, fun q hq => by omega⟩
  obtain ⟨n, hnn⟩ : ∃ n, n = ws.length := ⟨_, rfl⟩
  rw [← hnn] at hn ⊢
  have HN := Lib.hid hnn
  clear h hws hp hl hnn
  go_enter Tryz.func319, Tryz.ntmps319
  go_wp2
  go_loopw [9] (fun i wr => ∃ k : Nat, k ≤ n ∧ i = .int .i64 k ∧ ∃ F1, AbIs wr b T F1 c (S.lasts (ws.take k)) ∧ Turns w wr [b.LB, b.wm] ∧ (∀ k ∈ F, k ∈ F1) ∧ ∀ k ∈ F1, k ∈ F ∨ w.heap.size ≤ k) (fun i _ => n - (intOf i).toNat)
  case atStart => exact ⟨0, Nat.zero_le _, rfl, F, H0.out, Turns.refl _ _, fun k hk => hk, fun k hk => .inl hk⟩
  case round =>
    obtain ⟨k, hk, rfl, F1, h1, h2, h3, h4⟩ := hrel
    by_cases hlt : k < n
    · obtain ⟨x, hx⟩ : ∃ x, ws[k]? = some x := ⟨_, List.getElem?_eq_getElem (by rw [← HN.out]; exact hlt)⟩
      have hxm := List.mem_of_getElem? hx
      obtain ⟨⟨g, off, rfl, d0, d1, d2⟩, hsrc⟩ := HW.out wr h2 k x hx
      have hxp := HP.out x hxm
      have hxl := HLn.out x hxm
      obtain ⟨wv, hwv⟩ : ∃ wv, wv = wr.alloc (.cells #[.int .i64 x.a, .int .i64 (x.p : Int), .slice x.A x.l.length x.n] 166) := ⟨_, rfl⟩
      obtain ⟨V, hV⟩ : ∃ V, V = wr.heap.size := ⟨_, rfl⟩
      have HRV : Hid (Row wv V 166 #[.int .i64 x.a, .int .i64 (x.p : Int), .slice x.A x.l.length x.n]) := by unfold Hid; rw [hwv, hV]; exact Row.fresh _ _ _
      have hbv : Below wr.heap.size wr wv := by rw [hwv]; (repeat (first | (with_reducible refine Below.drew ?_) | (with_reducible refine below_drewN0 ?_ _) | ((with_reducible refine Below.setCell ?_ ?_ _); rotate_left; focus (first | omega | (simp; done) | (simp; omega) | (simp at *; omega))) | ((with_reducible refine Below.alloc ?_ ?_ _); rotate_left; focus (first | omega | (simp; done) | (simp; omega) | (simp at *; omega))) | (with_reducible exact Below.refl _ _)))
      have HAv := Lib.hid (h1.below hbv)
      have HTv : Hid (Turns w wv [b.LB, b.wm]) := h2.then_below hbv
      have HX := Lib.hid hx
      have hVw : w.heap.size ≤ V := by rw [hV]; exact h2.size
      have HS1 : Hid (S.lasts (ws.take (k + 1)) = (S.lasts (ws.take k)).last x.p x.l) := S.lasts_snoc ws k x hx
      clear h1 h2 hsrc hx hbv
      go_wp2_with fail
      rw [← hwv, ← hV]
      clear hwv hV d0 d1 d2
      have q3 : ∀ t : Kept wv [], t.u.cell? ⟨b.n.D, 3, none⟩ = some (.func (.func 52) #[] #[]) := fun t => by rw [(HAv.out.turns t.h (by simp)).rD.cell]; rfl
      have q1 : ∀ t : Kept wv [], t.u.cell? ⟨V, 1, none⟩ = some (.int .i64 (x.p : Int)) := fun t => by rw [(t.h.row HRV.out (by simp)).cell]; rfl
      (refine wp_region_noPanic ?_; refine region_treeW (fun u => ∃ t : Kept wv [], u = t.u) (Tn.takes [0, 1, 2, 3, 4, 5] (.one 6 .nil)) (by kernel_rfl) (by kernel_rfl) (fun _ _ _ _ _ h => h) ⟨⟨_, Turns.of_below (Below.refl _ _).drew _⟩, rfl⟩ ?_; simp only [Tn.takes])
      (repeat ((with_reducible refine wpTree_take (by with_unfolding_all exact rfl) ?_); (with_reducible (show wpQuiet _ _ _ _ (_ :: _) _)); go_big_quiet_step (fail); (with_reducible refine wpQuiet_nil ?_)))
      clear q3 q1
      (with_reducible refine wpTree_one (by with_unfolding_all exact rfl) ?_)
      gi_wp2_with fail
      (first | refine ⟨trivial, ((callsIn_wide (n := 8)).2 (seen_any _ _)).mono ?_⟩ | refine ((callsIn_wide (n := 8)).2 (seen_any _ _)).mono ?_)
      rintro e w4 ⟨rfl, rfl⟩
      gi_wp2_with fail
      ((with_reducible refine outQ_normal ?_ ?_); exact ⟨⟨_, (Turns.refl _ _).drew⟩, rfl⟩)
      with_reducible refine wpTree_nil ?_
      refine NoPanic.normal ?_
      have HA4 := Lib.hid HAv.out.drew
      have HT4 : Hid (Turns w wv.drew [b.LB, b.wm]) := HTv.out.drew
      have HRV4 : Hid (Row wv.drew V 166 #[.int .i64 x.a, .int .i64 (x.p : Int), .slice x.A x.l.length x.n]) := HRV.out.drewN 1
      clear HAv HTv HRV
      generalize wv.drew = y at *
      have hDL : b.n.D ≠ b.LB := by obtain ⟨dv, hd, _⟩ := HA4.out.lb; exact HA4.out.rD.ne_type hd (by decide)
      have hVL : V ≠ b.LB := by obtain ⟨dv, hd, _⟩ := HA4.out.lb; exact HRV4.out.ne_type hd (by decide)
      have q1 : ∀ t : Kept y [b.LB], t.u.cell? ⟨b.n.D, 1, none⟩ = some (.slice (some ⟨b.LB, 0, none⟩) (totalI c).toNat (totalI c).toNat) := fun t => by rw [(t.h.row HA4.out.rD (by simp; exact hDL)).cell]; rfl
      have q2 : ∀ t : Kept y [b.LB], t.u.cell? ⟨V, 1, none⟩ = some (.int .i64 (x.p : Int)) := fun t => by rw [(t.h.row HRV4.out (by simp; exact hVL)).cell]; rfl
      have q3 : ∀ t : Kept y [b.LB], t.u.cell? ⟨V, 2, none⟩ = some (.slice x.A x.l.length x.n) := fun t => by rw [(t.h.row HRV4.out (by simp; exact hVL)).cell]; rfl
      go_wp2
      (refine wp_region_noPanic ?_; refine region_treeW (fun u => ∃ t : Kept y [b.LB], u = t.u) (Tn.takes [0, 1, 2, 3, 4, 5, 6, 7] (.one 8 (Tn.takes [9] (.one 10 .nil)))) (by kernel_rfl) (by kernel_rfl) (fun _ _ _ _ _ h => h) ⟨⟨_, Turns.of_below (Below.refl _ _).drew _⟩, rfl⟩ ?_; simp only [Tn.takes])
      (repeat ((with_reducible refine wpTree_take (by with_unfolding_all exact rfl) ?_); (with_reducible (show wpQuiet _ _ _ _ (_ :: _) _)); go_big_quiet_step (fail); (with_reducible refine wpQuiet_nil ?_)))
      clear q1 q2 q3
      (with_reducible refine wpTree_one (by with_unfolding_all exact rfl) ?_)
      gi_wp2_with fail
      have hsrcY : Src y.drew 1 x.A x.l.length (intsV .u8 x.l) := (HW.out y.drew HT4.out.drew k x HX.out).2
      (first | refine ⟨trivial, ((callsIn_wide (n := 8)).2 (Vca.CloneB_any x.A x.l.length x.n (intsV .u8 x.l) (by have := hxl.1; have := HS2.out.2.1; unfold reachBytes; omega) y.drew hsrcY (intsV_one .u8 x.l))).mono ?_⟩ | refine ((callsIn_wide (n := 8)).2 (Vca.CloneB_any x.A x.l.length x.n (intsV .u8 x.l) (by have := hxl.1; have := HS2.out.2.1; unfold reachBytes; omega) y.drew hsrcY (intsV_one .u8 x.l))).mono ?_)
      rintro e w5 ⟨A', c', rfl, ho, hb⟩
      have hb5 : Below y.heap.size y w5 := (Below.refl _ _).drew.trans hb
      have HB5 := Lib.hid hb5
      have HO5 : Hid (w5.ownsRow y.heap.size 5 1 (.slice A' x.l.length c') x.l.length (intsV .u8 x.l)) := ho
      clear hb ho hsrcY hb5
      gi_wp2_with fail
      ((with_reducible refine outQ_normal ?_ ?_); exact ⟨⟨_, Turns.of_below HB5.out _⟩, rfl⟩)
      (repeat ((with_reducible refine wpTree_take (by with_unfolding_all exact rfl) ?_); (with_reducible (show wpQuiet _ _ _ _ (_ :: _) _)); go_big_quiet_step (fail); (with_reducible refine wpQuiet_nil ?_)))
      (with_reducible refine wpTree_one (by with_unfolding_all exact rfl) ?_)
      obtain ⟨dv, hd, hh⟩ := (HA4.out.below HB5.out).lb
      have hdc : w5.cell? ⟨b.LB, x.p, none⟩ = some (dv x.p) := by rw [hd.cell]; simp [hxp]
      have hdf := hd.frozen x.p
      have HA5 := Lib.hid (HA4.out.below HB5.out)
      have HD := Lib.hid (And.intro hd hh)
      have HT5 : Hid (Turns w w5 [b.LB, b.wm]) := HT4.out.then_below HB5.out
      clear hd hh
      gi_wp2_with fail
      ((with_reducible refine outQ_normal ?_ ?_); exact ⟨⟨_, ((Turns.of_below HB5.out _).setCell (by simp) _)⟩, rfl⟩)
      with_reducible refine wpTree_nil ?_
      refine NoPanic.normal ?_
      have hRV5 := HRV4.out.below HB5.out HRV4.out.lt
      have hTs : Turns w5 (w5.setCell ⟨b.LB, x.p, none⟩ (.slice A' x.l.length c')) [b.LB] := (Turns.refl _ _).setCell (by simp) _
      have HRV6 := Lib.hid (hTs.row hRV5 (by simp; exact hVL))
      have HT6 : Hid (Turns w (w5.setCell ⟨b.LB, x.p, none⟩ (.slice A' x.l.length c')) [b.LB, b.wm]) := HT5.out.trans hTs (by simp)
      have HA6 : Hid (AbIs (w5.setCell ⟨b.LB, x.p, none⟩ (.slice A' x.l.length c')) b T (F1 ++ Vca.blk A') c { S.lasts (ws.take k) with has := fun q => if q = x.p then some x.l else (S.lasts (ws.take k)).has q }) := by
        have hA' : ∀ g', (Value.slice A' x.l.length c').ownBlock = some g' → g' ∈ Vca.blk A' ∧ y.heap.size ≤ g' ∧ g' < w5.heap.size := fun g' hg => by
          have h1 := World.ownsRow.lt HO5.out g' hg
          refine ⟨?_, h1.1, h1.2⟩
          cases A' with
          | none => cases hg
          | some a => simp [Value.ownBlock] at hg; simp [Vca.blk]; exact hg.symm
        have hblk : ∀ k ∈ Vca.blk A', y.heap.size ≤ k ∧ k < w5.heap.size := fun k hk => by
          cases A' with
          | none => cases hk
          | some a =>
            have : (Value.slice (some a) x.l.length c').ownBlock = some k := by simp [Vca.blk] at hk; simp [Value.ownBlock, hk]
            exact (hA' k this).2
        have hdat : Dat w5 (F1 ++ Vca.blk A') (.slice A' x.l.length c') x.l := ⟨hxl.2, by have := hxl.1; have := HS2.out.2.1; unfold reachBytes; omega, own_mono HO5.out (Nat.zero_le _), fun g' hg => List.mem_append.2 (.inr (hA' g' hg).1)⟩
        have hLn : ∀ k ∈ [b.LB], k ∉ F1 ++ Vca.blk A' := fun k hk hm => by
          obtain rfl := List.mem_singleton.1 hk
          have hLT : b.LB ∈ T := HA4.out.inT _ (by simp [Bn.ts])
          rcases List.mem_append.1 hm with hm | hm
          · exact HA4.out.TF _ hLT hm
          · have := (hblk _ hm).1; have := HA4.out.Tlt _ hLT; omega
        refine HA5.out.lbs hTs ⟨fun q => if q = x.p then .slice A' x.l.length c' else dv q, ?_, fun q hq => ?_⟩ { HA5.out.ok with hasLt := fun q l hq => ?_ } (fun k hk => List.mem_append.2 (.inl hk)) (fun k hk hm => ?_) (fun k hk => ?_)
        · have := HD.out.1.put x.p (.slice A' x.l.length c')
          have e : (((List.range (totalI c).toNat).map dv).toArray).setIfInBounds x.p (.slice A' x.l.length c') = ((List.range (totalI c).toNat).map fun q => if q = x.p then .slice A' x.l.length c' else dv q).toArray := by
            apply Array.ext
            · simp
            · intro i h1 h2
              by_cases hi : i = x.p
              · subst hi; simp
              · simp [Array.getElem_setIfInBounds, hi, Ne.symm hi]
          rwa [e] at this
        · by_cases he : q = x.p
          · simp only [if_pos he]
            exact ⟨hdat.turns hTs hLn, hxl.1⟩
          · simp only [if_neg he]
            exact ((HD.out.2 q hq).mono (fun k hk => List.mem_append.2 (.inl hk))).turns hTs hLn
        · by_cases he : q = x.p
          · subst he; exact HS2.out.1 _ hxp
          · simp only [if_neg he] at hq; exact HA5.out.ok.hasLt q l hq
        · rcases List.mem_append.1 hm with hm | hm
          · exact HA4.out.TF k hk hm
          · have := (hblk _ hm).1; have := HA4.out.Tlt k hk; omega
        · rcases List.mem_append.1 hk with hk | hk
          · exact Nat.lt_of_lt_of_le (HA5.out.Flt k hk) hTs.size
          · exact Nat.lt_of_lt_of_le (hblk k hk).2 hTs.size
      have HF6 : Hid ((∀ k ∈ F, k ∈ F1 ++ Vca.blk A') ∧ ∀ k ∈ F1 ++ Vca.blk A', k ∈ F ∨ w.heap.size ≤ k) := by
        refine ⟨fun k hk => List.mem_append.2 (.inl (h3 k hk)), fun k hk => ?_⟩
        rcases List.mem_append.1 hk with hk | hk
        · exact h4 k hk
        · right
          have h1 : (Value.slice A' x.l.length c').ownBlock = some k := by
            cases A' with
            | none => cases hk
            | some a => simp [Vca.blk] at hk; simp [Value.ownBlock, hk]
          have := (World.ownsRow.lt HO5.out k h1).1
          have := HT4.out.size
          omega
      clear hdc hdf HD HA5 HT5 HO5 HB5 HA4 HT4 HRV4 hRV5 hTs h3 h4
      generalize w5.setCell ⟨b.LB, x.p, none⟩ (.slice A' x.l.length c') = z at *
      obtain ⟨w7, hdel, hA7, hT7⟩ := HA6.out.drew.unwas x.p (by have := HS2.out.2.2 _ hxp; omega)
      have hwD : b.n.D ≠ b.wm := by
        intro e
        obtain ⟨m, f, hm, _⟩ := HA6.out.wm
        obtain ⟨es, cl, he, _⟩ := hm
        have hr := HA6.out.rD
        rw [e] at hr
        rw [show z.heap[b.wm]? = some (.cells _ _ (0, 0)) from hr] at he
        cases he
      have hwV : V ≠ b.wm := by
        intro e
        obtain ⟨m, f, hm, _⟩ := HA6.out.wm
        obtain ⟨es, cl, he, _⟩ := hm
        have hr := HRV6.out
        rw [e] at hr
        rw [show z.heap[b.wm]? = some (.cells _ _ (0, 0)) from hr] at he
        cases he
      have q1 : ∀ t : Kept z [b.wm], t.u.cell? ⟨b.n.D, 2, none⟩ = some (.map (some b.wm)) := fun t => by rw [(t.h.row HA6.out.rD (by simp; exact hwD)).cell]; rfl
      have q2 : ∀ t : Kept z [b.wm], t.u.cell? ⟨V, 1, none⟩ = some (.int .i64 (x.p : Int)) := fun t => by rw [(t.h.row HRV6.out (by simp; exact hwV)).cell]; rfl
      have HA7 := Lib.hid hA7
      have HT7 := Lib.hid hT7
      clear hA7 hT7 HRV6 hwD hwV hDL hVL
      go_wp2
      (refine wp_region_noPanic ?_; refine region_treeW (fun u => ∃ t : Kept z [b.wm], u = t.u) (Tn.takes [0, 1, 2, 3, 4, 5] (.one 6 .nil)) (by kernel_rfl) (by kernel_rfl) (fun _ _ _ _ _ h => h) ⟨⟨_, Turns.of_below (Below.refl _ _).drew _⟩, rfl⟩ ?_; simp only [Tn.takes])
      (repeat ((with_reducible refine wpTree_take (by with_unfolding_all exact rfl) ?_); (with_reducible (show wpQuiet _ _ _ _ (_ :: _) _)); go_big_quiet_step (fail); (with_reducible refine wpQuiet_nil ?_)))
      clear q1 q2
      (with_reducible refine wpTree_one (by with_unfolding_all exact rfl) ?_)
      gi_wp2_with fail
      ((with_reducible refine outQ_normal ?_ ?_); exact ⟨⟨_, ((Turns.refl z [b.wm]).drew.trans HT7.out (by simp))⟩, rfl⟩)
      with_reducible refine wpTree_nil ?_
      refine NoPanic.normal ?_
      have HR : Hid (AbIs w7 b T (F1 ++ Vca.blk A') c (S.lasts (ws.take (k + 1))) ∧ Turns w w7 [b.LB, b.wm]) := by
        refine ⟨?_, ((HT6.out.drew).trans HT7.out (by simp))⟩
        rw [HS1.out]
        exact HA7.out
      clear hdel HA6 HT6 HA7 HT7
      go_wp2
      go_roundw
      case rel => exact ⟨k + 1, by omega, by go_num, _, HR.out.1, HR.out.2, HF6.out.1, HF6.out.2⟩
      case measure => simp [intOf]; omega
    · have hkn : k = n := by omega
      have HF : Hid (AbIs wr b T F1 c (S.lasts ws) ∧ Turns w wr [b.LB, b.wm]) := ⟨by rw [hkn, HN.out, List.take_length] at h1; exact h1, h2⟩
      have HQ := Lib.hid (And.intro h3 h4)
      clear h1 h2 h3 h4 hkn
      go_wp2
      go_ret
      exact ⟨rfl, F1, HF.out.1, HF.out.2, HQ.out.1, HQ.out.2⟩
end
end Go.Proofs.YtclhhdodebdmjaaGreat

namespace Go.Proofs.YtclhhdodebdmjaaGreat
open Go.RowKit Go.MapKept Go.ChangeMaps
set_option linter.unusedVariables false
set_option linter.unusedSimpArgs false
set_option maxRecDepth 100000

def Ab.drop (S : Ab) (a s : Int) : Ab := { S with q := S.q.filter fun x => !decide (x.a = a ∧ x.s = s) }
theorem drop_items (items : List Vca.It) (a s : Int) : (items.filter fun x => !Vca.dropP a s x).map kxOf = (items.map kxOf).filter fun x => !decide (x.a = a ∧ x.s = s) := by
  rw [List.filter_map]
  rfl
section
variable {w w' : World} {b : Bn} {T F : List Nat} {c : Cf} {S : Ab}
/-- The cache was turned. -/
theorem AbIs.cache (h : AbIs w b T F c S) {items' : List Vca.It} {A' : Option Addr} {cA' : Nat} {qg' : Int} {q' : List Kx} {T' F' : List Nat} (ht : Turns w w' (b.n.C :: b.mb :: Vca.blk b.A)) (hq : Vca.CHeld w' 0 b.n.C b.mb c.cache.toNat A' cA' items' qg') (he : items'.map kxOf = q') (hqF : ∀ x ∈ items', ∀ g ∈ Vca.blk x.A, g ∈ F')
    (hok : AbOk c { S with q := q', qg := qg' }) (hFF : ∀ k ∈ F, k ∈ F') (hTT : ∀ k ∈ T, k ∈ T') (hA : ∀ k ∈ Vca.blk A', k ∈ T') (hTF : ∀ k ∈ T', k ∉ F') (hTl : ∀ k ∈ T', k < w'.heap.size) (hFl : ∀ k ∈ F', k < w'.heap.size) : AbIs w' { b with A := A', cA := cA' } T' F' c { S with q := q', qg := qg' } := by
  have hin : ∀ k ∈ b.n.C :: b.mb :: Vca.blk b.A, k ∈ T := fun k hk => h.inT k (by
    simp only [List.mem_cons] at hk
    rcases hk with rfl | rfl | hk
    · simp [Bn.ts]
    · simp [Bn.ts]
    · simp [Bn.ts, hk])
  have hF : ∀ k ∈ b.n.C :: b.mb :: Vca.blk b.A, k ∉ F := fun k hk => h.TF k (hin k hk)
  obtain ⟨items, hq0, he0, hqF0⟩ := h.q
  obtain ⟨dv, hd, hh⟩ := h.lb
  obtain ⟨m, f, hm, hw⟩ := h.wm
  obtain ⟨xs, hx⟩ := h.wr
  obtain ⟨r, htb⟩ := h.tb
  have hrow : ∀ {g t cs}, Row w g t cs → t ≠ 247 → t ≠ 244 → g ∉ b.n.C :: b.mb :: Vca.blk b.A := fun {g t cs} hr h1 h2 hg => by
    simp only [List.mem_cons] at hg
    rcases hg with rfl | rfl | hg
    · exact hr.ne_type hq0.row h1 rfl
    · exact hq0.cnt.not_row _ _ hr
    · obtain ⟨_, cur, hr2⟩ := Vca.OwnI.block_row hq0.own _ hg
      exact hr.ne_type hr2 h2 rfl
  have hown : ∀ {B t sz n v xs}, w.ownsRow B t sz n v xs → t ≠ 247 → t ≠ 244 → ∀ g, n.ownBlock = some g → g ∉ b.n.C :: b.mb :: Vca.blk b.A := fun {B t sz n v xs} ho h1 h2 g hg => by
    rcases ho.2 with ⟨rfl, _⟩ | ⟨g', cap, cur, rfl, hB, hl, _⟩
    · cases hg
    · injection hg with hg; subst hg
      exact hrow hl h1 h2
  have hwm : b.wm ∉ b.n.C :: b.mb :: Vca.blk b.A := fun hg => by
    have hnr : ∀ t cs, ¬ Row w b.wm t cs := fun t cs hr => by
      obtain ⟨es, cl, he, _⟩ := hm
      rw [show w.heap[b.wm]? = some (.cells cs t (0, 0)) from hr] at he
      cases he
    simp only [List.mem_cons] at hg
    rcases hg with e | e | hg
    · exact hnr _ _ (e ▸ hq0.row)
    · exact h.mw e.symm
    · obtain ⟨_, cur, hr2⟩ := Vca.OwnI.block_row hq0.own _ hg
      exact hnr _ _ hr2
  refine ⟨hok, ht.row h.rM (hrow h.rM (by decide) (by decide)), ht.row h.rE (hrow h.rE (by decide) (by decide)), ht.row h.rD (hrow h.rD (by decide) (by decide)), ht.row h.ph (hrow h.ph (by decide) (by decide)), ht.row h.rg (hrow h.rg (by decide) (by decide)), h.gd.turns ht (hrow h.gd.row (by decide) (by decide)) (hown h.gd.own (by decide) (by decide) _ rfl),
    ⟨r, ht.row htb (hrow htb (by decide) (by decide))⟩, ht.row h.kk (hrow (show Row w b.n.K 251 (kRow c.rpa S.K) from h.kk) (by decide) (by decide)), ⟨items', hq, he, hqF⟩, ⟨dv, ht.row hd (hrow hd (by decide) (by decide)), fun p hp => ((hh p hp).turns ht hF).mono hFF⟩,
    ⟨m, f, hm.turns ht hwm, (hw.turns ht hF).mono hFF⟩, ht.own h.nx (hown h.nx (by decide) (by decide)), ⟨xs, ht.own hx (hown hx (by decide) (by decide))⟩, fun k hk => ?_, hTF, hTl, hFl, h.mw⟩
  have : k ∈ b.ts ∨ k ∈ Vca.blk A' := by
    simp only [Bn.ts, List.mem_append, List.mem_cons, List.not_mem_nil, or_false] at hk ⊢
    rcases hk with hk | hk | hk | hk
    · exact .inl (.inl hk)
    · exact .inr hk
    · exact .inl (.inr (.inr (.inl hk)))
    · exact .inl (.inr (.inr (.inr hk)))
  rcases this with hk | hk
  · exact hTT k (h.inT k hk)
  · exact hA k hk
/-- The cache's own blocks. -/
def Bn.cq (b : Bn) : List Nat := b.n.C :: b.mb :: Vca.blk b.A
theorem AbIs.cqT (h : AbIs w b T F c S) : ∀ k ∈ b.cq, k ∈ T := fun k hk => h.inT k (by
  simp only [Bn.cq, List.mem_cons] at hk
  rcases hk with rfl | rfl | hk
  · simp [Bn.ts]
  · simp [Bn.ts]
  · simp [Bn.ts, hk])
theorem AbIs.Ecq (h : AbIs w b T F c S) : b.E ∉ b.cq := fun hg => by
  obtain ⟨items, hq0, _, _⟩ := h.q
  have hr := h.rE
  simp only [Bn.cq, List.mem_cons] at hg
  rcases hg with e | e | hg
  · exact hr.ne_type hq0.row (by decide) e
  · exact hq0.cnt.not_row _ _ (e ▸ hr)
  · obtain ⟨_, cur, hr2⟩ := Vca.OwnI.block_row hq0.own _ hg
    exact hr.ne_type hr2 (by decide) rfl
theorem drop_any (h : AbIs w b T F c S) (a s : Int) (ha : Vca.W64 a) (hs : Vca.W64 s) : Calls Tryz.prog 109 #[.pointer (some ⟨b.n.C, 0, none⟩), .int .i64 a, .int .i64 s] w fun e w' => (∃ k, e = .returned (.bool k)) ∧ AbIs w' b T F c (S.drop a s) ∧ Turns w w' b.cq := by
  obtain ⟨items, hq, he, hqF⟩ := h.q
  refine (Vca.Drop_any 0 b.n.C b.mb c.cache.toNat b.cA b.A items S.qg a s w hq ha hs).mono fun e w' ⟨h1, h2, h3⟩ => ⟨⟨_, h1⟩, ?_, ?_⟩
  · have hsub : ∀ x ∈ S.q.filter (fun x => !decide (x.a = a ∧ x.s = s)), x ∈ S.q := fun x hx => (List.mem_filter.1 hx).1
    exact h.cache h3 h2 (by rw [drop_items, he]) (fun x hx k hk => hqF x (List.mem_filter.1 hx).1 k hk) { h.ok with
      qlen := by
        have := h.ok.qlen
        have h5 := List.length_filter_le (fun x : Kx => !decide (x.a = a ∧ x.s = s)) S.q
        show ((S.q.filter _).length : Int) ≤ c.cache
        omega
      qok := fun x hx => h.ok.qok x (hsub x hx) } (fun k hk => hk) (fun k hk => hk) (fun k hk => h.inT k (by simp [Bn.ts, hk])) h.TF (fun k hk => Nat.lt_of_lt_of_le (h.Tlt k hk) h3.size) (fun k hk => Nat.lt_of_lt_of_le (h.Flt k hk) h3.size)
  · exact h3
end
end Go.Proofs.YtclhhdodebdmjaaGreat

namespace Go.Proofs.YtclhhdodebdmjaaGreat
open Go.RowKit Go.MapKept Go.ChangeMaps
set_option linter.unusedVariables false
set_option linter.unusedSimpArgs false
set_option maxRecDepth 100000

theorem mt_Last (D M : Nat) (w : World) : (Go.method 495 133 (.agg #[.pointer (some ⟨D, 0, none⟩), .pointer (some ⟨M, 0, none⟩)]) "Last").run Tryz.prog w = .ok (319, .pointer (some ⟨D, 0, none⟩)) w := by kernel_rfl
theorem nl_Last (D M : Nat) (w : World) : (nilAhead 495 133 (.agg #[.pointer (some ⟨D, 0, none⟩), .pointer (some ⟨M, 0, none⟩)]) "Last").run Tryz.prog w = .ok (some false) w := by kernel_rfl
section
variable {w : World} {b : Bn} {T F : List Nat} {c : Cf} {S : Ab}
theorem put_guarded (h : AbIs w b T F c S) (s p : Nat) (hp : placeI c S.now S.e.area (s : Int) = some (p : Int)) (hg : guardedB c S S.e.area p = true) (v : Value) :
    Calls Tryz.prog 45 #[.pointer (some ⟨b.E, 0, none⟩), .int .i64 s, v] w fun e w' => e = .returned (.int .u8 237) ∧ AbIs w' b T F c (S.raise 67108864) ∧ Turns w w' [b.n.T, b.E] := by
  have HPw : placeW c S.now S.e.area (s : Int) = .tuple #[.int .i64 (p : Int), .bool true] := by unfold placeW; rw [hp]; rfl
  have HH := Lib.hid h
  have hET : b.E ≠ b.n.T := by obtain ⟨r, htb⟩ := h.tb; exact h.rE.ne_type htb (by decide)
  have hpb : (p : Int) ≤ 17152 ∧ p < (totalI c).toNat := by
    unfold placeI at hp
    split at hp
    · rename_i hc
      injection hp with hp
      have h1 := firstV_bd h.ok.cfg.1 h.ok.now S.e.area.toNat
      have h2 : sizeI c S.now S.e.area ≤ sizeV c S.now S.e.area.toNat := by
        unfold sizeI; split
        · omega
        · have := sizeV_bd h.ok.cfg.1 h.ok.now S.e.area.toNat; omega
      have h3 : totalI c ≤ 17152 := by
        have hu := h.ok.cfg.1.user; have hb := h.ok.cfg.1.boot; have hr := h.ok.cfg.1.rpa
        unfold totalI; omega
      omega
    · cases hp
  have hPl := Lib.hid (Place_any b.n.T c S.set S.now h.ok.cfg h.ok.now S.e.area s w.drew h.drew.tb)
  rw [HPw] at hPl
  have q1 : ∀ t : Kept w [b.n.T], t.u.cell? ⟨b.E, 13, none⟩ = some (.pointer (some ⟨b.n.T, 0, none⟩)) := fun t => by rw [(t.h.row HH.out.rE (by simp; exact hET)).cell]; rfl
  have q2 : ∀ t : Kept w [b.n.T], t.u.cell? ⟨b.E, 22, none⟩ = some (.int .i64 S.e.area) := fun t => by rw [(t.h.row HH.out.rE (by simp; exact hET)).cell]; rfl
  have HP := Lib.hid hp
  clear h hp HPw
  go_enter Tryz.func45, Tryz.ntmps45
  go_wp2_with fail
  (refine wp_region_noPanic ?_; refine region_treeW (fun u => ∃ t : Kept w [b.n.T], u = t.u) (Tn.takes [0, 1, 2, 3, 4, 5, 6, 7, 8] (.one 9 (Tn.takes [10, 11, 12, 13, 14] .nil))) (by kernel_rfl) (by kernel_rfl) (fun _ _ _ _ _ h => h) ⟨⟨_, Turns.of_below (Below.refl _ _).drew _⟩, rfl⟩ ?_; simp only [Tn.takes])
  (repeat ((with_reducible refine wpTree_take (by with_unfolding_all exact rfl) ?_); (with_reducible (show wpQuiet _ _ _ _ (_ :: _) _)); go_big_quiet_step (fail); (with_reducible refine wpQuiet_nil ?_)))
  clear q1 q2
  (with_reducible refine wpTree_one (by with_unfolding_all exact rfl) ?_)
  gi_wp2_with fail
  (first | refine ⟨trivial, ((callsIn_wide (n := 8)).2 (hPl.out)).mono ?_⟩ | refine ((callsIn_wide (n := 8)).2 (hPl.out)).mono ?_)
  rintro e w1 ⟨rfl, htb, ht⟩
  have HT1 : Hid (Turns w w1 [b.n.T]) := (Turns.refl w [b.n.T]).drew.trans ht (by simp)
  have hA1 : AbIs w1 b T F c S := HH.out.drew.tabl ht htb HH.out.ok
  have HA1 := Lib.hid hA1
  have HG := Lib.hid (guarded_any hA1 S.e.area p (by omega))
  have e22 := hA1.xArea
  clear htb ht hA1 hPl
  gi_wp2_with fail
  ((with_reducible refine outQ_normal ?_ ?_); exact ⟨⟨_, HT1.out⟩, rfl⟩)
  (repeat ((with_reducible refine wpTree_take (by with_unfolding_all exact rfl) ?_); (with_reducible (show wpQuiet _ _ _ _ (_ :: _) _)); go_big_quiet_step (fail); (with_reducible refine wpQuiet_nil ?_)))
  with_reducible refine wpTree_nil ?_
  refine NoPanic.normal ?_
  go_wp2_with fail
  refine HG.out.mono ?_
  rintro e w2 ⟨rfl, hA2, ht2⟩
  rw [hg]
  have HA2 := Lib.hid hA2
  have HT2 : Hid (Turns w w2 [b.n.T]) := HT1.out.trans ht2 (by simp)
  clear hA2 ht2 HG HA1 HT1 e22
  have HR := Lib.hid (raise_any HA2.out 67108864 (by omega))
  go_wp2_with fail
  refine HR.out.mono ?_
  rintro e w3 ⟨rfl, hA3, ht3⟩
  have HF : Hid (AbIs w3 b T F c (S.raise 67108864) ∧ Turns w w3 [b.n.T, b.E]) := ⟨hA3, (HT2.out.mono (by simp)).trans ht3 (by simp)⟩
  clear HR hA3 ht3 HA2 HT2
  go_wp2
  go_ret
  exact ⟨rfl, HF.out⟩
theorem put_direct (h : AbIs w b T F c S) (s p : Nat) (hp : placeI c S.now S.e.area (s : Int) = some (p : Int)) (hg : guardedB c S S.e.area p = false) (hc : S.V 1 ≠ 1) (A0 : Option Addr) (nb : Nat) (l : List Nat) (hl : (l.length : Int) = c.sector) (h256 : ∀ x ∈ l, x < 256) (hsrc : ∀ W, Turns w W T → Src W 1 A0 l.length (intsV .u8 l)) (hs : s ≤ 20000) :
    Calls Tryz.prog 45 #[.pointer (some ⟨b.E, 0, none⟩), .int .i64 s, .slice A0 l.length nb] w fun e w' => e = .returned (.int .u8 229) ∧ ∃ b' T' F', AbIs w' b' T' F' c ((S.last p l).drop S.e.area s) ∧ b'.E = b.E ∧ b'.n = b.n ∧ Turns w w' T ∧ (∀ k ∈ T, k ∈ T') ∧ (∀ k ∈ T', k ∈ T ∨ w.heap.size ≤ k) ∧ ∀ k ∈ F', k ∈ F ∨ w.heap.size ≤ k := by
  have HSrc := Lib.hid hsrc
  have hnT : b.n.T ∈ T := h.inT _ (by simp [Bn.ts])
  have hl4 : l.length ≤ 448 := by have := h.ok.cfg.1.sector; omega
  have HL := Lib.hid (And.intro hl h256)
  clear hsrc hl h256
  have HPw : placeW c S.now S.e.area (s : Int) = .tuple #[.int .i64 (p : Int), .bool true] := by unfold placeW; rw [hp]; rfl
  have HH := Lib.hid h
  have hET : b.E ≠ b.n.T := by obtain ⟨r, htb⟩ := h.tb; exact h.rE.ne_type htb (by decide)
  have hpb : (p : Int) ≤ 17152 ∧ p < (totalI c).toNat := by
    unfold placeI at hp
    split at hp
    · rename_i hc
      injection hp with hp
      have h1 := firstV_bd h.ok.cfg.1 h.ok.now S.e.area.toNat
      have h2 : sizeI c S.now S.e.area ≤ sizeV c S.now S.e.area.toNat := by
        unfold sizeI; split
        · omega
        · have := sizeV_bd h.ok.cfg.1 h.ok.now S.e.area.toNat; omega
      have h3 : totalI c ≤ 17152 := by
        have hu := h.ok.cfg.1.user; have hb := h.ok.cfg.1.boot; have hr := h.ok.cfg.1.rpa
        unfold totalI; omega
      omega
    · cases hp
  have hPl := Lib.hid (Place_any b.n.T c S.set S.now h.ok.cfg h.ok.now S.e.area s w.drew h.drew.tb)
  rw [HPw] at hPl
  have q1 : ∀ t : Kept w [b.n.T], t.u.cell? ⟨b.E, 13, none⟩ = some (.pointer (some ⟨b.n.T, 0, none⟩)) := fun t => by rw [(t.h.row HH.out.rE (by simp; exact hET)).cell]; rfl
  have q2 : ∀ t : Kept w [b.n.T], t.u.cell? ⟨b.E, 22, none⟩ = some (.int .i64 S.e.area) := fun t => by rw [(t.h.row HH.out.rE (by simp; exact hET)).cell]; rfl
  have HP := Lib.hid hp
  clear h hp HPw
  go_enter Tryz.func45, Tryz.ntmps45
  go_wp2_with fail
  (refine wp_region_noPanic ?_; refine region_treeW (fun u => ∃ t : Kept w [b.n.T], u = t.u) (Tn.takes [0, 1, 2, 3, 4, 5, 6, 7, 8] (.one 9 (Tn.takes [10, 11, 12, 13, 14] .nil))) (by kernel_rfl) (by kernel_rfl) (fun _ _ _ _ _ h => h) ⟨⟨_, Turns.of_below (Below.refl _ _).drew _⟩, rfl⟩ ?_; simp only [Tn.takes])
  (repeat ((with_reducible refine wpTree_take (by with_unfolding_all exact rfl) ?_); (with_reducible (show wpQuiet _ _ _ _ (_ :: _) _)); go_big_quiet_step (fail); (with_reducible refine wpQuiet_nil ?_)))
  clear q1 q2
  (with_reducible refine wpTree_one (by with_unfolding_all exact rfl) ?_)
  gi_wp2_with fail
  (first | refine ⟨trivial, ((callsIn_wide (n := 8)).2 (hPl.out)).mono ?_⟩ | refine ((callsIn_wide (n := 8)).2 (hPl.out)).mono ?_)
  rintro e w1 ⟨rfl, htb, ht⟩
  have HT1 : Hid (Turns w w1 [b.n.T]) := (Turns.refl w [b.n.T]).drew.trans ht (by simp)
  have hA1 : AbIs w1 b T F c S := HH.out.drew.tabl ht htb HH.out.ok
  have HA1 := Lib.hid hA1
  have HG := Lib.hid (guarded_any hA1 S.e.area p (by omega))
  have e22 := hA1.xArea
  clear htb ht hA1 hPl
  gi_wp2_with fail
  ((with_reducible refine outQ_normal ?_ ?_); exact ⟨⟨_, HT1.out⟩, rfl⟩)
  (repeat ((with_reducible refine wpTree_take (by with_unfolding_all exact rfl) ?_); (with_reducible (show wpQuiet _ _ _ _ (_ :: _) _)); go_big_quiet_step (fail); (with_reducible refine wpQuiet_nil ?_)))
  with_reducible refine wpTree_nil ?_
  refine NoPanic.normal ?_
  go_wp2_with fail
  refine HG.out.mono ?_
  rintro e w2 ⟨rfl, hA2, ht2⟩
  rw [hg]
  have HA2 := Lib.hid hA2
  have HT2 : Hid (Turns w w2 [b.n.T]) := HT1.out.trans ht2 (by simp)
  clear hA2 ht2 HG HA1 HT1 e22
  have hT2 : Turns w w2 T := HT2.out.mono (fun k hk => by obtain rfl := List.mem_singleton.1 hk; exact hnT)
  have HC := Lib.hid (Vca.CloneB_any A0 l.length nb (intsV .u8 l) (by unfold reachBytes; omega) w2 (HSrc.out w2 hT2) (intsV_one .u8 l))
  have HT2' := Lib.hid hT2
  clear hT2 HSrc
  go_wp2_with fail
  refine HC.out.mono ?_
  rintro e w3 ⟨A3, n3, rfl, ho, hb⟩
  have HO3 := Lib.hid ho
  have HB3 := Lib.hid hb
  have hA3 := HA2.out.below hb
  have HA3 := Lib.hid hA3
  have e26 := hA3.xWr
  have f26 := hA3.rE.frozen 26
  obtain ⟨wb, hwb⟩ : ∃ wb, wb = w3.alloc (.cells #[.int .i64 0, .int .i64 (p : Int), .slice A3 l.length n3] 166) := ⟨_, rfl⟩
  obtain ⟨WB, hWB⟩ : ∃ WB, WB = w3.heap.size := ⟨_, rfl⟩
  have hbb : Below w3.heap.size w3 wb := by rw [hwb]; (repeat (first | (with_reducible refine Below.drew ?_) | (with_reducible refine below_drewN0 ?_ _) | ((with_reducible refine Below.setCell ?_ ?_ _); rotate_left; focus (first | omega | (simp; done) | (simp; omega) | (simp at *; omega))) | ((with_reducible refine Below.alloc ?_ ?_ _); rotate_left; focus (first | omega | (simp; done) | (simp; omega) | (simp at *; omega))) | (with_reducible exact Below.refl _ _)))
  have hRB : Row wb WB 166 #[.int .i64 0, .int .i64 (p : Int), .slice A3 l.length n3] := by rw [hwb, hWB]; exact Row.fresh _ _ _
  have hAb := hA3.below hbb
  have hEB : b.E ≠ WB := hAb.rE.ne_type hRB (by decide)
  have i26 := hAb.xWr
  have j26 := hAb.rE.frozen 26
  have i11 := hAb.xR
  rw [hwb] at i26 j26 i11
  have hTz : Turns wb (wb.setCell ⟨b.E, 26, none⟩ (.slice (some ⟨WB, 0, none⟩) 1 1)) [b.E] := (Turns.refl _ _).setCell (by simp) _
  have hRz := hTz.row hRB (by simpa using Ne.symm hEB)
  have hWBs : WB < wb.heap.size := hRB.lt
  have hWBw : w.heap.size ≤ WB := by rw [hWB]; have := HT2'.out.size; have := hb.size; omega
  have hown : (wb.setCell ⟨b.E, 26, none⟩ (.slice (some ⟨WB, 0, none⟩) 1 1)).ownsRow 0 166 3 (.slice (some ⟨WB, 0, none⟩) 1 1) 1 [.int .i64 0, .int .i64 (p : Int), .slice A3 l.length n3] :=
    ⟨rfl, .inr ⟨WB, 1, _, rfl, Nat.zero_le _, hRz, Nat.le_refl _, by unfold maxLen; omega, rfl, rfl⟩⟩
  have hWT : ∀ k ∈ T, k < WB := fun k hk => by have := HA3.out.Tlt k hk; omega
  have hWF : ∀ k ∈ F, k < WB := fun k hk => by have := HA3.out.Flt k hk; omega
  have hAz : AbIs (wb.setCell ⟨b.E, 26, none⟩ (.slice (some ⟨WB, 0, none⟩) 1 1)) { b with wr := some ⟨WB, 0, none⟩, nwr := 1, cwr := 1 } (WB :: T) F c S := by
    refine hAb.wrote hTz (hAb.rE.put 26 _) hown (fun k hk => List.mem_cons_of_mem _ hk) (fun k hk => by simp [Vca.blk] at hk; simp [hk]) (fun k hk hm => ?_) (fun k hk => ?_)
    · rcases List.mem_cons.1 hk with rfl | hk
      · have := hWF _ hm; omega
      · exact hAb.TF k hk hm
    · rcases List.mem_cons.1 hk with rfl | hk
      · exact Nat.lt_of_lt_of_le hWBs hTz.size
      · exact Nat.lt_of_lt_of_le (hAb.Tlt k hk) hTz.size
  have hTw : Turns w (wb.setCell ⟨b.E, 26, none⟩ (.slice (some ⟨WB, 0, none⟩) 1 1)) T := ((HT2'.out.then_below hb).then_below hbb).trans hTz (fun k hk => .inl (by obtain rfl := List.mem_singleton.1 hk; exact HA3.out.inT _ (by simp [Bn.ts])))
  have hOz : (wb.setCell ⟨b.E, 26, none⟩ (.slice (some ⟨WB, 0, none⟩) 1 1)).ownsRow w2.heap.size 5 1 (.slice A3 l.length n3) l.length (intsV .u8 l) := by
    have h1 := (Turns.of_below hbb []).own ho (by simp)
    refine hTz.own h1 (fun g hg hm => ?_)
    obtain rfl := List.mem_singleton.1 hm
    have := (World.ownsRow.lt ho _ hg).1
    have h2 := HA2.out.rE.lt
    omega
  have HAz := Lib.hid hAz
  have HTw := Lib.hid hTw
  have HOz := Lib.hid hOz
  have HRz := Lib.hid hRz
  have HW := Lib.hid (And.intro hWT (And.intro hWF hWBw))
  have HA2s : Hid ((∀ k ∈ T, k < w2.heap.size) ∧ (∀ k ∈ F, k < w2.heap.size) ∧ w.heap.size ≤ w2.heap.size) := ⟨HA2.out.Tlt, HA2.out.Flt, HT2'.out.size⟩
  have hgv : getV S.V 1 = S.V 1 := by
    have : kindV 1 = 1 := by decide
    unfold getV; rw [this]; rfl
  have HGt := Lib.hid (Get_rg hAz.rg 1)
  rw [hgv] at HGt
  have hb1 : ((S.V 1 : Int) == 1) = false := by simp; omega
  clear e26 f26
  clear HC ho hb hA3 hAb hEB hTz hRz hWBs hWBw hown hWT hWF hAz hTw hOz hgv hbb hRB HA3 HB3 HO3
  go_wp2_with fail
  rw [← hwb, ← hWB]
  clear hwb hWB i26 j26 i11
  generalize wb.setCell ⟨b.E, 26, none⟩ (.slice (some ⟨WB, 0, none⟩) 1 1) = wz at *
  refine HGt.out.mono ?_
  rintro e w4 ⟨rfl, rfl⟩
  have hmt := mt_Last b.n.D b.n.M
  have hnl := nl_Last b.n.D b.n.M
  have hLT : b.LB ∈ T := HA2.out.inT _ (by simp [Bn.ts])
  have hwT : b.wm ∈ T := HA2.out.inT _ (by simp [Bn.ts])
  have hELB : b.E ≠ b.LB := by obtain ⟨dv, hd, _⟩ := HA2.out.lb; exact HA2.out.rE.ne_type hd (by decide)
  have hEwm : b.E ≠ b.wm := by
    intro e
    obtain ⟨m, f, hm, _⟩ := HA2.out.wm
    obtain ⟨es, cl, he, _⟩ := hm
    have hr := HA2.out.rE
    rw [e] at hr
    rw [show w2.heap[b.wm]? = some (.cells _ _ (0, 0)) from hr] at he
    cases he
  have hWs : WsAt w4 [b.LB, b.wm] (some ⟨WB, 0, none⟩) [⟨0, p, A3, n3, l⟩] := by
    intro W hW i x hx
    have hi : i = 0 ∧ x = ⟨0, p, A3, n3, l⟩ := by
      cases i with
      | zero => simp at hx; exact ⟨rfl, hx.symm⟩
      | succ i => simp at hx
    obtain ⟨rfl, rfl⟩ := hi
    have hrw := hW.row HRz.out (fun hm => by
      simp only [List.mem_cons, List.not_mem_nil, or_false] at hm
      rcases hm with e | e
      · have := HW.out.1 _ hLT; omega
      · have := HW.out.1 _ hwT; omega)
    refine ⟨⟨WB, 0, rfl, by rw [hrw.cell]; rfl, by rw [hrw.cell]; rfl, by rw [hrw.cell]; rfl⟩, Src.of_own (hW.own HOz.out (fun g hg hm => ?_))⟩
    have h1 := (World.ownsRow.lt HOz.out g hg).1
    simp only [List.mem_cons, List.not_mem_nil, or_false] at hm
    rcases hm with e | e
    · have := HA2s.out.1 _ hLT; omega
    · have := HA2s.out.1 _ hwT; omega
  have q1 : ∀ t : Kept w4 [b.LB, b.wm], t.u.cell? ⟨b.E, 10, none⟩ = some (.iface 133 (.agg #[.pointer (some ⟨b.n.D, 0, none⟩), .pointer (some ⟨b.n.M, 0, none⟩)])) := fun t => by rw [(t.h.row HAz.out.rE (by simp; exact ⟨hELB, hEwm⟩)).cell]; rfl
  have q2 : ∀ t : Kept w4 [b.LB, b.wm], t.u.cell? ⟨b.E, 26, none⟩ = some (.slice (some ⟨WB, 0, none⟩) 1 1) := fun t => by rw [(t.h.row HAz.out.rE (by simp; exact ⟨hELB, hEwm⟩)).cell]; rfl
  have HLast := Lib.hid (Last_any HAz.out.drew (some ⟨WB, 0, none⟩) 1 [⟨0, p, A3, n3, l⟩] (by simp) (fun x hx => by obtain rfl := List.mem_singleton.1 hx; exact hpb.2) (fun x hx => by obtain rfl := List.mem_singleton.1 hx; exact HL.out) (fun W hW => hWs W ((Turns.refl w4 _).drew.trans hW (by simp))))
  have h5w : Vca.W64 S.e.area := by have := HA2.out.ok.area; rw [Vca.W64.iff]; omega
  have h5s : Vca.W64 (s : Int) := by rw [Vca.W64.iff]; omega
  clear hWs HGt
  go_wp2
  (refine wp_region_noPanic ?_; refine region_treeW (fun u => ∃ t : Kept w4 [b.LB, b.wm], u = t.u) (Tn.takes [0, 1, 2, 3, 4, 5, 6, 7, 8, 9, 10] (.one 11 (.one 12 (Tn.takes [13] .nil)))) (by kernel_rfl) (by kernel_rfl) (fun _ _ _ _ _ h => h) ⟨⟨_, Turns.of_below (Below.refl _ _).drew _⟩, rfl⟩ ?_; simp only [Tn.takes])
  (repeat ((with_reducible refine wpTree_take (by with_unfolding_all exact rfl) ?_); (with_reducible (show wpQuiet _ _ _ _ (_ :: _) _)); go_big_quiet_step (fail); (with_reducible refine wpQuiet_nil ?_)))
  clear q1 q2
  (with_reducible refine wpTree_one (by with_unfolding_all exact rfl) ?_)
  gi_wp2_with fail
  (first | refine ⟨trivial, ((callsIn_wide (n := 8)).2 (HLast.out)).mono ?_⟩ | refine ((callsIn_wide (n := 8)).2 (HLast.out)).mono ?_)
  rintro e w5 ⟨rfl, F5, hA5, ht5, h5a, h5b⟩
  have HT5 : Hid (Turns w4 w5 [b.LB, b.wm]) := (Turns.refl w4 _).drew.trans ht5 (by simp)
  have HF5 : Hid ((∀ k ∈ F, k ∈ F5) ∧ ∀ k ∈ F5, k ∈ F ∨ w4.heap.size ≤ k) := ⟨h5a, h5b⟩
  have HA5 := Lib.hid hA5
  have HD := Lib.hid (drop_any hA5.drew S.e.area (s : Int) h5w h5s)
  have HEq : Hid (b.E ∉ b.cq ∧ ∀ k ∈ b.cq, k ∈ T) := ⟨HA2.out.Ecq, HA2.out.cqT⟩
  have hT0 : ∀ k ∈ T, k < w.heap.size := HH.out.Tlt
  clear HLast hA5 ht5 h5a h5b
  gi_wp2_with fail
  ((with_reducible refine outQ_normal ?_ ?_); exact ⟨⟨_, HT5.out⟩, rfl⟩)
  (repeat ((with_reducible refine wpTree_take (by with_unfolding_all exact rfl) ?_); (with_reducible (show wpQuiet _ _ _ _ (_ :: _) _)); go_big_quiet_step (fail); (with_reducible refine wpQuiet_nil ?_)))
  (with_reducible refine wpTree_one (by with_unfolding_all exact rfl) ?_)
  gi_wp2_with fail
  (first | refine ⟨trivial, ((callsIn_wide (n := 8)).2 (lasts_yes HA5.out)).mono ?_⟩ | refine ((callsIn_wide (n := 8)).2 (lasts_yes HA5.out)).mono ?_)
  rintro e w6 ⟨rfl, rfl⟩
  gi_wp2_with fail
  ((with_reducible refine outQ_normal ?_ ?_); exact ⟨⟨_, HT5.out⟩, rfl⟩)
  (repeat ((with_reducible refine wpTree_take (by with_unfolding_all exact rfl) ?_); (with_reducible (show wpQuiet _ _ _ _ (_ :: _) _)); go_big_quiet_step (fail); (with_reducible refine wpQuiet_nil ?_)))
  with_reducible refine wpTree_nil ?_
  refine NoPanic.normal ?_
  go_wp2
  have q1 : ∀ t : Kept w6 b.cq, t.u.cell? ⟨b.E, 15, none⟩ = some (.pointer (some ⟨b.n.C, 0, none⟩)) := fun t => by rw [(t.h.row HA5.out.rE HEq.out.1).cell]; rfl
  have q2 : ∀ t : Kept w6 b.cq, t.u.cell? ⟨b.E, 22, none⟩ = some (.int .i64 S.e.area) := fun t => by rw [(t.h.row HA5.out.rE HEq.out.1).cell]; rfl
  (refine wp_region_noPanic ?_; refine region_treeW (fun u => ∃ t : Kept w6 b.cq, u = t.u) (Tn.takes [0, 1, 2, 3, 4, 5, 6, 7, 8] (.one 9 .nil)) (by kernel_rfl) (by kernel_rfl) (fun _ _ _ _ _ h => h) ⟨⟨_, Turns.of_below (Below.refl _ _).drew _⟩, rfl⟩ ?_; simp only [Tn.takes])
  (repeat ((with_reducible refine wpTree_take (by with_unfolding_all exact rfl) ?_); (with_reducible (show wpQuiet _ _ _ _ (_ :: _) _)); go_big_quiet_step (fail); (with_reducible refine wpQuiet_nil ?_)))
  (with_reducible refine wpTree_one (by with_unfolding_all exact rfl) ?_)
  gi_wp2_with fail
  (first | refine ⟨trivial, ((callsIn_wide (n := 8)).2 (HD.out)).mono ?_⟩ | refine ((callsIn_wide (n := 8)).2 (HD.out)).mono ?_)
  rintro e w7 ⟨⟨kk, rfl⟩, hA7, ht7⟩
  have HT7 : Hid (Turns w6 w7 b.cq) := (Turns.refl w6 _).drew.trans ht7 (fun k hk => .inl hk)
  have HFin : Hid (∃ b' T' F', AbIs w7 b' T' F' c ((S.last p l).drop S.e.area ↑s) ∧ b'.E = b.E ∧ b'.n = b.n ∧ Turns w w7 T ∧ (∀ k ∈ T, k ∈ T') ∧ (∀ k ∈ T', k ∈ T ∨ w.heap.size ≤ k) ∧ ∀ k ∈ F', k ∈ F ∨ w.heap.size ≤ k) := by
    refine ⟨_, _, _, hA7, rfl, rfl, (HTw.out.trans HT5.out (fun k hk => .inl ?_)).trans HT7.out (fun k hk => .inl (HEq.out.2 k hk)), fun k hk => List.mem_cons_of_mem _ hk, fun k hk => ?_, fun k hk => ?_⟩
    · simp only [List.mem_cons, List.not_mem_nil, or_false] at hk
      rcases hk with rfl | rfl
      · exact hLT
      · exact hwT
    · rcases List.mem_cons.1 hk with rfl | hk
      · exact .inr HW.out.2.2
      · exact .inl hk
    · rcases HF5.out.2 k hk with hk | hk
      · exact .inl hk
      · have := HTw.out.size; exact .inr (by omega)
  have HA7 := Lib.hid hA7
  clear hA7 ht7 HD q1 q2
  gi_wp2_with fail
  ((with_reducible refine outQ_normal ?_ ?_); exact ⟨⟨_, HT7.out⟩, rfl⟩)
  with_reducible refine wpTree_nil ?_
  refine NoPanic.normal ?_
  go_wp2
  go_ret
  exact ⟨rfl, HFin.out⟩
end
end Go.Proofs.YtclhhdodebdmjaaGreat

namespace Go.Proofs.YtclhhdodebdmjaaGreat
open Go.RowKit Go.MapKept Go.ChangeMaps
set_option linter.unusedVariables false
set_option linter.unusedSimpArgs false
set_option maxRecDepth 100000

/-- The card is S' now; what lies elsewhere stands. -/
def Nx (w w' : World) (b : Bn) (T F : List Nat) (c : Cf) (S' : Ab) : Prop := ∃ b' T' F', AbIs w' b' T' F' c S' ∧ b'.E = b.E ∧ b'.n = b.n ∧ Turns w w' T ∧ (∀ k ∈ T, k ∈ T') ∧ (∀ k ∈ T', k ∈ T ∨ w.heap.size ≤ k) ∧ ∀ k ∈ F', k ∈ F ∨ w.heap.size ≤ k
section
variable {w w' w'' : World} {b : Bn} {T F : List Nat} {c : Cf} {S S' : Ab}
theorem Nx.of (h : AbIs w' b T F c S') {U : List Nat} (ht : Turns w w' U) (hU : ∀ k ∈ U, k ∈ T ∨ w.heap.size ≤ k) : Nx w w' b T F c S' :=
  ⟨b, T, F, h, rfl, rfl, (Turns.refl w T).trans ht hU, fun _ hk => hk, fun _ hk => .inl hk, fun _ hk => .inl hk⟩
theorem Nx.turns (h : Nx w w' b T F c S') : Turns w w' T := by obtain ⟨_, _, _, _, _, _, h, _⟩ := h; exact h
theorem Nx.after {b1 : Bn} {T1 F1 : List Nat} (ht : Turns w w' T) (hE : b1.E = b.E) (hn : b1.n = b.n) (hT : ∀ k ∈ T, k ∈ T1) (hTn : ∀ k ∈ T1, k ∈ T ∨ w.heap.size ≤ k) (hF : ∀ k ∈ F1, k ∈ F ∨ w.heap.size ≤ k) (h : Nx w' w'' b1 T1 F1 c S) : Nx w w'' b T F c S := by
  obtain ⟨b2, T2, F2, hA2, hE2, hn2, ht2, hT2, hTn2, hFn2⟩ := h
  have hs := ht.size
  refine ⟨b2, T2, F2, hA2, hE2.trans hE, hn2.trans hn, ht.trans ht2 hTn, fun k hk => hT2 k (hT k hk), fun k hk => ?_, fun k hk => ?_⟩
  · rcases hTn2 k hk with hk | hk
    · exact hTn k hk
    · exact .inr (by omega)
  · rcases hFn2 k hk with hk | hk
    · exact hF k hk
    · exact .inr (by omega)
/-- An engine's numbers and the sectors that it waits for are written, in place of the old ones. -/
theorem AbIs.nextB (h : AbIs w b T F c S) {e' : Es} {nx' : List Nat} {A' : Option Addr} {c' : Nat} {T' : List Nat} (ht : Turns w w' (b.E :: Vca.blk b.nx)) (hr : Row w' b.E 49 (abRow c { b with nx := A', cnx := c' } { S with e := e', next := nx' })) (hok : AbOk c { S with e := e', next := nx' }) (hnx : w'.ownsRow 0 3 1 (.slice A' nx'.length c') nx'.length (intsV .i64 nx')) (hT : ∀ k ∈ T, k ∈ T') (hA : ∀ k ∈ Vca.blk A', k ∈ T') (hTF : ∀ k ∈ T', k ∉ F) (hTl : ∀ k ∈ T', k < w'.heap.size) : AbIs w' { b with nx := A', cnx := c' } T' F c { S with e := e', next := nx' } := by
  have hU : RowsOf w (b.E :: Vca.blk b.nx) [49, 3] := fun k hk => by
    rcases List.mem_cons.1 hk with rfl | hk
    · exact ⟨_, _, h.rE, by simp⟩
    · rcases h.nx.2 with ⟨hz, _⟩ | ⟨g', cap, cur, hz, hB, hl, _⟩
      · injection hz with h1; rw [h1] at hk; simp [Vca.blk] at hk
      · injection hz with h1
        rw [h1] at hk; simp [Vca.blk] at hk; subst hk
        exact ⟨_, _, hl, by simp⟩
  have hin : ∀ k ∈ b.E :: Vca.blk b.nx, k ∈ T := fun k hk => h.inT k (by
    rcases List.mem_cons.1 hk with rfl | hk
    · simp [Bn.ts]
    · simp [Bn.ts, hk])
  have hF : ∀ k ∈ b.E :: Vca.blk b.nx, k ∉ F := fun k hk => h.TF k (hin k hk)
  obtain ⟨items, hq, he, hqF⟩ := h.q
  obtain ⟨dv, hd, hh⟩ := h.lb
  obtain ⟨m, f, hm, hw⟩ := h.wm
  obtain ⟨xs, hx⟩ := h.wr
  have hL : b.L ∉ b.E :: Vca.blk b.nx := hU.notOwn h.gd.own (by decide) _ rfl
  exact ⟨hok, hU.row ht h.rM (by decide), hr, hU.row ht h.rD (by decide), hU.row ht h.ph (by decide), hU.row ht h.rg (by decide), guard_rows hU ht h.gd (by decide) hL, h.tb.rows hU ht (by decide), hU.row ht h.kk (by decide), ⟨items, held_rows hU ht hq (by decide) (by decide) (fun x hx' k hk hm => hF k hm (hqF x hx' k hk)), he, hqF⟩, ⟨dv, hU.row ht hd (by decide), fun p hp => (hh p hp).turns ht hF⟩, ⟨m, f, hU.map ht hm, hw.turns ht hF⟩, hnx, ⟨xs, hU.own ht hx (by decide)⟩, fun k hk => by
    have : k ∈ b.ts ∨ k ∈ Vca.blk A' := by
      simp only [Bn.ts, List.mem_append, List.mem_cons, List.not_mem_nil, or_false] at hk ⊢
      rcases hk with hk | hk | hk | hk
      · exact .inl (.inl hk)
      · exact .inl (.inr (.inl hk))
      · exact .inr hk
      · exact .inl (.inr (.inr (.inr hk)))
    rcases this with hk | hk
    · exact hT k (h.inT k hk)
    · exact hA k hk, hTF, hTl, fun k hk => Nat.lt_of_lt_of_le (h.Flt k hk) ht.size, h.mw⟩
/-- The sectors that are waited for are replaced: the new row lies in the old block, or in a new one. -/
theorem nx_store (hA : AbIs w b T F c S) {w6 : World} (ht : Turns w w6 (Vca.blk b.nx)) (A6 : Option Addr) (c6 : Nat) (nx' : List Nat) (hown : w6.ownsRow 0 3 1 (.slice A6 nx'.length c6) nx'.length (intsV .i64 nx')) (h6 : ∀ k ∈ Vca.blk A6, k ∈ Vca.blk b.nx ∨ w.heap.size ≤ k) (hok : AbOk c { S with next := nx' }) (v : Value) (hv : v = .slice A6 nx'.length c6) :
    ∃ T', AbIs (w6.setCell ⟨b.E, 23, none⟩ v) { b with nx := A6, cnx := c6 } T' F c { S with next := nx' } ∧ Turns w (w6.setCell ⟨b.E, 23, none⟩ v) (b.E :: Vca.blk b.nx) ∧ (∀ k ∈ T, k ∈ T') ∧ ∀ k ∈ T', k ∈ T ∨ w.heap.size ≤ k := by
  subst hv
  have hnE : b.E ∉ Vca.blk b.nx := fun hm => by
    obtain ⟨_, cur, hr⟩ := Vca.own_blk hA.nx _ hm
    exact hA.rE.ne_type hr (by decide) rfl
  have hr6 := ht.row hA.rE hnE
  have ht7 : Turns w (w6.setCell ⟨b.E, 23, none⟩ (.slice A6 nx'.length c6)) (b.E :: Vca.blk b.nx) := (ht.mono (fun k hk => List.mem_cons_of_mem _ hk)).setCell (by simp) _
  have hin : ∀ k ∈ Vca.blk b.nx, k ∈ T := fun k hk => hA.inT k (by simp [Bn.ts, hk])
  have hn6 : ∀ k ∈ Vca.blk A6, k < (w6.setCell ⟨b.E, 23, none⟩ (.slice A6 nx'.length c6)).heap.size := fun k hk => by
    obtain ⟨_, cur, hr⟩ := Vca.own_blk hown _ hk
    have h1 := hr.lt
    have h2 := ((Turns.refl w6 [b.E]).setCell (p := ⟨b.E, 23, none⟩) (by simp) (.slice A6 nx'.length c6)).size
    omega
  refine ⟨T ++ Vca.blk A6, ?_, ht7, fun k hk => List.mem_append.2 (.inl hk), fun k hk => ?_⟩
  · refine hA.nextB (e' := S.e) ht7 (hr6.put 23 (.slice A6 nx'.length c6)) hok ?_ (fun k hk => List.mem_append.2 (.inl hk)) (fun k hk => List.mem_append.2 (.inr hk)) (fun k hk hm => ?_) (fun k hk => ?_)
    · refine ((Turns.refl w6 [b.E]).setCell (p := ⟨b.E, 23, none⟩) (by simp) _).own hown (fun g hg hm => ?_)
      obtain rfl := List.mem_singleton.1 hm
      have : b.E ∈ Vca.blk A6 := by
        cases A6 with
        | none => simp [Value.ownBlock] at hg
        | some a => simp [Value.ownBlock] at hg; simp [Vca.blk]; exact hg.symm
      obtain ⟨_, cur, hr⟩ := Vca.own_blk hown _ this
      exact hr6.ne_type hr (by decide) rfl
    · rcases List.mem_append.1 hk with hk | hk
      · exact hA.TF k hk hm
      · rcases h6 k hk with hk | hk
        · exact hA.TF k (hin k hk) hm
        · have := hA.Flt k hm; omega
    · rcases List.mem_append.1 hk with hk | hk
      · have := hA.Tlt k hk; have := ht7.size; omega
      · exact hn6 k hk
  · rcases List.mem_append.1 hk with hk | hk
    · exact .inl hk
    · rcases h6 k hk with hk | hk
      · exact .inl (hin k hk)
      · exact .inr hk
end
end Go.Proofs.YtclhhdodebdmjaaGreat

namespace Go.Proofs.YtclhhdodebdmjaaGreat
open Go.RowKit Go.MapKept Go.ChangeMaps
set_option linter.unusedVariables false
set_option linter.unusedSimpArgs false
set_option maxRecDepth 100000

def Ab.wr0 (S : Ab) (i : Int) : Ab := { S.many i with e := { (S.many i).e with area := ((S.V 0 : Nat) : Int), sure := (S.many i).e.rel, head := 0 }, next := [] }
def Ab.badW (c : Cf) (S : Ab) (i : Int) (arg : Nat) : Bool :=
  if (S.many i).e.pack then (decide (1 ≤ S.V 0) && decide (S.V 0 ≤ 3)) || decide (S.manyN i < 2)
  else if S.V 0 = 3 then decide (S.manyN i ≠ 1)
  else !insideB c S ((S.V 0 : Nat) : Int) arg (S.manyN i)
def Ab.write (c : Cf) (S : Ab) (i : Int) (arg : Nat) : Ab :=
  if S.badW c i arg then ((S.wr0 i).raise 2147483648).ends
  else if (S.many i).e.pack then { S.wr0 i with left := (S.manyN i : Nat), e := { (S.wr0 i).e with head := S.manyN i - 1 } }
  else { S.wr0 i with left := (S.manyN i : Nat), next := (List.range (S.manyN i)).map (arg + ·) }
section
variable {w w' : World} {b : Bn} {T F : List Nat} {c : Cf} {S : Ab}
theorem manyN_bd (h : AbOk c S) (i : Int) : 1 ≤ S.manyN i ∧ S.manyN i ≤ 64 := by
  have := h.count
  unfold Ab.manyN
  split
  · omega
  · rename_i hn
    unfold Ab.one at hn
    simp at hn
    omega
theorem write_any (h : AbIs w b T F c S) (h6 : S.s = 6) (i : Int) (arg : Nat) (harg : arg < 4294967296) :
    Calls Tryz.prog 145 #[.pointer (some ⟨b.E, 0, none⟩), .agg #[.int .i64 i, .int .u32 arg]] w fun e w' => e = .returned (.tuple #[]) ∧ Nx w w' b T F c (S.write c i arg) := by
  have HH := Lib.hid h
  have HN := Lib.hid (manyN_bd h.ok i)
  have H6 := Lib.hid h6
  obtain ⟨W, hW⟩ : ∃ W, W = w.alloc (.cells #[.int .i64 i, .int .u32 arg] 89) := ⟨_, rfl⟩
  obtain ⟨Z, hZ⟩ : ∃ Z, Z = w.heap.size := ⟨_, rfl⟩
  have HBW : Hid (Below w.heap.size w W) := by unfold Hid; rw [hW]; (repeat (first | (with_reducible refine Below.drew ?_) | (with_reducible refine below_drewN0 ?_ _) | ((with_reducible refine Below.setCell ?_ ?_ _); rotate_left; focus (first | omega | (simp; done) | (simp; omega) | (simp at *; omega))) | ((with_reducible refine Below.alloc ?_ ?_ _); rotate_left; focus (first | omega | (simp; done) | (simp; omega) | (simp at *; omega))) | (with_reducible exact Below.refl _ _)))
  have HZ : Hid (Row W Z 89 #[.int .i64 i, .int .u32 arg]) := by unfold Hid; rw [hW, hZ]; exact Row.fresh _ _ _
  have HZw : Hid (w.heap.size ≤ Z) := by unfold Hid; omega
  have HM := Lib.hid (many_any (h.below HBW.out) i)
  have z0 := HZ.out.cell 0
  clear h h6
  go_enter Tryz.func145, Tryz.ntmps145
  go_wp2_with fail
  rw [← hW, ← hZ]
  refine HM.out.mono ?_
  rintro e w2 ⟨rfl, hA2, ht2⟩
  have HA2 := Lib.hid hA2
  have hEZ : Z ≠ b.E := HZ.out.ne_type (HH.out.below HBW.out).rE (by decide)
  have HZ2 : Hid (Row w2 Z 89 #[.int .i64 i, .int .u32 arg]) := ht2.row HZ.out (by simpa using hEZ)
  have HC : Hid (Calls Tryz.prog 203 #[.pointer (some ⟨b.E, 0, none⟩)] w2 fun e w' => e = .returned (.int .i64 (S.V 0 : Nat)) ∧ w' = w2) := by have h := current_any hA2; exact h
  have e18 := hA2.xRel
  have e22 := hA2.xArea
  have f22 := hA2.rE.frozen 22
  have e23 := hA2.xNx
  have f23 := hA2.rE.frozen 23
  have e24 := hA2.xHead
  have f24 := hA2.rE.frozen 24
  have e25 := hA2.xSure
  have f25 := hA2.rE.frozen 25
  obtain ⟨w3, hw3⟩ : ∃ w3, w3 = (((w2.setCell ⟨b.E, 22, none⟩ (.int .i64 (S.V 0 : Nat))).setCell ⟨b.E, 25, none⟩ (.bool (S.many i).e.rel)).setCell ⟨b.E, 23, none⟩ (.slice none 0 0)).setCell ⟨b.E, 24, none⟩ (.int .i64 0) := ⟨_, rfl⟩
  have hT3 : Turns w2 w3 [b.E] := by rw [hw3]; exact ((((Turns.refl _ _).setCell (by simp) _).setCell (by simp) _).setCell (by simp) _).setCell (by simp) _
  have hA3 : AbIs w3 { b with nx := none, cnx := 0 } T F c (S.wr0 i) := by
    have hr := (((hA2.rE.put 22 (.int .i64 (S.V 0 : Nat))).put 25 (.bool (S.many i).e.rel)).put 23 (.slice none 0 0)).put 24 (.int .i64 ((0 : Nat) : Int))
    rw [show (((w2.setCell ⟨b.E, 22, none⟩ (.int .i64 (S.V 0 : Nat))).setCell ⟨b.E, 25, none⟩ (.bool (S.many i).e.rel)).setCell ⟨b.E, 23, none⟩ (.slice none 0 0)).setCell ⟨b.E, 24, none⟩ (.int .i64 ((0 : Nat) : Int)) = w3 from hw3.symm] at hr
    exact hA2.next (e' := { (S.many i).e with area := ((S.V 0 : Nat) : Int), sure := (S.many i).e.rel, head := 0 }) (nx' := []) (A' := none) (c' := 0) (T' := T) hT3 hr { hA2.ok with
      area := by have := HH.out.ok.ra; show 0 ≤ ((S.V 0 : Nat) : Int) ∧ ((S.V 0 : Nat) : Int) < 8; omega
      head := by simp
      next := by simp
      nlen := by simp } (World.ownsRow_nil _ _ _ _) (fun k hk => hk) (by simp [Vca.blk]) hA2.TF (fun k hk => Nat.lt_of_lt_of_le (hA2.Tlt k hk) hT3.size)
  have HA3 := Lib.hid hA3
  have HT03 : Hid (Turns w w3 [b.E]) := ((Turns.of_below HBW.out [b.E]).trans ht2 (fun k hk => .inl hk)).trans hT3 (fun k hk => .inl hk)
  have HT3 := Lib.hid hT3
  have HZ3 : Hid (Row w3 Z 89 #[.int .i64 i, .int .u32 arg]) := hT3.row HZ2.out (by simpa using hEZ)
  clear hA2 ht2 HM z0 hT3 hA3 hW hZ
  go_wp2_with fail
  refine HC.out.mono ?_
  rintro e w2' ⟨rfl, rfl⟩
  have HW3 := Lib.hid hw3
  clear hw3
  go_upto_region 3 with fail
  rw [← HW3.out]
  clear HW3 HC e18 e22 f22 e23 f23 e24 f24 e25 f25
  have e19 : w3.cell? ⟨b.E, 19, none⟩ = some (.bool (S.many i).e.pack) := HA3.out.xPack
  have z1 := HZ3.out.cell 1
  have HIn : Hid (Calls Tryz.prog 97 #[.pointer (some ⟨b.E, 0, none⟩), .int .i64 (S.V 0 : Nat), .int .u32 arg, .int .i64 (S.manyN i : Nat)] w3 fun e w' => e = .returned (.bool (insideB c S ((S.V 0 : Nat) : Int) arg (S.manyN i))) ∧ AbIs w' { b with nx := none, cnx := 0 } T F c (S.wr0 i) ∧ Turns w3 w' [b.n.T]) := by have h := inside_any HA3.out ((S.V 0 : Nat) : Int) arg (S.manyN i) harg (by have := HN.out; omega); exact h
  obtain ⟨n, hn⟩ : ∃ n, n = S.manyN i := ⟨_, rfl⟩
  obtain ⟨av, hav⟩ : ∃ av, av = S.V 0 := ⟨_, rfl⟩
  obtain ⟨pk, hpk⟩ : ∃ pk, pk = (S.many i).e.pack := ⟨_, rfl⟩
  have HNv := Lib.hid (And.intro hn (And.intro hav hpk))
  rw [← hn, ← hav] at HIn ⊢
  rw [← hpk] at e19
  clear hn hav hpk
  iterate 8 go_step
  go_cut [6] from 31 to 58 (fun b6 wx => b6 = .bool (S.badW c i arg) ∧ AbIs wx { b with nx := none, cnx := 0 } T F c (S.wr0 i) ∧ Turns w3 wx [b.n.T])
  case first =>
    have HB : Hid (S.badW c i arg = if pk then (decide (1 ≤ av) && decide (av ≤ 3)) || decide (n < 2) else if av = 3 then decide (n ≠ 1) else !insideB c S ((av : Nat) : Int) arg n) := by unfold Hid; rw [HNv.out.1, HNv.out.2.1, HNv.out.2.2]; rfl
    have HF : Hid (AbIs w3 { b with nx := none, cnx := 0 } T F c (S.wr0 i) ∧ Turns w3 w3 [b.n.T]) := ⟨HA3.out, Turns.refl _ _⟩
    clear HNv
    cases pk with
    | true =>
      have q1 : ((av : Int) ≥ 1) = (1 ≤ av) := by simp; omega
      clear HIn
      by_cases h1 : 1 ≤ av
      · by_cases h3 : av ≤ 3
        · have d1 : decide ((1 : Int) ≤ av) = true := by simp; omega
          have d2 : decide ((av : Int) ≤ 3) = true := by simp; omega
          go_wp2
          go_meet
          case rel => exact ⟨by rw [HB.out]; simp [h1, h3], HF.out⟩
        · have d1 : decide ((1 : Int) ≤ av) = true := by simp; omega
          have d2 : decide ((av : Int) ≤ 3) = false := by simp; omega
          go_wp2
          go_meet
          case rel => exact ⟨by rw [HB.out]; simp [h1, h3]; omega, HF.out⟩
      · have d1 : decide ((1 : Int) ≤ av) = false := by simp; omega
        go_wp2
        go_meet
        case rel => exact ⟨by rw [HB.out]; simp [h1]; omega, HF.out⟩
    | false =>
      by_cases h3 : av = 3
      · have d3 : ((av : Int) == 3) = true := by simp; omega
        clear HIn
        have HD : Hid (((n : Int) != 1) = !decide (n = 1)) := by
          unfold Hid
          by_cases h : n = 1
          · subst h; rfl
          · simp [h]; omega
        go_wp2
        go_meet
        case rel => exact ⟨by rw [HB.out, HD.out]; simp [h3], HF.out⟩
      · have d3 : ((av : Int) == 3) = false := by simp; omega
        go_wp2_with fail
        refine HIn.out.mono ?_
        rintro e w4 ⟨rfl, hA4, ht4⟩
        have HF4 := Lib.hid (And.intro hA4 ht4)
        clear hA4 ht4 HIn
        go_wp2
        go_meet
        case rel => exact ⟨by rw [HB.out]; simp [h3], HF4.out⟩
  case rest =>
    obtain ⟨rfl, hA, ht⟩ := hcut
    have HA := Lib.hid hA
    have HTc : Hid (Turns w wc T) := ((HT03.out.mono (fun k hk => by obtain rfl := List.mem_singleton.1 hk; exact HH.out.inT _ (by simp [Bn.ts]))).trans ht (fun k hk => .inl (by obtain rfl := List.mem_singleton.1 hk; exact HH.out.inT _ (by simp [Bn.ts]))))
    have HZc : Hid (Row wc Z 89 #[.int .i64 i, .int .u32 arg]) := ht.row HZ3.out (by
      obtain ⟨r, hr⟩ := HA3.out.tb
      simpa using HZ3.out.ne_type hr (by decide))
    clear hA ht HIn e19 z1 HA3 HT3 HT03 HZ3 HZ2 HA2 hEZ
    by_cases hbad : S.badW c i arg = true
    · have HW : Hid (S.write c i arg = ((S.wr0 i).raise 2147483648).ends) := by unfold Hid Ab.write; rw [if_pos hbad]
      have HR := Lib.hid (raise_any HA.out 2147483648 (by omega))
      rw [hbad]
      clear hbad
      go_wp2_with fail
      refine HR.out.mono ?_
      rintro e w4 ⟨rfl, hA4, ht4⟩
      have HT4 := Lib.hid ht4
      have HE := Lib.hid (end_any hA4)
      clear hA4 ht4 HR
      go_wp2_with fail
      refine HE.out.mono ?_
      rintro e w5 ⟨rfl, hA5, ht5⟩
      have HX : Hid (Nx w w5 b T F c (S.write c i arg)) := by
        unfold Hid
        rw [HW.out]
        refine ⟨_, T, F, hA5, rfl, rfl, (HTc.out.trans HT4.out (fun k hk => .inl ?_)).trans ht5 (fun k hk => .inl ?_), fun _ hk => hk, fun _ hk => .inl hk, fun _ hk => .inl hk⟩
        · obtain rfl := List.mem_singleton.1 hk; exact HH.out.inT _ (by simp [Bn.ts])
        · simp only [List.mem_cons, List.not_mem_nil, or_false] at hk
          rcases hk with rfl | rfl
          · exact HH.out.inT _ (by simp [Bn.ts])
          · exact HH.out.inT _ (by simp [Bn.ts])
      clear hA5 ht5 HE HTc HT4
      go_wp2
      refine bodyPost_ret (results_none rfl _ _ _) rfl ?_
      exact ⟨rfl, HX.out⟩
    · have hbad : S.badW c i arg = false := by simpa using hbad
      rw [hbad]
      have e0 := HA.out.xP
      have hph := HA.out.ph
      rw [show (S.wr0 i).s = 6 from H6.out] at hph
      have HRv := Lib.hid (Receive_ph hph (n : Int))
      have hmin : min (max (n : Int) 1) 64 = n := by have := HN.out; rw [← HNv.out.1] at this; omega
      rw [hmin] at HRv
      clear hmin hph
      go_wp2_with fail
      refine HRv.out.mono ?_
      rintro e w4 ⟨rfl, hp4, ht4⟩
      have hA4 : AbIs w4 { b with nx := none, cnx := 0 } T F c { S.wr0 i with s := 6, addr := S.addr, left := (n : Int) } := HA.out.phase ht4 hp4 { HA.out.ok with
        st := by show (6 : Int) ∈ statesL; decide
        recv := fun _ => by have := HN.out; rw [← HNv.out.1] at this; show 1 ≤ (n : Int) ∧ (n : Int) ≤ 64; omega }
      have HA4 := Lib.hid hA4
      have HT4 : Hid (Turns w w4 T) := HTc.out.trans ht4 (fun k hk => .inl (by obtain rfl := List.mem_singleton.1 hk; exact HH.out.inT _ (by simp [Bn.ts])))
      have HZ4 : Hid (Row w4 Z 89 #[.int .i64 i, .int .u32 arg]) := ht4.row HZc.out (by simpa using Ne.symm (HA.out.ph.ne_type HZc.out (by decide)))
      have e19 : w4.cell? ⟨b.E, 19, none⟩ = some (.bool pk) := by rw [HNv.out.2.2]; exact hA4.xPack
      have e24 := hA4.xHead
      have f24 := hA4.rE.frozen 24
      clear hp4 ht4 hA4 HRv HTc HZc HA e0
      have HW : Hid (S.write c i arg = if pk then { S.wr0 i with left := (n : Int), e := { (S.wr0 i).e with head := n - 1 } } else { S.wr0 i with left := (n : Int), next := (List.range n).map (arg + ·) }) := by
        unfold Hid Ab.write
        rw [if_neg (by rw [hbad]; simp), ← HNv.out.2.2, HNv.out.1]
      have HS4 : Hid (({ S.wr0 i with s := 6, addr := S.addr, left := (n : Int) } : Ab) = { S.wr0 i with left := (n : Int) }) := by
        unfold Hid
        rw [show (6 : Int) = (S.wr0 i).s from H6.out.symm, show S.addr = (S.wr0 i).addr from rfl]
      cases pk with
      | true =>
        rw [if_pos rfl] at HW
        have hn1 : wrap64 ((n : Int) - 1) = ((n - 1 : Nat) : Int) := by have := HN.out; rw [← HNv.out.1] at this; unfold wrap64; omega
        have HX : Hid (Nx w (w4.setCell ⟨b.E, 24, none⟩ (.int .i64 ((n - 1 : Nat) : Int))) b T F c (S.write c i arg)) := by
          unfold Hid
          have hr := HA4.out.rE.put 24 (.int .i64 ((n - 1 : Nat) : Int))
          have hT : Turns w4 (w4.setCell ⟨b.E, 24, none⟩ (.int .i64 ((n - 1 : Nat) : Int))) [b.E] := (Turns.refl _ _).setCell (by simp) _
          have hA := HA4.out.eng (e' := { (S.wr0 i).e with head := n - 1 }) hT hr { HA4.out.ok with head := by have := HN.out; rw [← HNv.out.1] at this; show n - 1 ≤ 64; omega }
          rw [HW.out]
          rw [HS4.out] at hA
          exact ⟨_, T, F, hA, rfl, rfl, HT4.out.trans hT (fun k hk => .inl (by obtain rfl := List.mem_singleton.1 hk; exact HH.out.inT _ (by simp [Bn.ts]))), fun _ hk => hk, fun _ hk => .inl hk, fun _ hk => .inl hk⟩
        clear hbad
        go_wp2
        refine bodyPost_ret (results_none rfl _ _ _) rfl ?_
        exact ⟨rfl, HX.out⟩
      | false =>
        rw [if_neg (by simp)] at HW
        rw [HS4.out] at HA4
        clear HS4 hbad e24 f24
        have HS0 : Hid (({ S.wr0 i with left := (n : Int) } : Ab) = { S.wr0 i with left := (n : Int), next := (List.range 0).map (arg + ·) }) := rfl
        have HNx : Hid (Nx w w4 b T F c { S.wr0 i with left := (n : Int), next := (List.range 0).map (arg + ·) }) := by
          unfold Hid
          rw [← HS0.out]
          exact ⟨_, T, F, HA4.out, rfl, rfl, HT4.out, fun _ hk => hk, fun _ hk => .inl hk, fun _ hk => .inl hk⟩
        have hn64 : n ≤ 64 := by have := HN.out; rw [← HNv.out.1] at this; omega
        obtain ⟨i0, hi, hz0, hz1, hz2⟩ := info_parts Grd.int_info
        clear HS0 HA4 HT4
        go_wp2_with fail
        go_loopw [79] (fun i9 wr => ∃ k : Nat, k ≤ n ∧ i9 = .int .i64 k ∧ Nx w wr b T F c { S.wr0 i with left := (n : Int), next := (List.range k).map (arg + ·) } ∧ Row wr Z 89 #[.int .i64 i, .int .u32 arg]) (fun i9 _ => n - (intOf i9).toNat)
        case atStart => exact ⟨0, Nat.zero_le _, rfl, HNx.out, HZ4.out⟩
        case round =>
          obtain ⟨k, hkn, rfl, h1, h2⟩ := hrel
          have H1 := Lib.hid h1
          have HZr := Lib.hid h2
          clear HNx HZ4 h1 h2
          by_cases hk : k < n
          · obtain ⟨b1, T1, F1, hA1, hE1, hn1, ht1, hTT, hTn, hFn⟩ := H1.out
            have hl : ((List.range k).map (arg + ·)).length = k := by simp
            have hl1 : ((List.range (k + 1)).map (arg + ·)).length = k + 1 := by simp
            have hnx := hA1.nx
            have hEn : b.E ∉ Vca.blk b1.nx := fun hm => by
              obtain ⟨_, cur, hr⟩ := Vca.own_blk hnx _ hm
              exact hA1.rE.ne_type hr (by decide) hE1
            have hZn : Z ∉ Vca.blk b1.nx := fun hm => by
              obtain ⟨_, cur, hr⟩ := Vca.own_blk hnx _ hm
              exact HZr.out.ne_type hr (by decide) rfl
            have hrE := hA1.rE
            have e23 := hA1.xNx
            rw [hE1] at hrE e23
            rw [show ({ S.wr0 i with left := (n : Int), next := (List.range k).map (arg + ·) } : Ab).next = (List.range k).map (arg + ·) from rfl, hl] at hnx e23
            have q1 : ∀ t : Kept wr (Vca.blk b1.nx), t.u.cell? ⟨b.E, 23, none⟩ = some (.slice b1.nx k b1.cnx) := fun t => t.h.cell (p := ⟨b.E, 23, none⟩) e23 hEn
            have q2 : ∀ t : Kept wr (Vca.blk b1.nx), t.u.cell? ⟨Z, 1, none⟩ = some (.int .u32 arg) := fun t => by rw [(t.h.row HZr.out hZn).cell]; rfl
            have hwr : wrap64 ((arg : Int) + (k : Int)) = ((arg + k : Nat) : Int) := by unfold wrap64; omega
            have HB5 : Hid (Below wr.heap.size wr (wr.alloc (.cells #[.int .i64 ((arg : Int) + (k : Int))] 3)).drew) := by unfold Hid; (repeat (first | (with_reducible refine Below.drew ?_) | (with_reducible refine below_drewN0 ?_ _) | ((with_reducible refine Below.setCell ?_ ?_ _); rotate_left; focus (first | omega | (simp; done) | (simp; omega) | (simp at *; omega))) | ((with_reducible refine Below.alloc ?_ ?_ _); rotate_left; focus (first | omega | (simp; done) | (simp; omega) | (simp at *; omega))) | (with_reducible exact Below.refl _ _)))
            have HO5 : Hid ((wr.alloc (.cells #[.int .i64 ((arg : Int) + (k : Int))] 3)).drew.ownsRow 0 3 1 (.slice b1.nx k b1.cnx) k (intsV .i64 ((List.range k).map (arg + ·)))) := own_below hnx HB5.out
            have HS5 : Hid (Src (wr.alloc (.cells #[.int .i64 ((arg : Int) + (k : Int))] 3)).drew 1 (some ⟨wr.heap.size, 0, none⟩) 1 [.int .i64 ((arg : Int) + (k : Int))]) := (Vca.src_new (w := wr) (t := 3) (cs := [.int .i64 ((arg : Int) + (k : Int))]) (sz := 1) rfl).keep (fun a v h => keep_below (Below.refl _ _).drew _ _ h)
            have HL1 : Hid (intsV .i64 ((List.range (k + 1)).map (arg + ·)) = intsV .i64 ((List.range k).map (arg + ·)) ++ [.int .i64 ((arg : Int) + (k : Int))]) := by
              unfold Hid; rw [List.range_succ, List.map_append]; simp [intsV]
            have HA1 := Lib.hid hA1
            have HG1 := Lib.hid (And.intro hE1 (And.intro hn1 (And.intro ht1 (And.intro hTT (And.intro hTn (And.intro hFn (And.intro hrE (And.intro hEn (And.intro hZn (And.intro hl hl1))))))))))
            clear hA1 hE1 hn1 ht1 hTT hTn hFn hrE hEn hZn hl hl1 hnx e23
            go_wp2
            (refine region_kept (Vca.blk b1.nx) [0, 1, 2, 3, 4, 5, 6, 7, 8, 9] [10, 11, 12, 13, 14] (by kernel_rfl) (by kernel_rfl) (fun _ _ _ _ _ h => h) ?_; simp only [List.filterMap_cons, List.getElem?_cons_zero, List.getElem?_cons_succ, List.filterMap_nil]; (repeat ((show wpQuiet _ _ _ _ (_ :: _) _); go_big_quiet_step (fail))); refine wpQuiet_nil ?_)
            clear q1 q2
            refine wpSeqS_step ?_
            go_wp2_with fail
            refine outQ_normal (Turns.of_below HB5.out _) ?_
            refine wpSeqS_step (wpList_append_src _ rfl (.tmp 86) (.tmp 92) 46 rfl 0 3 i0 _ 1 8 Tryz.underlying46 hi hz0 hz1 hz2 rfl (by decide) (.slice b1.nx k b1.cnx) k (intsV .i64 ((List.range k).map (arg + ·))) rfl HO5.out (some ⟨wr.heap.size, 0, none⟩) 1 1 [.int .i64 ((arg : Int) + (k : Int))] rfl HS5.out (by intro u hu; rw [List.mem_singleton.1 hu]; rfl) (by unfold maxLen; omega) (by omega) (Nat.zero_le _) ?_)
            intro v6 w6 hown hgrow hat
            rw [← HL1.out] at hown
            obtain ⟨A6, c6, rfl, _, _⟩ := own_shape hown
            have HT6 : Hid (Turns wr w6 (Vca.blk b1.nx)) := (Turns.of_below HB5.out _).trans (Vca.turns_append hgrow) (fun k hk => .inl hk)
            refine wpList_nil (outQ_normal HT6.out ?_)
            have hblk : ∀ g ∈ Vca.blk A6, g ∈ Vca.blk b1.nx ∨ wr.heap.size ≤ g := fun g hg => by
              have hA6 : (Value.slice A6 (k + 1) c6).ownBlock = some g := by
                cases A6 with
                | none => simp [Vca.blk] at hg
                | some a => simp [Vca.blk] at hg; simp [Value.ownBlock]; exact hg.symm
              rcases hat with e | e
              · rw [hA6] at e
                refine .inl ?_
                cases hb : b1.nx with
                | none => rw [hb] at e; simp [Value.ownBlock] at e
                | some a => rw [hb] at e; simp [Value.ownBlock] at e; simp [Vca.blk]; exact e
              · rw [hA6] at e
                injection e with e
                have := HB5.out.size
                exact .inr (by omega)
            have hok : AbOk c { S.wr0 i with left := (n : Int), next := (List.range (k + 1)).map (arg + ·) } := { HA1.out.ok with
              next := fun x hx => by
                simp at hx
                obtain ⟨j, hj, rfl⟩ := hx
                omega
              nlen := by show ((List.range (k + 1)).map (arg + ·)).length ≤ 64; simp; omega }
            obtain ⟨T7, hA7, ht7, hT7, hTn7⟩ := nx_store HA1.out HT6.out A6 c6 ((List.range (k + 1)).map (arg + ·)) (by rw [HG1.out.2.2.2.2.2.2.2.2.2.2]; exact hown) hblk hok (.slice A6 (k + 1) c6) (by rw [HG1.out.2.2.2.2.2.2.2.2.2.2])
            rw [HG1.out.1] at hA7 ht7
            have HX : Hid (Nx w (w6.setCell ⟨b.E, 23, none⟩ (.slice A6 (k + 1) c6)) b T F c { S.wr0 i with left := (n : Int), next := (List.range (k + 1)).map (arg + ·) }) := by
              obtain ⟨hE1, hn1, ht1, hTT, hTn, hFn, _⟩ := HG1.out
              refine ⟨_, T7, F1, hA7, rfl, hn1, ht1.trans ht7 (fun g hg => hTn g (HA1.out.inT g ?_)), fun g hg => hT7 g (hTT g hg), fun g hg => ?_, hFn⟩
              · rcases List.mem_cons.1 hg with rfl | hg
                · simp [Bn.ts, hE1]
                · simp [Bn.ts, hg]
              · rcases hTn7 g hg with hg | hg
                · exact hTn g hg
                · have := ht1.size; exact .inr (by omega)
            have e23 := (HT6.out.row HG1.out.2.2.2.2.2.2.1 HG1.out.2.2.2.2.2.2.2.1).cell 23
            have f23 := (HT6.out.row HG1.out.2.2.2.2.2.2.1 HG1.out.2.2.2.2.2.2.2.1).frozen 23
            have HZ6 : Hid (Row (w6.setCell ⟨b.E, 23, none⟩ (.slice A6 (k + 1) c6)) Z 89 #[.int .i64 i, .int .u32 arg]) := ht7.row HZr.out (by
              have h1 := HG1.out.2.2.2.2.2.2.2.2.1
              have h2 := HZr.out.ne_type HG1.out.2.2.2.2.2.2.1 (by decide)
              simp only [List.mem_cons, not_or]
              exact ⟨h2, h1⟩)
            clear hown hgrow hat hblk hok hA7 ht7 hT7 hTn7 HS5 HO5 HB5 HL1
            refine wpSeqS_step ?_
            go_wp2_with fail
            refine outQ_normal HT6.out ?_
            refine wpSeqS_step ?_
            go_wp2_with fail
            refine outQ_normal HT6.out ?_
            refine wpSeqS_last ?_
            clear HG1 HA1
            go_wp2
            go_roundw
            case rel => exact ⟨k + 1, by omega, by go_num, HX.out, HZ6.out⟩
            case measure => simp [intOf]; omega
          · obtain rfl : n = k := by omega
            have HX : Hid (Nx w wr b T F c (S.write c i arg)) := by unfold Hid; rw [HW.out]; exact H1.out
            clear HW H1
            go_wp2
            go_end0
            exact ⟨rfl, HX.out⟩
end
end Go.Proofs.YtclhhdodebdmjaaGreat

namespace Go.Proofs.YtclhhdodebdmjaaGreat
open Go.RowKit Go.MapKept Go.ChangeMaps
set_option linter.unusedVariables false
set_option linter.unusedSimpArgs false
set_option maxRecDepth 100000

set_option maxHeartbeats 400000 in
theorem CloneN_any (A : Option Addr) (n c : Nat) (xs : List Value) (hlen : n ≤ 100000) (w : World) (hs : Src w 1 A n xs) (h1 : ∀ u ∈ xs, u.oneCell' = true) :
    Calls Tryz.prog 44 #[.slice A n c] w fun e w' => ∃ A' c', e = .returned (.slice A' n c') ∧ w'.ownsRow w.heap.size 3 1 (.slice A' n c') n xs ∧ Below w.heap.size w w' := by
  obtain ⟨i0, hi, hz0, hz1, hz2⟩ := info_parts Grd.int_info
  have q22 : ∀ (w : World) (a : Option Addr) (n c n' c' : Nat), (binOp .eql 46 (.slice a n c) (.slice none n' c')).run Tryz.prog w = .ok (.bool a.isNone) w := fun w a n c n' c' => Lib.run_eql_slice_nil w _ _ a n c n' c' Tryz.underlying46
  cases A with
  | none =>
    have hn : n = 0 := by
      rcases Nat.eq_zero_or_pos n with h | h
      · exact h
      · obtain ⟨_, e, _⟩ := hs.lies h; cases e
    subst hn
    obtain rfl : xs = [] := List.eq_nil_of_length_eq_zero (by simpa using hs.len)
    clear hs h1
    go_enter Tryz.func44, Tryz.ntmps44
    go_wp2
    go_ret
    exact ⟨_, _, rfl, World.ownsRow_nil _ _ _ _, Below.refl _ _⟩
  | some ad =>
    have H1 := Lib.hid h1
    have HO := Lib.hid (World.ownsRow_made (base := w.heap.size) (size := 1) (e := 3) w #[] 0 (Nat.le_refl _) (Nat.zero_le _) rfl)
    have HS := Lib.hid (hs.keep (w' := w.alloc (.cells #[] 3)) (fun a v h => (World.cell?_alloc_lt _ _ _ (World.block_lt_of_cell? w a h)).trans h))
    have HB : Hid (Below w.heap.size w (w.alloc (.cells #[] 3))) := by unfold Hid; (repeat (first | (with_reducible refine Below.drew ?_) | (with_reducible refine below_drewN0 ?_ _) | ((with_reducible refine Below.setCell ?_ ?_ _); rotate_left; focus (first | omega | (simp; done) | (simp; omega) | (simp at *; omega))) | ((with_reducible refine Below.alloc ?_ ?_ _); rotate_left; focus (first | omega | (simp; done) | (simp; omega) | (simp at *; omega))) | (with_reducible exact Below.refl _ _)))
    clear hs h1
    go_enter Tryz.func44, Tryz.ntmps44
    go_wp2_with (at_builtin; refine wpList_append_src _ rfl _ _ 46 rfl w.heap.size 3 i0 (.int .i64 0) 1 8 Tryz.underlying46 hi hz0 hz1 hz2 rfl (by decide) _ 0 [] rfl HO.out (some ad) n c xs rfl HS.out H1.out (by unfold maxLen; omega) (by omega) (by simp) ?_; intro v' w1 hown hgrow hv)
    rw [Nat.zero_add, List.nil_append] at hown
    obtain ⟨A', c', rfl, _, _⟩ := own_shape hown
    have hown := Lib.hid hown
    go_wp2
    go_ret
    refine ⟨A', c', rfl, hown.out, HB.out.grown hgrow (by simp) ?_⟩
    intro k hk
    have : w.heap.size = k := by injection hk
    omega
theorem own_front {w : World} {A : Option Addr} {n cc s : Nat} {xs : List Nat} (h : w.ownsRow 0 3 1 (.slice A (n + 1) cc) (n + 1) (intsV .i64 (s :: xs))) : ∃ g, A = some ⟨g, 0, none⟩ ∧ w.cell? ⟨g, 0, none⟩ = some (.int .i64 s) ∧ n + 1 ≤ cc := by
  have hs := Src.of_own h
  obtain ⟨ad, e, hc⟩ := hs.lies (by omega)
  have hcap := hs
  rcases h.2 with ⟨hz, _⟩ | ⟨g, cap, cur, hz, _, _, hle, _⟩
  · injection hz with h1 h2; omega
  · injection hz with h1 h2 h3
    refine ⟨g, h1, ?_, by omega⟩
    have h0 := hc 0 _ rfl
    rw [h1] at e
    injection e with e
    rw [← e] at h0
    exact h0
theorem src_tail {w : World} {g s : Nat} {xs : List Nat} (h : Src w 1 (some ⟨g, 0, none⟩) (xs.length + 1) (intsV .i64 (s :: xs))) : Src w 1 (some ⟨g, 1, none⟩) xs.length (intsV .i64 xs) := by
  obtain ⟨ad, e, hc⟩ := h.lies (by omega)
  injection e with e
  subst e
  refine Src.of_at (by simp [intsV]) (fun j u hu => ?_)
  have := hc (j + 1) u (by simpa [intsV] using hu)
  have e1 : (⟨g, 1, none⟩ : Addr).add j = (⟨g, 0, none⟩ : Addr).add (j + 1) := by
    cases j with
    | zero => rfl
    | succ j => simp [Addr.add]; omega
  rw [e1]
  exact this
section
variable {w w' : World} {b : Bn} {T F : List Nat} {c : Cf} {S : Ab}
/-- A block for a sector: what comes of it (a cache that is on is left out here). -/
def Ab.putS (c : Cf) (S : Ab) (s : Int) (p : Nat) (l : List Nat) : Ab := if guardedB c S S.e.area p then S.raise 67108864 else (S.last p l).drop S.e.area s
def Ab.putT (c : Cf) (S : Ab) (p : Nat) : Nat := if guardedB c S S.e.area p then 237 else 229
theorem put_any (h : AbIs w b T F c S) (s p : Nat) (hp : placeI c S.now S.e.area (s : Int) = some (p : Int)) (hc : S.V 1 ≠ 1) (A0 : Option Addr) (nb : Nat) (l : List Nat) (hl : (l.length : Int) = c.sector) (h256 : ∀ x ∈ l, x < 256) (hsrc : ∀ W, Turns w W T → Src W 1 A0 l.length (intsV .u8 l)) (hs : s ≤ 20000) :
    Calls Tryz.prog 45 #[.pointer (some ⟨b.E, 0, none⟩), .int .i64 s, .slice A0 l.length nb] w fun e w' => e = .returned (.int .u8 (S.putT c p : Nat)) ∧ Nx w w' b T F c (S.putS c s p l) := by
  unfold Ab.putT Ab.putS
  cases hg : guardedB c S S.e.area p with
  | true =>
    refine (put_guarded h s p hp hg _).mono ?_
    rintro e w' ⟨rfl, hA, ht⟩
    refine ⟨rfl, Nx.of hA ht (fun k hk => .inl ?_)⟩
    simp only [List.mem_cons, List.not_mem_nil, or_false] at hk
    rcases hk with rfl | rfl
    · exact h.inT _ (by simp [Bn.ts])
    · exact h.inT _ (by simp [Bn.ts])
  | false =>
    exact (put_direct h s p hp hg hc A0 nb l hl h256 hsrc hs).mono fun e w' ⟨h1, h2⟩ => ⟨h1, h2⟩
/-- Nothing is told of the last command. -/
theorem wrote_nil (h : AbIs w b T F c S) : AbIs (w.setCell ⟨b.E, 26, none⟩ (.slice none 0 0)) { b with wr := none, nwr := 0, cwr := 0 } T F c S ∧ Turns w (w.setCell ⟨b.E, 26, none⟩ (.slice none 0 0)) [b.E] := by
  have ht : Turns w (w.setCell ⟨b.E, 26, none⟩ (.slice none 0 0)) [b.E] := (Turns.refl _ _).setCell (by simp) _
  exact ⟨h.wrote ht (h.rE.put 26 (.slice none 0 0)) (World.ownsRow_nil _ _ _ _) (fun k hk => hk) (by simp [Vca.blk]) h.TF (fun k hk => Nat.lt_of_lt_of_le (h.Tlt k hk) ht.size), ht⟩
/-- A block has come: the next sector is waited for. -/
def Ab.gotN (S : Ab) (rest : List Nat) : Ab := { S with s := gotS S.left, left := S.left - 1, next := rest }
theorem data_put (h : AbIs w b T F c S) (h6 : S.s = 6) (hh : S.e.head = 0) (ha : S.e.area ≠ 3) (s p : Nat) (rest : List Nat) (hn : S.next = s :: rest) (hp : placeI c S.now S.e.area (s : Int) = some (p : Int)) (hc : S.V 1 ≠ 1) (A0 : Option Addr) (nb : Nat) (l : List Nat) (hl : (l.length : Int) = c.sector) (h256 : ∀ x ∈ l, x < 256) (hsrc : ∀ W, Turns w W T → Src W 1 A0 l.length (intsV .u8 l)) (hs : s ≤ 20000) :
    Calls Tryz.prog 17 #[.pointer (some ⟨b.E, 0, none⟩), .slice A0 l.length nb, .bool true] w fun e w' => e = .returned (.int .u8 ((S.gotN rest).putT c p : Nat)) ∧ Nx w w' b T F c ((S.gotN rest).putS c s p l) := by
  have hlb := h.ok.recv h6
  have h6' : (S.s != 6) = false := by simp [h6]
  have HP := Lib.hid (And.intro hp (And.intro hc (And.intro hl (And.intro h256 (And.intro hs hsrc)))))
  have Hh := Lib.hid (And.intro hh (And.intro ha (And.intro hn (And.intro h6 hlb))))
  clear hp hc hl h256 hsrc hs hh ha hn
  have HH := Lib.hid h
  obtain ⟨w1, hw1⟩ : ∃ w1, w1 = w.setCell ⟨b.E, 26, none⟩ (.slice none 0 0) := ⟨_, rfl⟩
  have e27 := h.xDown
  have e26 := h.xWr
  have f26 := h.rE.frozen 26
  obtain ⟨hA1, hT1⟩ := wrote_nil h
  rw [← hw1] at hA1 hT1
  have HA1 := Lib.hid hA1
  have HT1 := Lib.hid hT1
  have HSt := Lib.hid (State_ph hA1.ph)
  have HW1 := Lib.hid hw1
  have hE1 : b.E ∈ T := h.inT _ (by simp [Bn.ts])
  have e0 : w1.cell? ⟨b.E, 0, none⟩ = some (.pointer (some ⟨b.n.P, 0, none⟩)) := hA1.xP
  clear h hw1 hA1 hT1
  go_enter Tryz.func17, Tryz.ntmps17
  go_upto_region 4 with fail
  rw [← HW1.out]
  clear HW1 e27 e26 f26
  go_wp2_with fail
  refine HSt.out.mono ?_
  rintro e w1' ⟨rfl, rfl⟩
  have e3 : w1.cell? ⟨b.E, 3, none⟩ = some (.int .i64 c.sector) := HA1.out.xc2
  have hsz : ((l.length : Int) != c.sector) = false := by simp [HP.out.2.2.1]
  have e24 : w1.cell? ⟨b.E, 24, none⟩ = some (.int .i64 0) := by have := HA1.out.xHead; rw [Hh.out.1] at this; exact this
  have HG : Hid (Calls Tryz.prog 42 #[.pointer (some ⟨b.n.P, 0, none⟩)] w1 fun e w' => e = .returned (.bool true) ∧ PhIs w' b.n.P (gotS S.left) S.addr (S.left - 1) ∧ Turns w1 w' [b.n.P]) := by
    have hph := HA1.out.ph
    rw [h6] at hph
    exact Got_ph hph hlb
  clear h6 hlb
  go_wp2_with fail
  refine HG.out.mono ?_
  rintro e w2 ⟨rfl, hp2, ht2⟩
  have hA2 : AbIs w2 { b with wr := none, nwr := 0, cwr := 0 } T F c { S with s := gotS S.left, addr := S.addr, left := S.left - 1 } := HA1.out.phase ht2 hp2 { HA1.out.ok with
    st := by show gotS S.left ∈ statesL; unfold gotS; split <;> decide
    recv := fun h => by
      have h1 := Hh.out.2.2.2.2
      have h2 : gotS S.left = 6 := h
      unfold gotS at h2
      show 1 ≤ S.left - 1 ∧ S.left - 1 ≤ 64
      split at h2
      · cases h2
      · omega }
  have HA2 := Lib.hid hA2
  have HT2 : Hid (Turns w w2 T) := (HT1.out.mono (fun k hk => by obtain rfl := List.mem_singleton.1 hk; exact hE1)).trans ht2 (fun k hk => .inl (by obtain rfl := List.mem_singleton.1 hk; exact HH.out.inT _ (by simp [Bn.ts])))
  have e22 := hA2.xArea
  have ha3 : (S.e.area == 3) = false := by have := Hh.out.2.1; simpa using this
  have e23 := hA2.xNx
  have f23 := hA2.rE.frozen 23
  rw [show ({ S with s := gotS S.left, addr := S.addr, left := S.left - 1 } : Ab).next = s :: rest from Hh.out.2.2.1] at e23
  simp only [List.length_cons] at e23
  have hnx := hA2.nx
  rw [show ({ S with s := gotS S.left, addr := S.addr, left := S.left - 1 } : Ab).next = s :: rest from Hh.out.2.2.1] at hnx
  simp only [List.length_cons] at hnx
  obtain ⟨g, hg, c0, hcap⟩ := own_front hnx
  rw [hg] at e23 hnx
  have HNx := Lib.hid hnx
  have Hg := Lib.hid hg
  clear e3 hsz e24 HG hp2 ht2 hA2 hnx hg
  have HSr : Hid (Src w2 1 (some ⟨g, 0, none⟩) (rest.length + 1) (intsV .i64 (s :: rest))) := Src.of_own HNx.out
  have hrl : rest.length ≤ 64 := by
    have := HH.out.ok.nlen
    rw [Hh.out.2.2.1] at this
    simp only [List.length_cons] at this
    omega
  go_upto_region 21 with fail
  have He23 := Lib.hid e23
  by_cases hc1 : b.cnx = 1
  · have hr0 : rest = [] := List.eq_nil_of_length_eq_zero (by omega)
    subst hr0
    have HCl : Hid (Calls Tryz.prog 44 #[.slice (some ⟨g, 0, none⟩) 0 0] w2 fun e w' => ∃ A' c', e = .returned (.slice A' 0 c') ∧ w'.ownsRow w2.heap.size 3 1 (.slice A' 0 c') 0 (intsV .i64 []) ∧ Below w2.heap.size w2 w') := CloneN_any _ 0 0 [] (by omega) w2 (Src.of_at rfl (fun j u hu => by simp at hu)) (by simp)
    rw [hc1] at e23
    simp only [List.length_nil, Nat.zero_add] at e23
    go_wp2_with fail
    refine HCl.out.mono ?_
    rintro e w3 ⟨A3, c3, rfl, ho, hb⟩
    have ht3 : Turns w2 w3 (Vca.blk b.nx) := Turns.of_below hb _
    have hA3 := HA2.out.below hb
    have e23 : w3.cell? ⟨b.E, 23, none⟩ = some (.slice (some ⟨g, 0, none⟩) ((([] : List Nat)).length + 1) b.cnx) := keep_below hb _ _ He23.out
    have f23 := hA3.rE.frozen 23
    obtain ⟨T4, hA4, ht4, hT4, hTn4⟩ := nx_store HA2.out ht3 A3 c3 (([] : List Nat)) (own_mono ho (Nat.zero_le _)) (fun k hk => .inr (Vca.own_blk ho k hk).1) { HA2.out.ok with
      next := fun x hx => HH.out.ok.next x (by rw [Hh.out.2.2.1]; exact List.mem_cons_of_mem _ hx)
      nlen := by
        have := HH.out.ok.nlen
        rw [Hh.out.2.2.1] at this
        simp only [List.length_cons] at this
        show (([] : List Nat)).length ≤ 64
        omega } (.slice A3 (([] : List Nat)).length c3) rfl
    have HT4 : Hid (Turns w (w3.setCell ⟨b.E, 23, none⟩ (.slice A3 (([] : List Nat)).length c3)) T) := HT2.out.trans ht4 (fun k hk => .inl (by
      rcases List.mem_cons.1 hk with rfl | hk
      · exact hE1
      · exact HH.out.inT _ (by simp [Bn.ts, hk])))
    have HTn4 : Hid (∀ k ∈ T4, k ∈ T ∨ w.heap.size ≤ k) := fun k hk => by
      rcases hTn4 k hk with hk | hk
      · exact .inl hk
      · have := HT2.out.size; exact .inr (by omega)
    have HT44 := Lib.hid hT4
    have HPut : Hid (Calls Tryz.prog 45 #[.pointer (some ⟨b.E, 0, none⟩), .int .i64 s, .slice A0 l.length nb] (w3.setCell ⟨b.E, 23, none⟩ (.slice A3 (([] : List Nat)).length c3)) fun e w' => e = .returned (.int .u8 ((S.gotN (([] : List Nat))).putT c p : Nat)) ∧ Nx (w3.setCell ⟨b.E, 23, none⟩ (.slice A3 (([] : List Nat)).length c3)) w' { b with wr := none, nwr := 0, cwr := 0, nx := A3, cnx := c3 } T4 F c ((S.gotN (([] : List Nat))).putS c s p l)) :=
      put_any hA4 s p HP.out.1 HP.out.2.1 A0 nb l HP.out.2.2.1 HP.out.2.2.2.1 (fun W hW => HP.out.2.2.2.2.2 W (HT4.out.trans hW HTn4.out)) HP.out.2.2.2.2.1
    clear ho hb ht3 hA3 hA4 ht4 hT4 hTn4 HCl
    go_wp2_with fail
    refine HPut.out.mono ?_
    rintro e w5 ⟨rfl, hN⟩
    have HX : Hid (Nx w w5 b T F c ((S.gotN (([] : List Nat))).putS c s p l)) := Nx.after HT4.out rfl rfl HT44.out HTn4.out (fun k hk => .inl hk) hN
    clear hN HPut HT4 HTn4 HT44
    go_wp2
    go_ret
    exact ⟨rfl, HX.out⟩
  · have HCl : Hid (Calls Tryz.prog 44 #[.slice (some ⟨g, 1, none⟩) rest.length (b.cnx - 1)] w2 fun e w' => ∃ A' c', e = .returned (.slice A' rest.length c') ∧ w'.ownsRow w2.heap.size 3 1 (.slice A' rest.length c') rest.length (intsV .i64 rest) ∧ Below w2.heap.size w2 w') := CloneN_any _ rest.length _ _ (by omega) w2 (src_tail HSr.out) (intsV_one .i64 rest)
    go_wp2_with fail
    refine HCl.out.mono ?_
    rintro e w3 ⟨A3, c3, rfl, ho, hb⟩
    have ht3 : Turns w2 w3 (Vca.blk b.nx) := Turns.of_below hb _
    have hA3 := HA2.out.below hb
    have e23 : w3.cell? ⟨b.E, 23, none⟩ = some (.slice (some ⟨g, 0, none⟩) ((rest).length + 1) b.cnx) := keep_below hb _ _ He23.out
    have f23 := hA3.rE.frozen 23
    obtain ⟨T4, hA4, ht4, hT4, hTn4⟩ := nx_store HA2.out ht3 A3 c3 (rest) (own_mono ho (Nat.zero_le _)) (fun k hk => .inr (Vca.own_blk ho k hk).1) { HA2.out.ok with
      next := fun x hx => HH.out.ok.next x (by rw [Hh.out.2.2.1]; exact List.mem_cons_of_mem _ hx)
      nlen := by
        have := HH.out.ok.nlen
        rw [Hh.out.2.2.1] at this
        simp only [List.length_cons] at this
        show (rest).length ≤ 64
        omega } (.slice A3 (rest).length c3) rfl
    have HT4 : Hid (Turns w (w3.setCell ⟨b.E, 23, none⟩ (.slice A3 (rest).length c3)) T) := HT2.out.trans ht4 (fun k hk => .inl (by
      rcases List.mem_cons.1 hk with rfl | hk
      · exact hE1
      · exact HH.out.inT _ (by simp [Bn.ts, hk])))
    have HTn4 : Hid (∀ k ∈ T4, k ∈ T ∨ w.heap.size ≤ k) := fun k hk => by
      rcases hTn4 k hk with hk | hk
      · exact .inl hk
      · have := HT2.out.size; exact .inr (by omega)
    have HT44 := Lib.hid hT4
    have HPut : Hid (Calls Tryz.prog 45 #[.pointer (some ⟨b.E, 0, none⟩), .int .i64 s, .slice A0 l.length nb] (w3.setCell ⟨b.E, 23, none⟩ (.slice A3 (rest).length c3)) fun e w' => e = .returned (.int .u8 ((S.gotN (rest)).putT c p : Nat)) ∧ Nx (w3.setCell ⟨b.E, 23, none⟩ (.slice A3 (rest).length c3)) w' { b with wr := none, nwr := 0, cwr := 0, nx := A3, cnx := c3 } T4 F c ((S.gotN (rest)).putS c s p l)) :=
      put_any hA4 s p HP.out.1 HP.out.2.1 A0 nb l HP.out.2.2.1 HP.out.2.2.2.1 (fun W hW => HP.out.2.2.2.2.2 W (HT4.out.trans hW HTn4.out)) HP.out.2.2.2.2.1
    clear ho hb ht3 hA3 hA4 ht4 hT4 hTn4 HCl
    go_wp2_with fail
    refine HPut.out.mono ?_
    rintro e w5 ⟨rfl, hN⟩
    have HX : Hid (Nx w w5 b T F c ((S.gotN (rest)).putS c s p l)) := Nx.after HT4.out rfl rfl HT44.out HTn4.out (fun k hk => .inl hk) hN
    clear hN HPut HT4 HTn4 HT44
    go_wp2
    go_ret
    exact ⟨rfl, HX.out⟩
end
end Go.Proofs.YtclhhdodebdmjaaGreat
