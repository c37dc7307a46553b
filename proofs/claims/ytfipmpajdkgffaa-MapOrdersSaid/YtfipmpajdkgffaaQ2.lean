/- What follows is laid together from several texts of mine, in their order. -/
import Derived.Test.YtfipmpajdkgffaaQ1
import Derived.Deep.OwnRows
import Derived.Maps.RangeWalk

namespace Go.Proofs.Ytfipmpajdkgffaa
open Go.RowKit Go.MapKept Go.ChangeMaps
attribute [local go_sem] Oper.semAt_some
set_option linter.unusedVariables false
set_option linter.unusedSimpArgs false

theorem wide_fn (f : FuncId) : Fence.wide.fn f := trivial
attribute [local simp, local go_sem] wide_fn
set_option maxHeartbeats 400000 in
theorem CloneB_any (A : Option Addr) (n c : Nat) (xs : List Value) (hlen : n ≤ 140737488351232) (w : World) (hs : Src w 1 A n xs) (h1 : ∀ u ∈ xs, u.oneCell' = true) :
    Calls Try.prog 44 #[.slice A n c] w fun e w' => ∃ A' c', e = .returned (.slice A' n c') ∧ w'.ownsRow w.heap.size 5 1 (.slice A' n c') n xs ∧ Below w.heap.size w w' := by
  obtain ⟨i0, hi, hz0, hz1, hz2⟩ := info_parts bytes_info
  have q22 : ∀ (w : World) (a : Option Addr) (n c n' c' : Nat), (binOp .eql 43 (.slice a n c) (.slice none n' c')).run Try.prog w = .ok (.bool a.isNone) w := fun w a n c n' c' => Lib.run_eql_slice_nil w _ _ a n c n' c' Try.underlying43
  cases A with
  | none =>
    have hn : n = 0 := by
      rcases Nat.eq_zero_or_pos n with h | h
      · exact h
      · obtain ⟨_, e, _⟩ := hs.lies h; cases e
    subst hn
    obtain rfl : xs = [] := List.eq_nil_of_length_eq_zero (by simpa using hs.len)
    clear hs h1
    go_enter Try.func44, Try.ntmps44
    go_wp2
    go_ret
    exact ⟨_, _, rfl, World.ownsRow_nil _ _ _ _, Below.refl _ _⟩
  | some ad =>
    have H1 := Lib.hid h1
    have HO := Lib.hid (World.ownsRow_made (base := w.heap.size) (size := 1) (e := 5) w #[] 0 (Nat.le_refl _) (Nat.zero_le _) rfl)
    have HS := Lib.hid (hs.keep (w' := w.alloc (.cells #[] 5)) (fun a v h => (World.cell?_alloc_lt _ _ _ (World.block_lt_of_cell? w a h)).trans h))
    have HB : Hid (Below w.heap.size w (w.alloc (.cells #[] 5))) := by unfold Hid; (repeat (first | (with_reducible refine Below.drew ?_) | (with_reducible refine below_drewN0 ?_ _) | ((with_reducible refine Below.setCell ?_ ?_ _); rotate_left; focus (first | omega | (simp; done) | (simp; omega) | (simp at *; omega))) | ((with_reducible refine Below.alloc ?_ ?_ _); rotate_left; focus (first | omega | (simp; done) | (simp; omega) | (simp at *; omega))) | (with_reducible exact Below.refl _ _)))
    have b1 : Hid (0 + n ≤ maxLen) := by unfold Hid maxLen; omega
    have b2 : Hid ((0 + n) * 1 ≤ 140737488355328) := by unfold Hid; omega
    clear hs h1
    go_enter Try.func44, Try.ntmps44
    go_wp2_with (at_builtin; refine wpList_append_src _ rfl _ _ 43 rfl w.heap.size 5 i0 (.int .u8 0) 1 1 Try.underlying43 hi hz0 hz1 hz2 rfl (by decide) _ 0 [] rfl HO.out (some ad) n c xs rfl HS.out H1.out b1.out b2.out (by simp) ?_; intro v' w1 hown hgrow hv)
    rw [Nat.zero_add, List.nil_append] at hown
    obtain ⟨A', c', rfl, _, _⟩ := own_shape hown
    have hown := Lib.hid hown
    go_wp2
    go_ret
    refine ⟨A', c', rfl, hown.out, HB.out.grown hgrow (by simp) ?_⟩
    intro k hk
    have : w.heap.size = k := by injection hk
    omega

theorem nil_put (b : Nat) (w : World) : (nilAhead 235 33 (.pointer (some ⟨b, 0, none⟩)) "Put").run Try.prog w = .ok (some false) w := by kernel_rfl
theorem met_put (b : Nat) (w : World) : (method 235 33 (.pointer (some ⟨b, 0, none⟩)) "Put").run Try.prog w = .ok (36, .pointer (some ⟨b, 0, none⟩)) w := by kernel_rfl
theorem nil_get (b : Nat) (w : World) : (nilAhead 235 33 (.pointer (some ⟨b, 0, none⟩)) "Get").run Try.prog w = .ok (some false) w := by kernel_rfl
theorem met_get (b : Nat) (w : World) : (method 235 33 (.pointer (some ⟨b, 0, none⟩)) "Get").run Try.prog w = .ok (84, .pointer (some ⟨b, 0, none⟩)) w := by kernel_rfl

/-- What a part's bytes on the shelf are. -/
def okB (page : Nat) (d : List Nat) : Prop := d.length = page ∧ ∀ i, i < page / 4 → num4 d (4 * i) ≤ 262144
instance (page : Nat) (d : List Nat) : Decidable (okB page d) := by unfold okB; exact inferInstance
def readR (S : Sm) (sh : Sh) (n : Nat) : Option (List Nat) :=
  if S.dir n = 0 then some (List.replicate S.page 0) else match sh.L[S.dir n - 1]? with
  | none => none
  | some d => if okB S.page d then some d else none

theorem zeros_made (n : Nat) : madeCells #[.int .u8 0] n = (intsV .u8 (List.replicate n 0)).toArray := by
  apply Array.ext
  · simp [madeCells, intsV]
  · intro i h1 h2
    simp [madeCells, intsV, Nat.mod_one]
/-- The shelf's bytes, looked through. -/
theorem SmAt.cells {w : World} {Mb Sb Q Db : Nat} {P pb : Nat → Nat} {T F : List Nat} {S : Sm} {sh : Sh} (h : SmAt w Mb Sb Q Db P pb T F S sh) : w.cell? ⟨Mb, 1, none⟩ = some (.int .i64 S.page) ∧ w.cell? ⟨Mb, 3, none⟩ = some (.iface 33 (.pointer (some ⟨Sb, 0, none⟩))) ∧ w.cell? ⟨Mb, 5, none⟩ = some (.slice (some ⟨Db, 0, none⟩) S.np S.np) ∧ ∀ n, n < S.np → w.cell? ⟨Db, n, none⟩ = some (.int .u32 (S.dir n)) := by
  have c1 := h.row.cell 1
  have c3 := h.row.cell 3
  have c5 := h.row.cell 5
  simp only [List.getElem?_toArray, List.getElem?_cons_zero, List.getElem?_cons_succ] at c1 c3 c5
  obtain ⟨cs, d1, d2, d3⟩ := h.dir
  exact ⟨c1, c3, c5, fun n hn => by rw [d1.cell]; exact (d3 n hn).1⟩
set_option maxRecDepth 100000 in
set_option maxHeartbeats 2000000 in
theorem read_none (w : World) (Mb Sb Q Db : Nat) (P pb : Nat → Nat) (T F : List Nat) (S : Sm) (sh : Sh) (h : SmAt w Mb Sb Q Db P pb T F S sh) (n : Nat) (hn : n < S.np) (h0 : S.dir n = 0) :
    Calls Try.prog 46 #[.pointer (some ⟨Mb, 0, none⟩), .int .i64 n] w fun e w' => Below w.heap.size w w' ∧ ∃ A c, e = .returned (.tuple #[.slice A S.page c, .int .i64 0]) ∧ w'.ownsRow w.heap.size 5 1 (.slice A S.page c) S.page (intsV .u8 (List.replicate S.page 0)) := by
  obtain ⟨i1, ji, jz0, jz1, jz2⟩ := info_parts bytes_info
  obtain ⟨c1, c3, c5, hd⟩ := h.cells
  have cd := hd n hn
  have hdv : S.dir n < 4294967296 := by obtain ⟨cs, d1, d2, d3⟩ := h.dir; exact (d3 n hn).2
  have hpg : 16 ≤ S.page ∧ S.page ≤ 4096 := ⟨h.sh.2.2.1.1, h.sh.2.2.1.2.1⟩
  rw [h0] at cd
  obtain ⟨pg, hp⟩ : ∃ pg, pg = S.page := ⟨_, rfl⟩
  obtain ⟨np, hnp⟩ : ∃ np, np = S.np := ⟨_, rfl⟩
  rw [← hp] at c1 hpg ⊢
  rw [← hnp] at c5 hn
  have HBk : Hid (i1.bytes * pg ≤ 281474976710656) := by unfold Hid; rw [jz2]; omega
  have HW : Hid (Below w.heap.size w (w.alloc (.cells (madeCells #[.int .u8 0] pg) 5)) ∧ (w.alloc (.cells (madeCells #[.int .u8 0] pg) 5)).ownsRow w.heap.size 5 1 (.slice (some ⟨w.heap.size, 0, none⟩) pg pg) pg (intsV .u8 (List.replicate pg 0))) := by
    refine ⟨by (repeat (first | (with_reducible refine Below.drew ?_) | (with_reducible refine below_drewN0 ?_ _) | ((with_reducible refine Below.setCell ?_ ?_ _); rotate_left; focus (first | omega | (simp; done) | (simp; omega) | (simp at *; omega))) | ((with_reducible refine Below.alloc ?_ ?_ _); rotate_left; focus (first | omega | (simp; done) | (simp; omega) | (simp at *; omega))) | (with_reducible exact Below.refl _ _))), ?_⟩
    rw [zeros_made]
    exact ⟨by simp [intsV], .inr ⟨_, pg, _, rfl, Nat.le_refl _, Row.fresh _ _ _, Nat.le_refl _, by unfold maxLen; omega, by simp [intsV], by simp [intsV]⟩⟩
  clear h hd h0 hp hnp hdv
  go_enter Try.func46, Try.ntmps46
  go_wp2_with (at_make; go_must (with_reducible refine wpList_make_row _ (o := ⟨some 21, .makeSlice 43 (.tmp 20) (.tmp 20), _, _, _, _⟩) rfl (.tmp 20) (.tmp 20) 43 rfl 5 i1 _ Try.underlying43 ji jz0 jz1 rfl .i64 .i64 pg rfl rfl HBk.out (by omega) ?_))
  go_ret2
  exact ⟨HW.out.1, _, _, rfl, HW.out.2⟩

set_option maxRecDepth 100000 in
set_option maxHeartbeats 2000000 in
theorem read_out (w : World) (Mb Sb Q Db : Nat) (P pb : Nat → Nat) (T F : List Nat) (S : Sm) (sh : Sh) (h : SmAt w Mb Sb Q Db P pb T F S sh) (n : Nat) (hn : n < S.np) (h0 : 1 ≤ S.dir n) (hk : sh.L.length ≤ S.dir n - 1) :
    Calls Try.prog 46 #[.pointer (some ⟨Mb, 0, none⟩), .int .i64 n] w fun e w' => Below w.heap.size w w' ∧ e = .returned (.tuple #[.slice none 0 0, .int .i64 8]) := by
  obtain ⟨c1, c3, c5, hd⟩ := h.cells
  have cd := hd n hn
  have hdv : S.dir n < 4294967296 := by obtain ⟨cs, d1, d2, d3⟩ := h.dir; exact (d3 n hn).2
  have hpg : 16 ≤ S.page ∧ S.page ≤ 4096 := ⟨h.sh.2.2.1.1, h.sh.2.2.1.2.1⟩
  obtain ⟨v1, v2, xs, s1, s2, _⟩ := h.shelf.at'
  obtain ⟨Av, cv, rfl, _, _⟩ := own_shape s2
  have HSr := Lib.hid s1
  obtain ⟨v, hv⟩ : ∃ v, v = S.dir n := ⟨_, rfl⟩
  obtain ⟨np, hnp⟩ : ∃ np, np = S.np := ⟨_, rfl⟩
  rw [← hnp] at c5 hn
  rw [← hv] at cd hdv h0 hk
  replace hdv : 1 ≤ v ∧ v < 4294967296 := ⟨h0, hdv⟩
  have HG : Hid (∀ w2, Below w.heap.size w w2 → Calls Try.prog 84 #[.pointer (some ⟨Sb, 0, none⟩), .agg #[.int .i64 ((v - 1) / 256 : Nat), .int .i64 ((v - 1) % 256 : Nat)]] w2 fun e w' => e = .returned (.tuple #[.slice none 0 0, .int .i64 8]) ∧ Below w2.heap.size w2 w') := fun w2 hb => ShGet_out w2 Sb (v - 1) _ _ _ _ _ (HSr.out.below hb HSr.out.lt) hk (by omega)
  clear h hd h0 hv hnp hpg s1 s2 c1 hk
  have hmx : Try.prog.follows .mixedOrders = true := by kernel_rfl
  have k1 : ∀ t : Later w, t.u.cell? ⟨Mb, 3, none⟩ = some (.iface 33 (.pointer (some ⟨Sb, 0, none⟩))) := fun t => keep_below t.h _ _ c3
  have k2 : ∀ t : Later w, t.u.cell? ⟨Mb, 5, none⟩ = some (.slice (some ⟨Db, 0, none⟩) np np) := fun t => keep_below t.h _ _ c5
  have k3 : ∀ t : Later w, t.u.cell? ⟨Db, n, none⟩ = some (.int .u32 v) := fun t => keep_below t.h _ _ cd
  have HPl := Lib.hid (place_any v hdv w.drew)
  have hS : ∃ t : Later w, w.drew = t.u := ⟨⟨_, (Below.refl _ _).drew⟩, rfl⟩
  have hv0 : ¬ (v : Int) = 0 := by omega
  have hnn := nil_get Sb
  have hmm := met_get Sb
  go_enter Try.func46, Try.ntmps46
  go_wp2_with fail
  refine wp_region_noPanic ?_
  refine region_treeW (fun u => ∃ t : Later w, u = t.u) (Tn.takes [0, 1, 2, 3, 4, 5, 6, 7, 8, 9, 10, 12, 13] (.one 11 (.one 14 (Tn.takes [15, 16, 17, 18, 19] .nil)))) hmx (by kernel_rfl) (fun _ _ _ _ _ h => h) hS ?_
  simp only [Tn.takes]
  (repeat ((with_reducible refine wpTree_take (by with_unfolding_all exact rfl) ?_); (with_reducible (show wpQuiet _ _ _ _ (_ :: _) _)); go_big_quiet_step (fail); (with_reducible refine wpQuiet_nil ?_)))
  (with_reducible refine wpTree_one (by with_unfolding_all exact rfl) ?_)
  gi_wp2_with fail
  refine ((callsIn_wide (n := 8)).2 HPl.out).mono ?_
  rintro e w2 ⟨rfl, hb⟩
  have HB2 : Hid (Below w.heap.size w w2) := (Below.refl _ _).drew.trans hb
  clear hb
  gi_wp2_with fail
  (with_reducible refine outQ_normal ?_ ?_); exact ⟨⟨w2, HB2.out⟩, rfl⟩
  (with_reducible refine wpTree_one (by with_unfolding_all exact rfl) ?_)
  have HG2 := Lib.hid (HG.out w2 HB2.out)
  gi_wp2_with fail
  refine ((callsIn_wide (n := 8)).2 HG2.out).mono ?_
  rintro e w3 ⟨rfl, hb⟩
  have HB3 : Hid (Below w.heap.size w w3) := HB2.out.trans (hb.mono HB2.out.size)
  clear hb
  gi_wp2_with fail
  (with_reducible refine outQ_normal ?_ ?_); exact ⟨⟨w3, HB3.out⟩, rfl⟩
  (repeat ((with_reducible refine wpTree_take (by with_unfolding_all exact rfl) ?_); (with_reducible (show wpQuiet _ _ _ _ (_ :: _) _)); go_big_quiet_step (fail); (with_reducible refine wpQuiet_nil ?_)))
  with_reducible refine wpTree_nil ?_
  refine NoPanic.normal ?_
  clear k1 k2 k3 hS
  go_wp2
  go_ret2
  exact ⟨HB3.out, rfl⟩

set_option maxRecDepth 100000 in
set_option maxHeartbeats 2000000 in
theorem read_len (w : World) (Mb Sb Q Db : Nat) (P pb : Nat → Nat) (T F : List Nat) (S : Sm) (sh : Sh) (h : SmAt w Mb Sb Q Db P pb T F S sh) (n : Nat) (hn : n < S.np) (h0 : 1 ≤ S.dir n) (d : List Nat) (hdL : sh.L[S.dir n - 1]? = some d) (hl : sh.L.length ≤ 1048576) (hdl : d.length ≤ 65536) (hne : d.length ≠ S.page) :
    Calls Try.prog 46 #[.pointer (some ⟨Mb, 0, none⟩), .int .i64 n] w fun e w' => Below w.heap.size w w' ∧ e = .returned (.tuple #[.slice none 0 0, .int .i64 8]) := by
  obtain ⟨c1, c3, c5, hd⟩ := h.cells
  have cd := hd n hn
  have hdv : S.dir n < 4294967296 := by obtain ⟨cs, d1, d2, d3⟩ := h.dir; exact (d3 n hn).2
  have hpg : 16 ≤ S.page ∧ S.page ≤ 4096 := ⟨h.sh.2.2.1.1, h.sh.2.2.1.2.1⟩
  have hsm : ∀ u ∈ d, u < 256 := h.shelf.small d (List.mem_of_getElem? hdL)
  have HSh := Lib.hid h.shelf
  obtain ⟨v, hv⟩ : ∃ v, v = S.dir n := ⟨_, rfl⟩
  obtain ⟨np, hnp⟩ : ∃ np, np = S.np := ⟨_, rfl⟩
  obtain ⟨pg, hp⟩ : ∃ pg, pg = S.page := ⟨_, rfl⟩
  obtain ⟨bl, hbl⟩ : ∃ bl, bl = d.length := ⟨_, rfl⟩
  rw [← hnp] at c5 hn
  rw [← hv] at cd hdv h0 hdL
  replace hdv : 1 ≤ v ∧ v < 4294967296 := ⟨h0, hdv⟩
  have HG : Hid (∀ w2, Below w.heap.size w w2 → Calls Try.prog 84 #[.pointer (some ⟨Sb, 0, none⟩), .agg #[.int .i64 ((v - 1) / 256 : Nat), .int .i64 ((v - 1) % 256 : Nat)]] w2 fun e w' => ∃ A c, e = .returned (.tuple #[.slice A bl c, .int .i64 0]) ∧ w'.ownsRow w2.heap.size 5 1 (.slice A bl c) bl (intsV .u8 d) ∧ Below w2.heap.size w2 w') := fun w2 hb => by rw [hbl]; exact ShGet_in w2 Sb (v - 1) T F sh (HSh.out.keep (Turns.of_below hb []) (by simp)) d hdL hl hdl
  rw [← hp] at c1 hpg hne
  rw [← hbl] at hne hdl
  have hg1 : ¬ (bl : Int) = pg := by omega
  clear h hd h0 hv hnp hp hbl hdL HSh
  have hmx : Try.prog.follows .mixedOrders = true := by kernel_rfl
  have k1 : ∀ t : Later w, t.u.cell? ⟨Mb, 3, none⟩ = some (.iface 33 (.pointer (some ⟨Sb, 0, none⟩))) := fun t => keep_below t.h _ _ c3
  have k2 : ∀ t : Later w, t.u.cell? ⟨Mb, 5, none⟩ = some (.slice (some ⟨Db, 0, none⟩) np np) := fun t => keep_below t.h _ _ c5
  have k3 : ∀ t : Later w, t.u.cell? ⟨Db, n, none⟩ = some (.int .u32 v) := fun t => keep_below t.h _ _ cd
  have HPl := Lib.hid (place_any v hdv w.drew)
  have hS : ∃ t : Later w, w.drew = t.u := ⟨⟨_, (Below.refl _ _).drew⟩, rfl⟩
  have hv0 : ¬ (v : Int) = 0 := by omega
  have hnn := nil_get Sb
  have hmm := met_get Sb
  go_enter Try.func46, Try.ntmps46
  go_wp2_with fail
  refine wp_region_noPanic ?_
  refine region_treeW (fun u => ∃ t : Later w, u = t.u) (Tn.takes [0, 1, 2, 3, 4, 5, 6, 7, 8, 9, 10, 12, 13] (.one 11 (.one 14 (Tn.takes [15, 16, 17, 18, 19] .nil)))) hmx (by kernel_rfl) (fun _ _ _ _ _ h => h) hS ?_
  simp only [Tn.takes]
  (repeat ((with_reducible refine wpTree_take (by with_unfolding_all exact rfl) ?_); (with_reducible (show wpQuiet _ _ _ _ (_ :: _) _)); go_big_quiet_step (fail); (with_reducible refine wpQuiet_nil ?_)))
  (with_reducible refine wpTree_one (by with_unfolding_all exact rfl) ?_)
  gi_wp2_with fail
  refine ((callsIn_wide (n := 8)).2 HPl.out).mono ?_
  rintro e w2 ⟨rfl, hb⟩
  have HB2 : Hid (Below w.heap.size w w2) := (Below.refl _ _).drew.trans hb
  clear hb
  gi_wp2_with fail
  (with_reducible refine outQ_normal ?_ ?_); exact ⟨⟨w2, HB2.out⟩, rfl⟩
  (with_reducible refine wpTree_one (by with_unfolding_all exact rfl) ?_)
  have HG2 := Lib.hid (HG.out w2 HB2.out)
  gi_wp2_with fail
  refine ((callsIn_wide (n := 8)).2 HG2.out).mono ?_
  rintro e w3 ⟨A, c, rfl, hown, hb⟩
  have HB3 : Hid (Below w.heap.size w w3) := HB2.out.trans (hb.mono HB2.out.size)
  have HO3 : Hid (w3.ownsRow w.heap.size 5 1 (.slice A bl c) bl (intsV .u8 d)) := own_mono hown HB2.out.size
  clear hb hown HG
  gi_wp2_with fail
  (with_reducible refine outQ_normal ?_ ?_); exact ⟨⟨w3, HB3.out⟩, rfl⟩
  (repeat ((with_reducible refine wpTree_take (by with_unfolding_all exact rfl) ?_); (with_reducible (show wpQuiet _ _ _ _ (_ :: _) _)); go_big_quiet_step (fail); (with_reducible refine wpQuiet_nil ?_)))
  with_reducible refine wpTree_nil ?_
  refine NoPanic.normal ?_
  clear k1 k2 k3 hS
  have c1 := keep_below HB3.out _ _ c1
  go_wp2
  go_ret2
  exact ⟨HB3.out, rfl⟩
set_option maxRecDepth 100000 in
set_option maxHeartbeats 4000000 in
theorem read_in (w : World) (Mb Sb Q Db : Nat) (P pb : Nat → Nat) (T F : List Nat) (S : Sm) (sh : Sh) (h : SmAt w Mb Sb Q Db P pb T F S sh) (n : Nat) (hn : n < S.np) (h0 : 1 ≤ S.dir n) (d : List Nat) (hdL : sh.L[S.dir n - 1]? = some d) (hl : sh.L.length ≤ 1048576) (hdl : d.length ≤ 65536) (hne : d.length = S.page) :
    Calls Try.prog 46 #[.pointer (some ⟨Mb, 0, none⟩), .int .i64 n] w fun e w' => Below w.heap.size w w' ∧ ((∀ i, i < S.page / 4 → num4 d (4 * i) ≤ 262144) → ∃ A c, e = .returned (.tuple #[.slice A S.page c, .int .i64 0]) ∧ w'.ownsRow w.heap.size 5 1 (.slice A S.page c) S.page (intsV .u8 d)) ∧ (¬ (∀ i, i < S.page / 4 → num4 d (4 * i) ≤ 262144) → e = .returned (.tuple #[.slice none 0 0, .int .i64 8])) := by
  obtain ⟨c1, c3, c5, hd⟩ := h.cells
  have cd := hd n hn
  have hdv : S.dir n < 4294967296 := by obtain ⟨cs, d1, d2, d3⟩ := h.dir; exact (d3 n hn).2
  have hpg : 16 ≤ S.page ∧ S.page ≤ 4096 := ⟨h.sh.2.2.1.1, h.sh.2.2.1.2.1⟩
  have hsm : ∀ u ∈ d, u < 256 := h.shelf.small d (List.mem_of_getElem? hdL)
  have HSh := Lib.hid h.shelf
  obtain ⟨v, hv⟩ : ∃ v, v = S.dir n := ⟨_, rfl⟩
  obtain ⟨np, hnp⟩ : ∃ np, np = S.np := ⟨_, rfl⟩
  obtain ⟨pg, hp⟩ : ∃ pg, pg = S.page := ⟨_, rfl⟩
  obtain ⟨bl, hbl⟩ : ∃ bl, bl = d.length := ⟨_, rfl⟩
  rw [← hnp] at c5 hn
  rw [← hv] at cd hdv h0 hdL
  replace hdv : 1 ≤ v ∧ v < 4294967296 := ⟨h0, hdv⟩
  have HG : Hid (∀ w2, Below w.heap.size w w2 → Calls Try.prog 84 #[.pointer (some ⟨Sb, 0, none⟩), .agg #[.int .i64 ((v - 1) / 256 : Nat), .int .i64 ((v - 1) % 256 : Nat)]] w2 fun e w' => ∃ A c, e = .returned (.tuple #[.slice A bl c, .int .i64 0]) ∧ w'.ownsRow w2.heap.size 5 1 (.slice A bl c) bl (intsV .u8 d) ∧ Below w2.heap.size w2 w') := fun w2 hb => by rw [hbl]; exact ShGet_in w2 Sb (v - 1) T F sh (HSh.out.keep (Turns.of_below hb []) (by simp)) d hdL hl hdl
  have h4 : S.page % 4 = 0 := h.sh.2.2.1.2.2
  rw [← hp] at c1 hpg hne h4 ⊢
  rw [← hbl] at hne hdl
  subst hne
  have HBl := Lib.hid hbl
  have HSm := Lib.hid hsm
  obtain ⟨pe, rfl⟩ : ∃ pe, bl = 4 * pe := ⟨bl / 4, by omega⟩
  rw [show 4 * pe / 4 = pe by omega]
  clear h hd h0 hv hnp hp hbl hdL HSh h4 hsm
  obtain ⟨pg, hpg'⟩ : ∃ pg, pg = 4 * pe := ⟨_, rfl⟩
  have HPg := Lib.hid hpg'
  obtain ⟨bl, hbl'⟩ : ∃ bl, bl = 4 * pe := ⟨_, rfl⟩
  rw [← hbl'] at HG hpg c1 hdl ⊢
  have HPe := Lib.hid hbl'
  clear hbl' hpg' HPg pg
  have hmx : Try.prog.follows .mixedOrders = true := by kernel_rfl
  have k1 : ∀ t : Later w, t.u.cell? ⟨Mb, 3, none⟩ = some (.iface 33 (.pointer (some ⟨Sb, 0, none⟩))) := fun t => keep_below t.h _ _ c3
  have k2 : ∀ t : Later w, t.u.cell? ⟨Mb, 5, none⟩ = some (.slice (some ⟨Db, 0, none⟩) np np) := fun t => keep_below t.h _ _ c5
  have k3 : ∀ t : Later w, t.u.cell? ⟨Db, n, none⟩ = some (.int .u32 v) := fun t => keep_below t.h _ _ cd
  have HPl := Lib.hid (place_any v hdv w.drew)
  have hS : ∃ t : Later w, w.drew = t.u := ⟨⟨_, (Below.refl _ _).drew⟩, rfl⟩
  have hv0 : ¬ (v : Int) = 0 := by omega
  have hnn := nil_get Sb
  have hmm := met_get Sb
  go_enter Try.func46, Try.ntmps46
  go_wp2_with fail
  refine wp_region_noPanic ?_
  refine region_treeW (fun u => ∃ t : Later w, u = t.u) (Tn.takes [0, 1, 2, 3, 4, 5, 6, 7, 8, 9, 10, 12, 13] (.one 11 (.one 14 (Tn.takes [15, 16, 17, 18, 19] .nil)))) hmx (by kernel_rfl) (fun _ _ _ _ _ h => h) hS ?_
  simp only [Tn.takes]
  (repeat ((with_reducible refine wpTree_take (by with_unfolding_all exact rfl) ?_); (with_reducible (show wpQuiet _ _ _ _ (_ :: _) _)); go_big_quiet_step (fail); (with_reducible refine wpQuiet_nil ?_)))
  (with_reducible refine wpTree_one (by with_unfolding_all exact rfl) ?_)
  gi_wp2_with fail
  refine ((callsIn_wide (n := 8)).2 HPl.out).mono ?_
  rintro e w2 ⟨rfl, hb⟩
  have HB2 : Hid (Below w.heap.size w w2) := (Below.refl _ _).drew.trans hb
  clear hb
  gi_wp2_with fail
  (with_reducible refine outQ_normal ?_ ?_); exact ⟨⟨w2, HB2.out⟩, rfl⟩
  (with_reducible refine wpTree_one (by with_unfolding_all exact rfl) ?_)
  have HG2 := Lib.hid (HG.out w2 HB2.out)
  gi_wp2_with fail
  refine ((callsIn_wide (n := 8)).2 HG2.out).mono ?_
  rintro e w3 ⟨A, c, rfl, hown, hb⟩
  have HB3 : Hid (Below w.heap.size w w3) := HB2.out.trans (hb.mono HB2.out.size)
  have HO3 : Hid (w3.ownsRow w.heap.size 5 1 (.slice A bl c) bl (intsV .u8 d)) := own_mono hown HB2.out.size
  clear hb hown HG
  gi_wp2_with fail
  (with_reducible refine outQ_normal ?_ ?_); exact ⟨⟨w3, HB3.out⟩, rfl⟩
  (repeat ((with_reducible refine wpTree_take (by with_unfolding_all exact rfl) ?_); (with_reducible (show wpQuiet _ _ _ _ (_ :: _) _)); go_big_quiet_step (fail); (with_reducible refine wpQuiet_nil ?_)))
  with_reducible refine wpTree_nil ?_
  refine NoPanic.normal ?_
  clear k1 k2 k3 hS
  have c1 := keep_below HB3.out _ _ c1
  obtain ⟨g, rfl⟩ : ∃ g, A = some ⟨g, 0, none⟩ := by
    rcases HO3.out.2 with ⟨e1, e2⟩ | ⟨g, cap, cur, e1, _⟩
    · omega
    · injection e1 with e1; exact ⟨g, e1⟩
  obtain ⟨hcc1, hcc2⟩ : bl ≤ c ∧ c ≤ maxLen := by
    obtain ⟨A', c', e, h1, h2⟩ := own_shape HO3.out
    injection e with e1 e2 e3; subst e3; exact ⟨h1, h2⟩
  unfold maxLen at hcc2
  have HC3 := Lib.hid (own_cells8 HO3.out (by rw [← HBl.out, HPe.out])).1
  go_wp2
  go_loopw [8] (fun i wr => ∃ j : Nat, i = .int .i64 (4 * j : Nat) ∧ j ≤ pe ∧ (∀ i, i < j → num4 d (4 * i) ≤ 262144) ∧ Below w3.heap.size w3 wr) (fun i _ => 70000 - (intOf i).toNat)
  case atStart => exact ⟨0, rfl, by omega, fun i hi => by omega, Below.refl _ _⟩
  case round =>
    obtain ⟨j, rfl, hj, hpre, hb⟩ := hrel
    have HPre := Lib.hid hpre
    have HB := Lib.hid hb
    clear hpre hb
    by_cases hlt : j < pe
    · have hlt4 : 4 * j < bl ∧ 4 ≤ bl - 4 * j := by have := HPe.out; omega
      obtain ⟨hlt4, hle4⟩ := hlt4
      have HGt : Hid (Calls Try.prog 26 #[.slice (some ⟨g, 4 * j, none⟩) (bl - 4 * j) (c - 4 * j)] wr fun e w' => e = .returned (.int .u32 (num4 d (4 * j))) ∧ ∃ k, w' = wr.drewN k) := get_any _ _ d (4 * j) hle4 HSm.out wr g (4 * j) (fun i hi => by
        obtain ⟨b, off, e1, hc⟩ := (HC3.out.keep (keep_below HB.out)) (4 * j + i) (by rw [← HBl.out, ← HPe.out]; omega)
        injection e1 with e1; injection e1 with e1 e2 e3; subst e1; subst e2
        rw [Nat.zero_add] at hc
        exact hc)
      have HN4 : Hid (num4 d (4 * j) < 4294967296) := by
        have h1 := getD_lt HSm.out (4 * j)
        have h2 := getD_lt HSm.out (4 * j + 1)
        have h3 := getD_lt HSm.out (4 * j + 2)
        have h4 := getD_lt HSm.out (4 * j + 3)
        unfold Hid num4; omega
      go_wp2_with fail
      refine HGt.out.mono ?_
      rintro e w4 ⟨rfl, k, rfl⟩
      have HM := Lib.hid (may_any _ HN4.out (wr.drewN k))
      obtain ⟨nv, hnv⟩ : ∃ nv, nv = num4 d (4 * j) := ⟨_, rfl⟩
      have HNv := Lib.hid hnv
      rw [← hnv] at HM ⊢
      clear hnv HGt
      go_wp2_with fail
      refine HM.out.mono ?_
      rintro e w4 ⟨rfl, hb⟩
      have HB4 : Hid (Below w3.heap.size w3 w4) := (below_drewN0 HB.out k).trans (hb.mono (by simpa using HB.out.size))
      clear HM hb
      by_cases hm : nv ≤ 262144
      · rw [decide_eq_true hm]
        have HPre2 : Hid (∀ i, i < j + 1 → num4 d (4 * i) ≤ 262144) := fun i hi => by
          rcases Nat.lt_or_ge i j with h | h
          · exact HPre.out i h
          · obtain rfl : i = j := by omega
            rw [← HNv.out]; exact hm
        go_wp2
        go_roundw
        case rel => exact ⟨j + 1, by go_num, by omega, HPre2.out, HB4.out⟩
        case measure => simp [intOf]; omega
      · rw [decide_eq_false hm]
        go_wp2
        go_ret2
        exact ⟨HB3.out.trans (HB4.out.mono HB3.out.size), fun hall => absurd (hall j hlt) (by rw [← HNv.out]; exact hm), fun _ => rfl⟩
    · obtain rfl : j = pe := by omega
      have hnl : ¬ 4 * j < bl := by have := HPe.out; omega
      have HCl := Lib.hid (CloneB_any (some ⟨g, 0, none⟩) bl c (intsV .u8 d) (by omega) wr ((Src.of_own (own_below HO3.out HB.out))) (intsV_one .u8 d))
      go_wp2_with fail
      refine HCl.out.mono ?_
      rintro e w4 ⟨A', c', rfl, hown, hb⟩
      have HB4 : Hid (Below w.heap.size w w4) := HB3.out.trans ((HB.out.trans (hb.mono HB.out.size)).mono HB3.out.size)
      have HO4 : Hid (w4.ownsRow w.heap.size 5 1 (.slice A' bl c') bl (intsV .u8 d)) := own_mono hown (Nat.le_trans HB3.out.size HB.out.size)
      clear HCl hown hb
      go_wp2
      go_ret2
      exact ⟨HB4.out, fun _ => ⟨_, _, rfl, HO4.out⟩, fun hx => absurd HPre.out hx⟩
/-- What read answers. -/
theorem read_any (w : World) (Mb Sb Q Db : Nat) (P pb : Nat → Nat) (T F : List Nat) (S : Sm) (sh : Sh) (h : SmAt w Mb Sb Q Db P pb T F S sh) (n : Nat) (hn : n < S.np) (hl : sh.L.length ≤ 1048576) (hdl : ∀ d ∈ sh.L, d.length ≤ 65536) :
    Calls Try.prog 46 #[.pointer (some ⟨Mb, 0, none⟩), .int .i64 n] w fun e w' => Below w.heap.size w w' ∧ match readR S sh n with | some d => ∃ A c, e = .returned (.tuple #[.slice A S.page c, .int .i64 0]) ∧ w'.ownsRow w.heap.size 5 1 (.slice A S.page c) S.page (intsV .u8 d) | none => e = .returned (.tuple #[.slice none 0 0, .int .i64 8]) := by
  unfold readR
  by_cases h0 : S.dir n = 0
  · rw [if_pos h0]
    exact read_none w Mb Sb Q Db P pb T F S sh h n hn h0
  · rw [if_neg h0]
    cases hd : sh.L[S.dir n - 1]? with
    | none => exact read_out w Mb Sb Q Db P pb T F S sh h n hn (by omega) (List.getElem?_eq_none_iff.1 hd)
    | some d =>
      have hm := hdl d (List.mem_of_getElem? hd)
      by_cases hp : d.length = S.page
      · refine (read_in w Mb Sb Q Db P pb T F S sh h n hn (by omega) d hd hl hm hp).mono ?_
        rintro e w' ⟨hb, h1, h2⟩
        refine ⟨hb, ?_⟩
        by_cases hk : ∀ i, i < S.page / 4 → num4 d (4 * i) ≤ 262144
        · simp only [if_pos (show okB S.page d from ⟨hp, hk⟩)]
          exact h1 hk
        · simp only [if_neg (show ¬ okB S.page d from fun h => hk h.2)]
          exact h2 hk
      · refine (read_len w Mb Sb Q Db P pb T F S sh h n hn (by omega) d hd hl hm hp).mono ?_
        rintro e w' ⟨hb, h1⟩
        refine ⟨hb, ?_⟩
        simp only [if_neg (show ¬ okB S.page d from fun h => hp h.1)]
        exact h1
end Go.Proofs.Ytfipmpajdkgffaa

namespace Go.Proofs.Ytfipmpajdkgffaa
open Go.RowKit Go.MapKept Go.ChangeMaps
attribute [local go_sem] Oper.semAt_some
attribute [local simp, local go_sem] wide_fn
set_option linter.unusedVariables false
set_option linter.unusedSimpArgs false

theorem parts_under : Try.prog.underlying 63 = some (.map 3 70) := Try.underlying63
theorem zero_part (w : World) : (zeroValue 70).run Try.prog w = .ok (.pointer none) w := by kernel_rfl
theorem int_key {n : Nat} (h : n < 9223372036854775808) : keyOf Try.prog 3 (nk n) = some (.int .i64 (n : Nat)) := Go.Maps.keyOf_int_mk Try.underlying3 (WalkArith.wf_i64 (by omega))
/-- A part's place in memory. -/
def ptOf (P : Nat → Nat) (n : Nat) (x : Option Pt) : Value := match x with | some _ => .pointer (some ⟨P n, 0, none⟩) | none => .pointer none
theorem SmAt.look {w : World} {Mb Sb Q Db : Nat} {P pb : Nat → Nat} {T F : List Nat} {S : Sm} {sh : Sh} (h : SmAt w Mb Sb Q Db P pb T F S sh) (n : Nat) (hn : n < 9223372036854775808) :
    (Instr.lookup 63 (.map (some Q)) (.int .i64 n) false).run Try.prog w = .ok (ptOf P n (S.parts n)) w := by
  obtain ⟨f, m1, m2⟩ := h.map
  have := (m1.look intKeyed parts_under (zero_part w) (int_key hn)).1
  rw [this]
  cases hx : S.parts n with
  | some x =>
    rw [(m2 (nk n) _).2 ⟨n, x, hx, rfl, rfl⟩]; rfl
  | none =>
    cases hf : f (nk n) with
    | none => rfl
    | some v =>
      obtain ⟨m, x, h1, h2, _⟩ := (m2 _ _).1 hf
      rw [← nk_inj h2] at h1
      rw [hx] at h1; cases h1
theorem SmAt.qcell {w : World} {Mb Sb Q Db : Nat} {P pb : Nat → Nat} {T F : List Nat} {S : Sm} {sh : Sh} (h : SmAt w Mb Sb Q Db P pb T F S sh) : w.cell? ⟨Mb, 4, none⟩ = some (.map (some Q)) := by
  have c4 := h.row.cell 4
  simpa only [List.getElem?_toArray, List.getElem?_cons_zero, List.getElem?_cons_succ] using c4
set_option maxRecDepth 100000 in
theorem Save_skip (w : World) (Mb Sb Q Db : Nat) (P pb : Nat → Nat) (T F : List Nat) (S : Sm) (sh : Sh) (h : SmAt w Mb Sb Q Db P pb T F S sh) (n : Nat) (hn : n < 9223372036854775808) (hx : ∀ x, S.parts n = some x → x.d = false) :
    Calls Try.prog 31 #[.pointer (some ⟨Mb, 0, none⟩), .int .i64 n] w fun e w' => e = .returned (.int .i64 0) ∧ Below w.heap.size w w' := by
  have c4 := h.qcell
  have hlk := h.look n hn
  cases hp : S.parts n with
  | none =>
    rw [hp] at hlk
    simp only [ptOf] at hlk
    clear h hx hp
    go_enter Try.func31, Try.ntmps31
    go_wp2
    go_ret
    exact ⟨rfl, by (repeat (first | (with_reducible refine Below.drew ?_) | (with_reducible refine below_drewN0 ?_ _) | ((with_reducible refine Below.setCell ?_ ?_ _); rotate_left; focus (first | omega | (simp; done) | (simp; omega) | (simp at *; omega))) | ((with_reducible refine Below.alloc ?_ ?_ _); rotate_left; focus (first | omega | (simp; done) | (simp; omega) | (simp at *; omega))) | (with_reducible exact Below.refl _ _)))⟩
  | some x =>
    rw [hp] at hlk
    simp only [ptOf] at hlk
    obtain ⟨_, ⟨⟨cap, hr, _⟩, _, _, _⟩, _, _⟩ := h.part n x hp
    have q1 := hr.cell 1
    simp only [List.getElem?_toArray, List.getElem?_cons_zero, List.getElem?_cons_succ] at q1
    rw [hx x hp] at q1
    generalize P n = pn at *
    clear h hx hp hr
    go_enter Try.func31, Try.ntmps31
    go_wp2
    go_ret
    exact ⟨rfl, by (repeat (first | (with_reducible refine Below.drew ?_) | (with_reducible refine below_drewN0 ?_ _) | ((with_reducible refine Below.setCell ?_ ?_ _); rotate_left; focus (first | omega | (simp; done) | (simp; omega) | (simp at *; omega))) | ((with_reducible refine Below.alloc ?_ ?_ _); rotate_left; focus (first | omega | (simp; done) | (simp; omega) | (simp at *; omega))) | (with_reducible exact Below.refl _ _)))⟩

theorem ShIs.mono {w : World} {Sb : Nat} {T F T2 F2 : List Nat} {sh : Sh} (h : ShIs w Sb T F sh) (hT : ∀ k ∈ T, k ∈ T2) (hF : ∀ k ∈ F, k ∈ F2) : ShIs w Sb T2 F2 sh := by
  obtain ⟨⟨v1, v2, xs, h1, h2, h3, h4, h5, h6⟩, hm, hs, he⟩ := h
  refine ⟨⟨v1, v2, xs, h1, h2, h3, fun k hk => hT k (h4 k hk), fun k hk => hT k (h5 k hk), fun i d hd => ?_⟩, hT _ hm, hs, he⟩
  obtain ⟨A, c, a1, a2, a3⟩ := h6 i d hd
  exact ⟨A, c, a1, a2, fun a e h0 => hF _ (a3 a e h0)⟩
/-- A shelf's own blocks. -/
theorem ShIs.trim {w : World} {Sb : Nat} {T F : List Nat} {sh : Sh} (h : ShIs w Sb T F sh) : ∃ Ts, (∀ k ∈ Ts, k ∈ T) ∧ ShIs w Sb Ts F sh ∧ ∀ k ∈ Ts, ∃ ty cs, Row w k ty cs ∧ (ty = 56 ∨ ty = 43 ∨ ty = 3) := by
  obtain ⟨⟨v1, v2, xs, h1, h2, h3, h4, h5, h6⟩, hm, hs, he⟩ := h
  refine ⟨Sb :: (blkOf v1 ++ blkOf v2), fun k hk => ?_, ⟨⟨v1, v2, xs, h1, h2, h3, fun k hk => by simp only [List.mem_cons, List.mem_append]; exact .inr (.inl hk), fun k hk => by simp only [List.mem_cons, List.mem_append]; exact .inr (.inr hk), h6⟩, by simp, hs, he⟩, fun k hk => ?_⟩
  · simp only [List.mem_cons, List.mem_append] at hk
    rcases hk with rfl | hk | hk
    · exact hm
    · exact h4 k hk
    · exact h5 k hk
  · simp only [List.mem_cons, List.mem_append] at hk
    rcases hk with rfl | hk | hk
    · exact ⟨_, _, h1, .inl rfl⟩
    · obtain ⟨_, _, cs, hr⟩ := own_blkOf h2 hk; exact ⟨_, cs, hr, .inr (.inl rfl)⟩
    · obtain ⟨_, _, cs, hr⟩ := own_blkOf h3 hk; exact ⟨_, cs, hr, .inr (.inr rfl)⟩
/-- Blocks of other kinds are none of the shelf's. -/
theorem not_shelf {w : World} {Ts : List Nat} (h : ∀ k ∈ Ts, ∃ ty cs, Row w k ty cs ∧ (ty = 56 ∨ ty = 43 ∨ ty = 3)) {k : Nat} {ty : TypeId} {cs : Array Value} (hr : Row w k ty cs) (hn : ty ≠ 56 ∧ ty ≠ 43 ∧ ty ≠ 3) : k ∉ Ts := fun hk => by
  obtain ⟨ty', cs', hr', h1⟩ := h k hk
  refine Row.ne_type hr hr' ?_ rfl
  rcases h1 with rfl | rfl | rfl
  · exact hn.1
  · exact hn.2.1
  · exact hn.2.2
/-- The shelf has gone on. -/
theorem SmAt.shelved {w w' : World} {Mb Sb Q Db : Nat} {P pb : Nat → Nat} {T F T' F' Ts : List Nat} {S : Sm} {sh sh' : Sh} (h : SmAt w Mb Sb Q Db P pb T F S sh) (hTs : ∀ k ∈ Ts, ∃ ty cs, Row w k ty cs ∧ (ty = 56 ∨ ty = 43 ∨ ty = 3)) (ht : Turns w w' Ts) (hs : ShIs w' Sb T' F' sh') (h1 : ∀ k ∈ T', k ∈ T ∨ w.heap.size ≤ k) (h2 : ∀ k ∈ F', k ∈ F ∨ w.heap.size ≤ k) (h3 : ∀ k ∈ F', k ∉ T') (h4 : ∀ k, k ∈ T' ∨ k ∈ F' → k < w'.heap.size) :
    SmAt w' Mb Sb Q Db P pb (T ++ T') F' S sh' := by
  obtain ⟨cs, d1, d2, d3⟩ := h.dir
  obtain ⟨f, m1, m2⟩ := h.map
  refine ⟨ht.row h.row (not_shelf hTs h.row (by decide)), ⟨cs, ht.row d1 (not_shelf hTs d1 (by decide)), d2, d3⟩, ⟨f, m1.turns ht (fun hk => ?_), m2⟩, fun n x hx => ?_, h.inj, hs.mono (fun k hk => List.mem_append_right _ hk) (fun k hk => hk), ⟨List.mem_append_left _ h.mem.1, List.mem_append_left _ h.mem.2.1, List.mem_append_left _ h.mem.2.2⟩, fun k hk hm => ?_, fun k hk => ?_, h.sh⟩
  · obtain ⟨ty, cs, hr, _⟩ := hTs Q hk
    obtain ⟨es, clock, m3, _⟩ := m1
    unfold Row at hr; rw [hr] at m3; cases m3
  · obtain ⟨a, b, c, d⟩ := h.part n x hx
    obtain ⟨cap, pr, _⟩ := b.row
    obtain ⟨bs, br, _⟩ := b.bytes
    exact ⟨a, b.keep ht (not_shelf hTs pr (by decide)) (not_shelf hTs br (by decide)), List.mem_append_left _ c, List.mem_append_left _ d⟩
  · rcases List.mem_append.1 hm with hm | hm
    · rcases h2 k hk with h5 | h5
      · exact h.apart k h5 hm
      · have := h.lt k (.inl hm); omega
    · exact h3 k hk hm
  · rcases hk with hk | hk
    · rcases List.mem_append.1 hk with hk | hk
      · exact Nat.lt_of_lt_of_le (h.lt k (.inl hk)) ht.size
      · exact h4 k (.inl hk)
    · exact h4 k (.inr hk)

theorem PtAt.cells8 {w : World} {Pb bb page : Nat} {x : Pt} (h : PtAt w Pb bb page x) : Cells8 w (some ⟨bb, 0, none⟩) x.b := fun i hi => by
  obtain ⟨cs, hr, _, hc⟩ := h.bytes
  refine ⟨bb, 0, rfl, ?_⟩
  rw [hr.cell, Nat.zero_add]
  exact hc i (by rw [← h.len]; exact hi)
set_option maxRecDepth 100000 in
set_option maxHeartbeats 4000000 in
theorem Save_full (w : World) (Mb Sb Q Db : Nat) (P pb : Nat → Nat) (T F : List Nat) (S : Sm) (sh : Sh) (h : SmAt w Mb Sb Q Db P pb T F S sh) (n : Nat) (hn : n < 9223372036854775808) (x : Pt) (hx : S.parts n = some x) (hxd : x.d = true) (hf : sh.full = 0) :
    Calls Try.prog 31 #[.pointer (some ⟨Mb, 0, none⟩), .int .i64 n] w fun e w' => e = .returned (.int .i64 3) ∧ Below w.heap.size w w' := by
  have c4 := h.qcell
  have c3 := h.cells.2.1
  have hlk := h.look n hn
  rw [hx] at hlk
  simp only [ptOf] at hlk
  obtain ⟨_, hpt, _, _⟩ := h.part n x hx
  obtain ⟨cap, hr, hcap⟩ := hpt.row
  have q0 := hr.cell 0
  have q1 := hr.cell 1
  simp only [List.getElem?_toArray, List.getElem?_cons_zero, List.getElem?_cons_succ] at q0 q1
  rw [hxd] at q1
  have hpg : S.page ≤ 4096 := h.sh.2.2.1.2.1
  have HSr : Hid (Src w 1 (some ⟨pb n, 0, none⟩) S.page (intsV .u8 x.b)) := by rw [← hpt.len]; exact Src.bytes hpt.cells8
  obtain ⟨v1, v2, xs, s1, s2, _⟩ := h.shelf.at'
  have q2 := s1.cell 2
  simp only [List.getElem?_toArray, List.getElem?_cons_zero, List.getElem?_cons_succ] at q2
  rw [hf] at q2
  obtain ⟨pg, hp⟩ : ∃ pg, pg = S.page := ⟨_, rfl⟩
  rw [← hp] at hpg HSr q0
  obtain ⟨bs, hbs⟩ : ∃ bs, bs = intsV .u8 x.b := ⟨_, rfl⟩
  have HB1 : Hid (∀ u ∈ bs, u.oneCell' = true) := by rw [hbs]; exact intsV_one .u8 x.b
  rw [← hbs] at HSr
  generalize P n = pn at *
  generalize pb n = bb at *
  have HC : Hid (∀ u, Below w.heap.size w u → Calls Try.prog 44 #[.slice (some ⟨bb, 0, none⟩) pg cap] u fun e w' => ∃ A' c', e = .returned (.slice A' pg c') ∧ Below u.heap.size u w') := fun u hb => (CloneB_any _ pg cap bs (by omega) u (HSr.out.keep (keep_below hb)) HB1.out).mono (by rintro e w' ⟨A', c', rfl, _, h2⟩; exact ⟨A', c', rfl, h2⟩)
  have HP : Hid (∀ u A c, Below w.heap.size w u → Calls Try.prog 36 #[.pointer (some ⟨Sb, 0, none⟩), .int .i64 n, .slice A pg c] u fun e w' => e = .returned (.tuple #[.agg #[.int .i64 0, .int .i64 0], .int .i64 3]) ∧ Below u.heap.size u w') := fun u A c hb => ShPut_full u Sb n A pg c (keep_below hb _ _ q2)
  have hmx : Try.prog.follows .mixedOrders = true := by kernel_rfl
  have k1 : ∀ t : Later w, t.u.cell? ⟨Mb, 3, none⟩ = some (.iface 33 (.pointer (some ⟨Sb, 0, none⟩))) := fun t => keep_below t.h _ _ c3
  have k2 : ∀ t : Later w, t.u.cell? ⟨pn, 0, none⟩ = some (.slice (some ⟨bb, 0, none⟩) pg cap) := fun t => keep_below t.h _ _ q0
  have hnn := nil_put Sb
  have hmm := met_put Sb
  have hS : ∃ t : Later w, w.drew = t.u := ⟨⟨_, (Below.refl _ _).drew⟩, rfl⟩
  clear h hx hxd hf hpt hr s1 s2 q2 hp hbs HB1 HSr c3 q0
  go_enter Try.func31, Try.ntmps31
  go_wp2_with fail
  refine wp_region_noPanic ?_
  refine region_treeW (fun u => ∃ t : Later w, u = t.u) (Tn.takes [0,1,2,3,4,5,6,7,8,10,11] (.two 9 16 (.two 12 16 (Tn.takes [13,14,15] (.one 16 (.one 17 (.take 18 .nil)))) (.one 12 (Tn.takes [13,14,15] (.one 17 (.take 18 .nil))))) (.one 9 (.one 12 (Tn.takes [13,14,15] (.one 17 (.take 18 .nil))))))) hmx (by kernel_rfl) (fun _ _ _ _ _ h => h) hS ?_
  simp only [Tn.takes]
  (repeat ((with_reducible refine wpTree_take (by with_unfolding_all exact rfl) ?_); (with_reducible (show wpQuiet _ _ _ _ (_ :: _) _)); go_big_quiet_step (fail); (with_reducible refine wpQuiet_nil ?_)))
  (with_reducible refine wpTree_two (by with_unfolding_all exact rfl) (by with_unfolding_all exact rfl) ?_ ?_)
  · gi_wp2_with fail
    refine ((callsIn_wide (n := 8)).2 (HC.out _ (Below.refl _ _).drew)).mono ?_
    rintro e w2 ⟨A2, c2, rfl, hb⟩
    have HB2 : Hid (Below w.heap.size w w2) := (Below.refl _ _).drew.trans hb
    clear hb
    gi_wp2_with fail
    (with_reducible refine outQ_normal ?_ ?_); exact ⟨⟨w2, HB2.out⟩, rfl⟩
    (with_reducible refine wpTree_two (by with_unfolding_all exact rfl) (by with_unfolding_all exact rfl) ?_ ?_)
    · have HP2 := Lib.hid (HP.out w2 A2 c2 HB2.out)
      gi_wp2_with fail
      refine ((callsIn_wide (n := 8)).2 HP2.out).mono ?_
      rintro e w3 ⟨rfl, hb⟩
      have HB3 : Hid (Below w.heap.size w w3) := HB2.out.trans (hb.mono HB2.out.size)
      clear hb HP2
      gi_wp2_with fail
      (with_reducible refine outQ_normal ?_ ?_); exact ⟨⟨w3, HB3.out⟩, rfl⟩
      (repeat ((with_reducible refine wpTree_take (by with_unfolding_all exact rfl) ?_); (with_reducible (show wpQuiet _ _ _ _ (_ :: _) _)); go_big_quiet_step (fail); (with_reducible refine wpQuiet_nil ?_)))
      (with_reducible refine wpTree_one (by with_unfolding_all exact rfl) ?_)
      gi_wp2_with fail
      (with_reducible refine outQ_normal ?_ ?_); exact ⟨⟨_, HB3.out.alloc HB3.out.size _⟩, rfl⟩
      have HE : Hid (Below w.heap.size w (w3.alloc (.cells #[.int .i64 0, .int .i64 0] 28))) := HB3.out.alloc HB3.out.size _
      (with_reducible refine wpTree_one (by with_unfolding_all exact rfl) ?_)
      gi_wp2_with fail
      (with_reducible refine outQ_normal ?_ ?_); exact ⟨⟨_, HE.out⟩, rfl⟩
      (repeat ((with_reducible refine wpTree_take (by with_unfolding_all exact rfl) ?_); (with_reducible (show wpQuiet _ _ _ _ (_ :: _) _)); go_big_quiet_step (fail); (with_reducible refine wpQuiet_nil ?_)))
      with_reducible refine wpTree_nil ?_
      refine NoPanic.normal ?_
      clear k1 k2 hS
      go_wp2
      go_ret
      exact ⟨rfl, HE.out⟩
    · gi_wp2_with fail
      (with_reducible refine outQ_normal ?_ ?_); exact ⟨⟨_, HB2.out.alloc HB2.out.size _⟩, rfl⟩
      have HP2 := Lib.hid (HP.out _ A2 c2 (HB2.out.alloc HB2.out.size (.cells #[.int .i64 0, .int .i64 0] 28)))
      have HRz : Hid (Row (w2.alloc (.cells #[.int .i64 0, .int .i64 0] 28)) w2.heap.size 28 #[.int .i64 0, .int .i64 0]) := Row.fresh _ _ _
      (with_reducible refine wpTree_one (by with_unfolding_all exact rfl) ?_)
      gi_wp2_with fail
      refine ((callsIn_wide (n := 8)).2 HP2.out).mono ?_
      rintro e w3 ⟨rfl, hb⟩
      have HB3 : Hid (Below w.heap.size w w3) := (HB2.out.alloc HB2.out.size _).trans (hb.mono (by simpa using Nat.le_succ_of_le HB2.out.size))
      have HR3 := HRz.out.below hb HRz.out.lt
      have z0 := HR3.cell 0
      have z1 := HR3.cell 1
      have g0 := HR3.frozen 0
      have g1 := HR3.frozen 1
      simp only [List.getElem?_toArray, List.getElem?_cons_zero, List.getElem?_cons_succ] at z0 z1
      have HE : Hid (∀ a b, Below w.heap.size w ((w3.setCell ⟨w2.heap.size, 0, none⟩ a).setCell ⟨w2.heap.size, 1, none⟩ b)) := fun a b => (HB3.out.setCell HB2.out.size _).setCell HB2.out.size _
      clear hb HP2
      gi_wp2_with fail
      (with_reducible refine outQ_normal ?_ ?_); exact ⟨⟨w3, HB3.out⟩, rfl⟩
      (repeat ((with_reducible refine wpTree_take (by with_unfolding_all exact rfl) ?_); (with_reducible (show wpQuiet _ _ _ _ (_ :: _) _)); go_big_quiet_step (fail); (with_reducible refine wpQuiet_nil ?_)))
      (with_reducible refine wpTree_one (by with_unfolding_all exact rfl) ?_)
      gi_wp2_with fail
      (with_reducible refine outQ_normal ?_ ?_); exact ⟨⟨_, HE.out _ _⟩, rfl⟩
      (repeat ((with_reducible refine wpTree_take (by with_unfolding_all exact rfl) ?_); (with_reducible (show wpQuiet _ _ _ _ (_ :: _) _)); go_big_quiet_step (fail); (with_reducible refine wpQuiet_nil ?_)))
      with_reducible refine wpTree_nil ?_
      refine NoPanic.normal ?_
      clear k1 k2 hS
      go_wp2
      go_ret
      exact ⟨rfl, HE.out _ _⟩
  · gi_wp2_with fail
    (with_reducible refine outQ_normal ?_ ?_); exact ⟨⟨_, (Below.refl _ _).drew.alloc (by simp) _⟩, rfl⟩
    have HBa : Hid (Below w.heap.size w ((w.alloc (.cells #[.int .i64 0, .int .i64 0] 28)).drew)) := by unfold Hid; (repeat (first | (with_reducible refine Below.drew ?_) | (with_reducible refine below_drewN0 ?_ _) | ((with_reducible refine Below.setCell ?_ ?_ _); rotate_left; focus (first | omega | (simp; done) | (simp; omega) | (simp at *; omega))) | ((with_reducible refine Below.alloc ?_ ?_ _); rotate_left; focus (first | omega | (simp; done) | (simp; omega) | (simp at *; omega))) | (with_reducible exact Below.refl _ _)))
    have HRz : Hid (Row ((w.alloc (.cells #[.int .i64 0, .int .i64 0] 28)).drew) w.heap.size 28 #[.int .i64 0, .int .i64 0]) := Row.fresh _ _ _
    have HC2 := Lib.hid (HC.out _ HBa.out)
    (with_reducible refine wpTree_one (by with_unfolding_all exact rfl) ?_)
    gi_wp2_with fail
    refine ((callsIn_wide (n := 8)).2 HC2.out).mono ?_
    rintro e w2 ⟨A2, c2, rfl, hb⟩
    have HB2 : Hid (Below w.heap.size w w2) := HBa.out.trans (hb.mono HBa.out.size)
    have HR2 : Hid (Row w2 w.heap.size 28 #[.int .i64 0, .int .i64 0]) := HRz.out.below hb HRz.out.lt
    clear hb HC2
    gi_wp2_with fail
    (with_reducible refine outQ_normal ?_ ?_); exact ⟨⟨w2, HB2.out⟩, rfl⟩
    have HP2 := Lib.hid (HP.out w2 A2 c2 HB2.out)
    (with_reducible refine wpTree_one (by with_unfolding_all exact rfl) ?_)
    gi_wp2_with fail
    refine ((callsIn_wide (n := 8)).2 HP2.out).mono ?_
    rintro e w3 ⟨rfl, hb⟩
    have HB3 : Hid (Below w.heap.size w w3) := HB2.out.trans (hb.mono HB2.out.size)
    have HR3 := HR2.out.below hb HR2.out.lt
    have z0 := HR3.cell 0
    have z1 := HR3.cell 1
    have g0 := HR3.frozen 0
    have g1 := HR3.frozen 1
    simp only [List.getElem?_toArray, List.getElem?_cons_zero, List.getElem?_cons_succ] at z0 z1
    have HE : Hid (∀ a b, Below w.heap.size w ((w3.setCell ⟨w.heap.size, 0, none⟩ a).setCell ⟨w.heap.size, 1, none⟩ b)) := fun a b => (HB3.out.setCell (Nat.le_refl _) _).setCell (Nat.le_refl _) _
    clear hb HP2
    gi_wp2_with fail
    (with_reducible refine outQ_normal ?_ ?_); exact ⟨⟨w3, HB3.out⟩, rfl⟩
    (repeat ((with_reducible refine wpTree_take (by with_unfolding_all exact rfl) ?_); (with_reducible (show wpQuiet _ _ _ _ (_ :: _) _)); go_big_quiet_step (fail); (with_reducible refine wpQuiet_nil ?_)))
    (with_reducible refine wpTree_one (by with_unfolding_all exact rfl) ?_)
    gi_wp2_with fail
    (with_reducible refine outQ_normal ?_ ?_); exact ⟨⟨_, HE.out _ _⟩, rfl⟩
    (repeat ((with_reducible refine wpTree_take (by with_unfolding_all exact rfl) ?_); (with_reducible (show wpQuiet _ _ _ _ (_ :: _) _)); go_big_quiet_step (fail); (with_reducible refine wpQuiet_nil ?_)))
    with_reducible refine wpTree_nil ?_
    refine NoPanic.normal ?_
    clear k1 k2 hS
    go_wp2
    go_ret
    exact ⟨rfl, HE.out _ _⟩
end Go.Proofs.Ytfipmpajdkgffaa

namespace Go.Proofs.Ytfipmpajdkgffaa
open Go.RowKit Go.MapKept Go.ChangeMaps
set_option linter.unusedVariables false
set_option linter.unusedSimpArgs false

def Sm.dirAt (S : Sm) (n v : Nat) : Sm := { S with dir := fun m => if m = n then v else S.dir m }
def Sm.part1 (S : Sm) (n : Nat) (x : Pt) : Sm := { S with parts := updP S.parts n (some x) }
section
variable {w w' : World} {Mb Sb Q Db : Nat} {P pb : Nat → Nat} {T F : List Nat} {S : Sm} {sh : Sh}
theorem SmAt.dirAt (h : SmAt w Mb Sb Q Db P pb T F S sh) (n v : Nat) (hn : n < S.np) (hv : v < 4294967296) : SmAt (w.setCell ⟨Db, n, none⟩ (.int .u32 v)) Mb Sb Q Db P pb T F (S.dirAt n v) sh := by
  obtain ⟨⟨k1, k2, k3, k4, k5, k6⟩, kp⟩ := h.kinds
  have ht : Turns w (w.setCell ⟨Db, n, none⟩ (.int .u32 v)) [Db] := (Turns.refl w [Db]).setCell (by simp) _
  obtain ⟨cs, d1, d2, d3⟩ := h.dir
  obtain ⟨f, m1, m2⟩ := h.map
  obtain ⟨Ts, s1, s2, s3⟩ := h.shelf.trim
  have hDb : Db ∉ Ts := not_shelf s3 d1 (by decide)
  have hDF : Db ∉ F := fun hk => h.apart _ hk h.mem.2.2
  refine ⟨ht.row h.row (by simpa using k2), ⟨cs.setIfInBounds n (.int .u32 v), d1.put n _, by rw [Array.size_setIfInBounds]; exact d2, fun m hm => ?_⟩, ⟨f, m1.turns ht (by simpa using k4), m2⟩, fun m x hx => ?_, h.inj, (s2.keep ht (fun k hk => by rw [List.mem_singleton.1 hk]; exact ⟨hDb, hDF⟩)).mono s1 (fun k hk => hk), h.mem, h.apart, fun k hk => Nat.lt_of_lt_of_le (h.lt k hk) ht.size, h.sh⟩
  · show (cs.setIfInBounds n _)[m]? = some (.int .u32 ((if m = n then v else S.dir m : Nat))) ∧ (if m = n then v else S.dir m) < 4294967296
    rw [Array.getElem?_setIfInBounds]
    by_cases e : n = m
    · subst e
      rw [if_pos rfl, if_pos rfl, if_pos (by rw [d2]; exact hn)]
      exact ⟨rfl, hv⟩
    · rw [if_neg e, if_neg (fun h => e h.symm)]
      exact d3 m hm
  · obtain ⟨a, b, c, d⟩ := h.part m x hx
    obtain ⟨⟨_, _, e1, _⟩, ⟨_, _, e2, _⟩, _⟩ := kp m x hx
    exact ⟨a, b.keep ht (by simpa using e1) (by simpa using e2), c, d⟩
/-- A part's row is written anew. -/
theorem SmAt.partRow (h : SmAt w Mb Sb Q Db P pb T F S sh) (n : Nat) (x x' : Pt) (hx : S.parts n = some x) (hb : x'.b = x.b) (ht : Turns w w' [P n]) (hr : ∃ cap, Row w' (P n) 75 #[.slice (some ⟨pb n, 0, none⟩) S.page cap, .bool x'.d, .int .i64 x'.u] ∧ S.page ≤ cap) : SmAt w' Mb Sb Q Db P pb T F (S.part1 n x') sh := by
  obtain ⟨_, kp⟩ := h.kinds
  obtain ⟨⟨e1, e2, e3, e4⟩, _, e5⟩ := kp n x hx
  obtain ⟨cs, d1, d2, d3⟩ := h.dir
  obtain ⟨f, m1, m2⟩ := h.map
  obtain ⟨Ts, s1, s2, s3⟩ := h.shelf.trim
  obtain ⟨hn, hp, hpT, hbT⟩ := h.part n x hx
  obtain ⟨cap0, hr0, _⟩ := hp.row
  have hTs : P n ∉ Ts := not_shelf s3 hr0 (by decide)
  have hF : P n ∉ F := fun hk => h.apart _ hk hpT
  have hsome : ∀ m, (updP S.parts n (some x') m).isSome = true → (S.parts m).isSome = true := fun m hm => by
    by_cases e : m = n
    · rw [e, hx]; rfl
    · rw [updP_ne e] at hm; exact hm
  refine ⟨ht.row h.row (by simpa using (fun e => e1 e.symm)), ⟨cs, ht.row d1 (by simpa using (fun e => e3 e.symm)), d2, d3⟩, ⟨f, m1.turns ht (by simpa using (fun e => e2 e.symm)), fun key v => ?_⟩, fun m y hy => ?_, fun a b hab ha hb' => h.inj a b hab (hsome a ha) (hsome b hb'), (s2.keep ht (fun k hk => by rw [List.mem_singleton.1 hk]; exact ⟨hTs, hF⟩)).mono s1 (fun k hk => hk), h.mem, h.apart, fun k hk => Nat.lt_of_lt_of_le (h.lt k hk) ht.size, h.sh⟩
  · rw [m2]
    constructor
    · rintro ⟨m, y, h1, h2, h3⟩
      by_cases e : m = n
      · subst e; exact ⟨m, x', updP_same _ _ _, h2, h3⟩
      · exact ⟨m, y, (updP_ne e).trans h1, h2, h3⟩
    · rintro ⟨m, y, h1, h2, h3⟩
      by_cases e : m = n
      · subst e; exact ⟨m, x, hx, h2, h3⟩
      · exact ⟨m, y, (updP_ne e).symm.trans h1, h2, h3⟩
  · by_cases e : m = n
    · subst e
      have hy' : updP S.parts m (some x') m = some y := hy
      rw [updP_same] at hy'
      injection hy' with hy'
      subst hy'
      obtain ⟨cs', b1, b2, b3⟩ := hp.bytes
      exact ⟨hn, ⟨hr, ⟨cs', ht.row b1 (by simpa using (fun e => e5 m x hx e.symm)), b2, fun i hi => by rw [hb]; exact b3 i hi⟩, by rw [hb]; exact hp.len, by rw [hb]; exact hp.small⟩, hpT, hbT⟩
    · have hy' : S.parts m = some y := (updP_ne e).symm.trans hy
      obtain ⟨a, b, c, d⟩ := h.part m y hy'
      exact ⟨a, b.keep ht (by simpa using (h.inj m n e (by rw [hy']; rfl) (by rw [hx]; rfl)).1) (by simpa using (fun e' => e5 m y hy' e'.symm)), c, d⟩
end
end Go.Proofs.Ytfipmpajdkgffaa

namespace Go.Proofs.Ytfipmpajdkgffaa
open Go.RowKit Go.MapKept Go.ChangeMaps
attribute [local go_sem] Oper.semAt_some
attribute [local simp, local go_sem] wide_fn
set_option linter.unusedVariables false
set_option linter.unusedSimpArgs false
/-- A put part: the map behind it. -/
def Sm.saved (S : Sm) (n v : Nat) (x : Pt) : Sm := (S.dirAt n v).part1 n { x with d := false }
/-- What a put leaves (as seen from w). -/
structure Shelved (w u : World) (Sb : Nat) (Ts F T' F' : List Nat) (sh : Sh) : Prop where
  is : ShIs u Sb T' F' sh
  turns : Turns w u Ts
  own : ∀ k ∈ T', k ∈ Ts ∨ w.heap.size ≤ k
  read : ∀ k ∈ F', k ∈ F ∨ w.heap.size ≤ k
  apart : ∀ k ∈ F', k ∉ T'
  lt : ∀ k, k ∈ T' ∨ k ∈ F' → k < u.heap.size
theorem Shelved.later {w u u' : World} {Sb : Nat} {Ts F T' F' T2 : List Nat} {sh : Sh} (h : Shelved w u Sb Ts F T' F' sh) (ht : Turns u u' T2) (h2 : ∀ k ∈ T2, w.heap.size ≤ k ∧ k ∉ T' ∧ k ∉ F') : Shelved w u' Sb Ts F T' F' sh :=
  ⟨h.is.keep ht (fun k hk => (h2 k hk).2), h.turns.trans (ht.mono (S' := Ts ++ T2) (fun k hk => List.mem_append_right _ hk)) (fun k hk => by
    rcases List.mem_append.1 hk with hk | hk
    · exact .inl hk
    · exact .inr (h2 k hk).1), h.own, h.read, h.apart, fun k hk => Nat.lt_of_lt_of_le (h.lt k hk) ht.size⟩

/-- What the walk needs of the shelf's Put. -/
theorem put_walk (w : World) (Sb n bl : Nat) (Ts F : List Nat) (sh : Sh) (b : List Nat) (h : ShIs w Sb Ts F sh) (hTF : ∀ k ∈ F, k ∉ Ts) (hlt : ∀ k, k ∈ Ts ∨ k ∈ F → k < w.heap.size) (hb : ∀ u ∈ b, u < 256) (hbl : bl = b.length) (hb6 : b.length ≤ 65536) (hl : sh.L.length ≤ 1048576) (hfull : -1 ≤ sh.full ∧ sh.full ≤ 1048576 ∧ sh.full ≠ 0)
    (u : World) (A : Option Addr) (c : Nat) (hu : Below w.heap.size w u) (hown : u.ownsRow w.heap.size 5 1 (.slice A bl c) bl (intsV .u8 b)) :
    Calls Try.prog 36 #[.pointer (some ⟨Sb, 0, none⟩), .int .i64 n, .slice A bl c] u fun e w' => e = .returned (.tuple #[.agg #[.int .i64 (sh.L.length / 256 : Nat), .int .i64 (sh.L.length % 256 : Nat)], .int .i64 0]) ∧ Turns u w' Ts ∧ ∃ T' F', Shelved w w' Sb Ts F T' F' (sh.put n b) ∧ ∀ k, w.heap.size ≤ k → k < u.heap.size → k ∉ T' ∧ k ∉ F' := by
  obtain ⟨h8, hA⟩ := own_cells8 hown hbl
  subst hbl
  refine (ShPut_room u Sb Ts F sh (h.keep (Turns.of_below hu []) (by simp)) hTF n A c b hb h8 hb6 hl hfull (fun k hk => Nat.lt_of_lt_of_le (hlt k hk) hu.size) (fun a e _ hm => ?_)).mono ?_
  · have h1 := (hA a e).1
    have h2 := hlt _ (.inl hm)
    omega
  · rintro e w' ⟨rfl, T', F', h1, h2, h3, h4, h5, h6, h7, h9⟩
    refine ⟨rfl, h2, T', F', ⟨h1, (Turns.of_below hu Ts).trans h2 (fun k hk => .inl hk), fun k hk => ?_, fun k hk => ?_, h7, h9⟩, fun k hk hku => ⟨fun hm => ?_, fun hm => ?_⟩⟩
    · rcases h3 k hk with h | h
      · exact .inl h
      · exact .inr (Nat.le_trans hu.size h)
    · rcases h4 k hk with h | h
      · exact .inl h
      · exact .inr (Nat.le_trans hu.size h)
    · rcases h3 k hm with h | h
      · have := hlt k (.inl h); omega
      · omega
    · rcases h4 k hm with h | h
      · have := hlt k (.inr h); omega
      · omega

theorem not_shelf_lt {w : World} {Sb : Nat} {Ts F : List Nat} {sh : Sh} (h : ShIs w Sb Ts F sh) (h3 : ∀ k ∈ Ts, ∃ ty cs, Row w k ty cs ∧ (ty = 56 ∨ ty = 43 ∨ ty = 3)) {Z : Nat} (hz : w.heap.size ≤ Z) : Z ∉ Ts := fun hk => by
  obtain ⟨ty, cs, hr, _⟩ := h3 Z hk
  have := hr.lt; omega
set_option maxRecDepth 100000 in
set_option maxHeartbeats 4000000 in
theorem Save_room (w : World) (Mb Sb Q Db : Nat) (P pb : Nat → Nat) (T F : List Nat) (S : Sm) (sh : Sh) (h : SmAt w Mb Sb Q Db P pb T F S sh) (n : Nat) (x : Pt) (hx : S.parts n = some x) (hxd : x.d = true) (hl : sh.L.length ≤ 1048576) (hfull : -1 ≤ sh.full ∧ sh.full ≤ 1048576 ∧ sh.full ≠ 0) :
    Calls Try.prog 31 #[.pointer (some ⟨Mb, 0, none⟩), .int .i64 n] w fun e w' => e = .returned (.int .i64 0) ∧ ∃ T' F', SmAt w' Mb Sb Q Db P pb T' F' (S.saved n (sh.L.length + 1) x) (sh.put n x.b) ∧ Turns w w' T ∧ (∀ k ∈ T', k ∈ T ∨ w.heap.size ≤ k) ∧ (∀ k ∈ F', k ∈ F ∨ w.heap.size ≤ k) := by
  have HH := Lib.hid h
  obtain ⟨Ts, t1, t2, t3⟩ := h.shelf.trim
  have c4 := h.qcell
  have hlk := h.look n (by obtain ⟨hn, _⟩ := h.part n x hx; have := h.sh; unfold Sm.np at hn; have := Nat.div_le_self (S.sectors - 1) S.each; omega)
  rw [hx] at hlk
  simp only [ptOf] at hlk
  obtain ⟨hn, hpt, hpT, hbT⟩ := h.part n x hx
  obtain ⟨cap, hr, hcap⟩ := hpt.row
  have HMr := Lib.hid h.row
  have HPr := Lib.hid hr
  have q1 := hr.cell 1
  simp only [List.getElem?_toArray, List.getElem?_cons_zero, List.getElem?_cons_succ] at q1
  rw [hxd] at q1
  have hpg : S.page ≤ 4096 := h.sh.2.2.1.2.1
  have HPut := Lib.hid (put_walk w Sb n S.page Ts F sh x.b t2 (fun k hk hm => h.apart k hk (t1 k hm)) (fun k hk => h.lt k (hk.elim (fun h => .inl (t1 k h)) .inr)) hpt.small hpt.len.symm (by rw [hpt.len]; omega) hl hfull)
  have HSr : Hid (Src w 1 (some ⟨pb n, 0, none⟩) S.page (intsV .u8 x.b)) := by rw [← hpt.len]; exact Src.bytes hpt.cells8
  have hMT : Mb ∉ Ts := not_shelf t3 h.row (by decide)
  have hPT : P n ∉ Ts := not_shelf t3 hr (by decide)
  have k1 : ∀ t : Kept w Ts, t.u.cell? ⟨Mb, 3, none⟩ = some (.iface 33 (.pointer (some ⟨Sb, 0, none⟩))) := fun t => by
    have c := (t.h.row HMr.out hMT).cell 3
    simpa only [List.getElem?_toArray, List.getElem?_cons_zero, List.getElem?_cons_succ] using c
  have k2 : ∀ t : Kept w Ts, t.u.cell? ⟨P n, 0, none⟩ = some (.slice (some ⟨pb n, 0, none⟩) S.page cap) := fun t => by
    have c := (t.h.row HPr.out hPT).cell 0
    simpa only [List.getElem?_toArray, List.getElem?_cons_zero, List.getElem?_cons_succ] using c
  have hmx : Try.prog.follows .mixedOrders = true := by kernel_rfl
  have hnn := nil_put Sb
  have hmm := met_put Sb
  have hS : ∃ t : Kept w Ts, w.drew = t.u := ⟨⟨_, (Turns.refl _ _).drew⟩, rfl⟩
  obtain ⟨pg, hp⟩ : ∃ pg, pg = S.page := ⟨_, rfl⟩
  rw [← hp] at hpg HPut HSr k2
  obtain ⟨bk, hbk⟩ : ∃ bk, bk = sh.L.length / 256 := ⟨_, rfl⟩
  obtain ⟨pn, hpn⟩ : ∃ pn, pn = sh.L.length % 256 := ⟨_, rfl⟩
  rw [← hbk, ← hpn] at HPut
  obtain ⟨bs, hbs⟩ : ∃ bs, bs = intsV .u8 x.b := ⟨_, rfl⟩
  have HB1 : Hid (∀ u ∈ bs, u.oneCell' = true) := by unfold Hid; rw [hbs]; exact intsV_one .u8 x.b
  rw [← hbs] at HSr HPut
  have HC : Hid (∀ u, Below w.heap.size w u → Calls Try.prog 44 #[.slice (some ⟨pb n, 0, none⟩) pg cap] u fun e w' => ∃ A' c', e = .returned (.slice A' pg c') ∧ w'.ownsRow u.heap.size 5 1 (.slice A' pg c') pg bs ∧ Below u.heap.size u w') := fun u hb => CloneB_any _ pg cap bs (by omega) u (HSr.out.keep (keep_below hb)) HB1.out
  have HPg := Lib.hid hp
  have HBk := Lib.hid hbk
  have HPn := Lib.hid hpn
  have HBs := Lib.hid hbs
  have HXd := Lib.hid hxd
  have HX := Lib.hid hx
  have HFu := Lib.hid hfull
  have HL := Lib.hid hl
  have HT1 := Lib.hid t1
  have HT2 := Lib.hid t2
  have HT3 := Lib.hid t3
  have HPt := Lib.hid hpt
  clear h hx hxd hpt hr t1 t2 t3 hp hbk hpn hbs HB1 HSr hfull hl hMT hPT hcap hpT hbT
  go_enter Try.func31, Try.ntmps31
  go_wp2_with fail
  refine wp_region_noPanic ?_
  refine region_treeW (fun u => ∃ t : Kept w Ts, u = t.u) (Tn.takes [0,1,2,3,4,5,6,7,8,10,11] (.two 9 16 (.two 12 16 (Tn.takes [13,14,15] (.one 16 (.one 17 (.take 18 .nil)))) (.one 12 (Tn.takes [13,14,15] (.one 17 (.take 18 .nil))))) (.one 9 (.one 12 (Tn.takes [13,14,15] (.one 17 (.take 18 .nil))))))) hmx (by kernel_rfl) (fun _ _ _ _ _ h => h) hS ?_
  simp only [Tn.takes]
  (repeat ((with_reducible refine wpTree_take (by with_unfolding_all exact rfl) ?_); (with_reducible (show wpQuiet _ _ _ _ (_ :: _) _)); go_big_quiet_step (fail); (with_reducible refine wpQuiet_nil ?_)))
  (with_reducible refine wpTree_two (by with_unfolding_all exact rfl) (by with_unfolding_all exact rfl) ?_ ?_)
  · gi_wp2_with fail
    refine ((callsIn_wide (n := 8)).2 (HC.out _ (Below.refl _ _).drew)).mono ?_
    rintro e w2 ⟨A2, c2, rfl, hown, hb⟩
    have HB2 : Hid (Below w.heap.size w w2) := (Below.refl _ _).drew.trans hb
    have HO2 : Hid (w2.ownsRow w.heap.size 5 1 (.slice A2 pg c2) pg bs) := hown
    clear hb hown
    gi_wp2_with fail
    (with_reducible refine outQ_normal ?_ ?_); exact ⟨⟨w2, Turns.of_below HB2.out _⟩, rfl⟩
    (with_reducible refine wpTree_two (by with_unfolding_all exact rfl) (by with_unfolding_all exact rfl) ?_ ?_)
    · have HP2 := Lib.hid (HPut.out w2 A2 c2 HB2.out HO2.out)
      gi_wp2_with fail
      refine ((callsIn_wide (n := 8)).2 HP2.out).mono ?_
      rintro e w3 ⟨rfl, ht, T', F', hsv, hz⟩
      have HSv := Lib.hid hsv
      clear ht hz HP2 hsv
      gi_wp2_with fail
      (with_reducible refine outQ_normal ?_ ?_); exact ⟨⟨w3, HSv.out.turns⟩, rfl⟩
      (repeat ((with_reducible refine wpTree_take (by with_unfolding_all exact rfl) ?_); (with_reducible (show wpQuiet _ _ _ _ (_ :: _) _)); go_big_quiet_step (fail); (with_reducible refine wpQuiet_nil ?_)))
      (with_reducible refine wpTree_one (by with_unfolding_all exact rfl) ?_)
      gi_wp2_with fail
      (with_reducible refine outQ_normal ?_ ?_); exact ⟨⟨_, HSv.out.turns.alloc _⟩, rfl⟩
      have HS4 : Hid (Shelved w (w3.alloc (.cells #[.int .i64 bk, .int .i64 pn] 28)) Sb Ts F T' F' (sh.put n x.b)) := HSv.out.later (T2 := []) ((Turns.refl w3 _).alloc _) (by simp)
      (with_reducible refine wpTree_one (by with_unfolding_all exact rfl) ?_)
      gi_wp2_with fail
      (with_reducible refine outQ_normal ?_ ?_); exact ⟨⟨_, HS4.out.turns⟩, rfl⟩
      (repeat ((with_reducible refine wpTree_take (by with_unfolding_all exact rfl) ?_); (with_reducible (show wpQuiet _ _ _ _ (_ :: _) _)); go_big_quiet_step (fail); (with_reducible refine wpQuiet_nil ?_)))
      with_reducible refine wpTree_nil ?_
      refine NoPanic.normal ?_
      clear k1 k2 hS hmm hnn
      obtain ⟨W5, hW5⟩ : ∃ W5, W5 = (w3.alloc (.cells #[.int .i64 bk, .int .i64 pn] 28)) := ⟨_, rfl⟩
      have HR5 : Hid (Row W5 w3.heap.size 28 #[.int .i64 bk, .int .i64 pn]) := by unfold Hid; rw [hW5]; exact (Row.fresh _ _ _)
      have HSv5 : Hid (Shelved w W5 Sb Ts F T' F' (sh.put n x.b)) := by unfold Hid; rw [hW5]; exact HS4.out
      rw [← hW5]
      clear hW5
      generalize w3.heap.size = Z at *
      have HA5 : Hid (SmAt W5 Mb Sb Q Db P pb (T ++ T') F' S (sh.put n x.b)) := HH.out.shelved HT3.out HSv5.out.turns HSv5.out.is (fun k hk => (HSv5.out.own k hk).elim (fun h => .inl (HT1.out k h)) .inr) HSv5.out.read HSv5.out.apart HSv5.out.lt
      have HNm := Lib.hid (number_any bk pn (by rw [HBk.out]; have := HL.out; omega) (by rw [HPn.out]; omega) W5.drew)
      obtain ⟨nv, hnv⟩ : ∃ nv, nv = bk * 256 + pn + 1 := ⟨_, rfl⟩
      have HNv := Lib.hid hnv
      rw [← hnv] at HNm
      clear hnv
      have HD := Lib.hid HA5.out.kinds
      have m1 : Mb ∉ [Db, P n] := by have := HD.out.1.2.1; have := (HD.out.2 n x HX.out).1.1; simp; exact ⟨by assumption, by intro e; exact this e.symm⟩
      have m2 : Z ∉ [Db, P n] := by
        obtain ⟨cs, d1, _⟩ := HA5.out.dir
        obtain ⟨_, ⟨⟨_, pr, _⟩, _⟩, _⟩ := HA5.out.part n x HX.out
        simp; exact ⟨Row.ne_type HR5.out d1 (by decide), Row.ne_type HR5.out pr (by decide)⟩
      have k1 : ∀ t : Kept W5 [Db, P n], t.u.cell? ⟨Mb, 5, none⟩ = some (.slice (some ⟨Db, 0, none⟩) S.np S.np) := fun t => by
        have c := (t.h.row HA5.out.row m1).cell 5
        simpa only [List.getElem?_toArray, List.getElem?_cons_zero, List.getElem?_cons_succ] using c
      have k2 : ∀ t : Kept W5 [Db, P n], t.u.cell? ⟨Z, 0, none⟩ = some (.int .i64 bk) := fun t => by
        have c := (t.h.row HR5.out m2).cell 0
        simpa only [List.getElem?_toArray, List.getElem?_cons_zero, List.getElem?_cons_succ] using c
      have k3 : ∀ t : Kept W5 [Db, P n], t.u.cell? ⟨Z, 1, none⟩ = some (.int .i64 pn) := fun t => by
        have c := (t.h.row HR5.out m2).cell 1
        simpa only [List.getElem?_toArray, List.getElem?_cons_zero, List.getElem?_cons_succ] using c
      have hS : ∃ t : Kept W5 [Db, P n], W5.drew = t.u := ⟨⟨_, (Turns.refl _ _).drew⟩, rfl⟩
      go_wp2_with fail
      refine wp_region_noPanic ?_
      refine region_treeW (fun u => ∃ t : Kept W5 [Db, P n], u = t.u) (Tn.takes [0,1,2,3,4,5,6] (.one 7 (.take 8 (.one 9 (.take 10 (.take 11 (.one 12 .nil))))))) hmx (by kernel_rfl) (fun _ _ _ _ _ h => h) hS ?_
      simp only [Tn.takes]
      (repeat ((with_reducible refine wpTree_take (by with_unfolding_all exact rfl) ?_); (with_reducible (show wpQuiet _ _ _ _ (_ :: _) _)); go_big_quiet_step (fail); (with_reducible refine wpQuiet_nil ?_)))
      (with_reducible refine wpTree_one (by with_unfolding_all exact rfl) ?_)
      gi_wp2_with fail
      refine ((callsIn_wide (n := 8)).2 HNm.out).mono ?_
      rintro e w6 ⟨rfl, hb6⟩
      have HB6 : Hid (Below W5.heap.size W5 w6) := (Below.refl _ _).drew.trans hb6
      have HA6 := Lib.hid (HA5.out.below HB6.out)
      clear hb6
      have hdc : ∃ v, w6.cell? ⟨Db, n, none⟩ = some v ∧ ∀ b, w6.heap[Db]? = b → True := by
        obtain ⟨cs, d1, d2, d3⟩ := HA6.out.dir
        exact ⟨_, by rw [d1.cell]; exact (d3 n hn).1, fun _ _ => trivial⟩
      gi_wp2_with fail
      (with_reducible refine outQ_normal ?_ ?_); exact ⟨⟨w6, Turns.of_below HB6.out _⟩, rfl⟩
      (repeat ((with_reducible refine wpTree_take (by with_unfolding_all exact rfl) ?_); (with_reducible (show wpQuiet _ _ _ _ (_ :: _) _)); go_big_quiet_step (fail); (with_reducible refine wpQuiet_nil ?_)))
      obtain ⟨cs6, d61, d62, d63⟩ := HA6.out.dir
      have qd := d61.cell n
      have fd := d61.frozen n
      rw [(d63 n hn).1] at qd
      clear hdc d61 d62 d63
      (with_reducible refine wpTree_one (by with_unfolding_all exact rfl) ?_)
      gi_wp2_with fail
      (with_reducible refine outQ_normal ?_ ?_); exact ⟨⟨_, (Turns.of_below HB6.out _).setCell (by simp) _⟩, rfl⟩
      have HA7 := Lib.hid (HA6.out.dirAt n nv hn (by rw [HNv.out, HBk.out, HPn.out]; have := HL.out; omega))
      (repeat ((with_reducible refine wpTree_take (by with_unfolding_all exact rfl) ?_); (with_reducible (show wpQuiet _ _ _ _ (_ :: _) _)); go_big_quiet_step (fail); (with_reducible refine wpQuiet_nil ?_)))
      obtain ⟨_, hp7, _, _⟩ := HA7.out.part n x HX.out
      obtain ⟨cap7, hr7, hc7⟩ := hp7.row
      have HR7 := Lib.hid hr7
      have q7 := hr7.cell 1
      have f7 := hr7.frozen 1
      simp only [List.getElem?_toArray, List.getElem?_cons_zero, List.getElem?_cons_succ] at q7
      clear hr7 hp7
      have HA8 : Hid (SmAt ((w6.setCell ⟨Db, n, none⟩ (.int .u32 nv)).setCell ⟨P n, 1, none⟩ (.bool false)) Mb Sb Q Db P pb (T ++ T') F' (S.saved n (sh.L.length + 1) x) (sh.put n x.b)) := by
        have e1 : nv = sh.L.length + 1 := by rw [HNv.out, HBk.out, HPn.out]; omega
        have h8 := HA7.out.partRow n x { x with d := false } HX.out rfl ((Turns.refl _ [P n]).setCell (p := ⟨P n, 1, none⟩) (by simp) (.bool false)) ⟨cap7, by simpa using HR7.out.put 1 (.bool false), hc7⟩
        unfold Hid Sm.saved
        rw [← e1]
        exact h8
      have HT8 : Hid (Turns W5 ((w6.setCell ⟨Db, n, none⟩ (.int .u32 nv)).setCell ⟨P n, 1, none⟩ (.bool false)) [Db, P n]) := ((Turns.of_below HB6.out _).setCell (by simp) _).setCell (by simp) _
      (with_reducible refine wpTree_one (by with_unfolding_all exact rfl) ?_)
      gi_wp2_with fail
      (with_reducible refine outQ_normal ?_ ?_); exact ⟨⟨_, HT8.out⟩, rfl⟩
      with_reducible refine wpTree_nil ?_
      refine NoPanic.normal ?_
      clear k1 k2 k3 hS
      go_wp2
      go_ret
      refine ⟨rfl, T ++ T', F', HA8.out, ?_, fun k hk => ?_, HSv5.out.read⟩
      · refine (HSv5.out.turns.mono HT1.out).trans HT8.out (fun k hk => .inl ?_)
        simp only [List.mem_cons, List.not_mem_nil, or_false] at hk
        rcases hk with rfl | rfl
        · exact HH.out.mem.2.2
        · exact (HH.out.part n x HX.out).2.2.1
      · rcases List.mem_append.1 hk with hk | hk
        · exact .inl hk
        · exact (HSv5.out.own k hk).elim (fun h => .inl (HT1.out k h)) .inr
    · gi_wp2_with fail
      (with_reducible refine outQ_normal ?_ ?_); exact ⟨⟨_, (Turns.of_below HB2.out _).alloc _⟩, rfl⟩
      have HBa : Hid (Below w.heap.size w (w2.alloc (.cells #[.int .i64 0, .int .i64 0] 28))) := HB2.out.alloc HB2.out.size _
      have HP2 := Lib.hid (HPut.out _ A2 c2 HBa.out (own_below HO2.out ((Below.refl w2.heap.size w2).alloc (Nat.le_refl _) _)))
      have HZ2 : Hid (Row (w2.alloc (.cells #[.int .i64 0, .int .i64 0] 28)) w2.heap.size 28 #[.int .i64 0, .int .i64 0]) := Row.fresh _ _ _
      (with_reducible refine wpTree_one (by with_unfolding_all exact rfl) ?_)
      gi_wp2_with fail
      refine ((callsIn_wide (n := 8)).2 HP2.out).mono ?_
      rintro e w3 ⟨rfl, ht, T', F', hsv, hz⟩
      obtain ⟨hz1, hz2⟩ := hz w2.heap.size HB2.out.size (by simp)
      have HR3 : Hid (Row w3 w2.heap.size 28 #[.int .i64 0, .int .i64 0]) := ht.row HZ2.out (not_shelf_lt HT2.out HT3.out HB2.out.size)
      have HSv := Lib.hid hsv
      have HS4 : Hid (∀ a b, Shelved w ((w3.setCell ⟨w2.heap.size, 0, none⟩ a).setCell ⟨w2.heap.size, 1, none⟩ b) Sb Ts F T' F' (sh.put n x.b)) := fun a b => HSv.out.later (T2 := [w2.heap.size]) (((Turns.refl w3 _).setCell (by simp) _).setCell (by simp) _) (fun k hk => by
        rw [List.mem_singleton.1 hk]
        exact ⟨HB2.out.size, hz1, hz2⟩)
      clear ht hz HP2 hsv hz1 hz2
      have z0 := HR3.out.cell 0
      have z1 := HR3.out.cell 1
      have g0 := HR3.out.frozen 0
      have g1 := HR3.out.frozen 1
      simp only [List.getElem?_toArray, List.getElem?_cons_zero, List.getElem?_cons_succ] at z0 z1
      gi_wp2_with fail
      (with_reducible refine outQ_normal ?_ ?_); exact ⟨⟨w3, HSv.out.turns⟩, rfl⟩
      (repeat ((with_reducible refine wpTree_take (by with_unfolding_all exact rfl) ?_); (with_reducible (show wpQuiet _ _ _ _ (_ :: _) _)); go_big_quiet_step (fail); (with_reducible refine wpQuiet_nil ?_)))
      (with_reducible refine wpTree_one (by with_unfolding_all exact rfl) ?_)
      gi_wp2_with fail
      (with_reducible refine outQ_normal ?_ ?_); exact ⟨⟨_, (HS4.out _ _).turns⟩, rfl⟩
      clear z0 z1 g0 g1
      (repeat ((with_reducible refine wpTree_take (by with_unfolding_all exact rfl) ?_); (with_reducible (show wpQuiet _ _ _ _ (_ :: _) _)); go_big_quiet_step (fail); (with_reducible refine wpQuiet_nil ?_)))
      with_reducible refine wpTree_nil ?_
      refine NoPanic.normal ?_
      clear k1 k2 hS hmm hnn
      obtain ⟨W5, hW5⟩ : ∃ W5, W5 = ((w3.setCell ⟨w2.heap.size, 0, none⟩ (.int .i64 bk)).setCell ⟨w2.heap.size, 1, none⟩ (.int .i64 pn)) := ⟨_, rfl⟩
      have HR5 : Hid (Row W5 w2.heap.size 28 #[.int .i64 bk, .int .i64 pn]) := by unfold Hid; rw [hW5]; exact (by simpa using (HR3.out.put 0 (.int .i64 bk)).put 1 (.int .i64 pn))
      have HSv5 : Hid (Shelved w W5 Sb Ts F T' F' (sh.put n x.b)) := by unfold Hid; rw [hW5]; exact (HS4.out _ _)
      rw [← hW5]
      clear hW5
      generalize w2.heap.size = Z at *
      have HA5 : Hid (SmAt W5 Mb Sb Q Db P pb (T ++ T') F' S (sh.put n x.b)) := HH.out.shelved HT3.out HSv5.out.turns HSv5.out.is (fun k hk => (HSv5.out.own k hk).elim (fun h => .inl (HT1.out k h)) .inr) HSv5.out.read HSv5.out.apart HSv5.out.lt
      have HNm := Lib.hid (number_any bk pn (by rw [HBk.out]; have := HL.out; omega) (by rw [HPn.out]; omega) W5.drew)
      obtain ⟨nv, hnv⟩ : ∃ nv, nv = bk * 256 + pn + 1 := ⟨_, rfl⟩
      have HNv := Lib.hid hnv
      rw [← hnv] at HNm
      clear hnv
      have HD := Lib.hid HA5.out.kinds
      have m1 : Mb ∉ [Db, P n] := by have := HD.out.1.2.1; have := (HD.out.2 n x HX.out).1.1; simp; exact ⟨by assumption, by intro e; exact this e.symm⟩
      have m2 : Z ∉ [Db, P n] := by
        obtain ⟨cs, d1, _⟩ := HA5.out.dir
        obtain ⟨_, ⟨⟨_, pr, _⟩, _⟩, _⟩ := HA5.out.part n x HX.out
        simp; exact ⟨Row.ne_type HR5.out d1 (by decide), Row.ne_type HR5.out pr (by decide)⟩
      have k1 : ∀ t : Kept W5 [Db, P n], t.u.cell? ⟨Mb, 5, none⟩ = some (.slice (some ⟨Db, 0, none⟩) S.np S.np) := fun t => by
        have c := (t.h.row HA5.out.row m1).cell 5
        simpa only [List.getElem?_toArray, List.getElem?_cons_zero, List.getElem?_cons_succ] using c
      have k2 : ∀ t : Kept W5 [Db, P n], t.u.cell? ⟨Z, 0, none⟩ = some (.int .i64 bk) := fun t => by
        have c := (t.h.row HR5.out m2).cell 0
        simpa only [List.getElem?_toArray, List.getElem?_cons_zero, List.getElem?_cons_succ] using c
      have k3 : ∀ t : Kept W5 [Db, P n], t.u.cell? ⟨Z, 1, none⟩ = some (.int .i64 pn) := fun t => by
        have c := (t.h.row HR5.out m2).cell 1
        simpa only [List.getElem?_toArray, List.getElem?_cons_zero, List.getElem?_cons_succ] using c
      have hS : ∃ t : Kept W5 [Db, P n], W5.drew = t.u := ⟨⟨_, (Turns.refl _ _).drew⟩, rfl⟩
      go_wp2_with fail
      refine wp_region_noPanic ?_
      refine region_treeW (fun u => ∃ t : Kept W5 [Db, P n], u = t.u) (Tn.takes [0,1,2,3,4,5,6] (.one 7 (.take 8 (.one 9 (.take 10 (.take 11 (.one 12 .nil))))))) hmx (by kernel_rfl) (fun _ _ _ _ _ h => h) hS ?_
      simp only [Tn.takes]
      (repeat ((with_reducible refine wpTree_take (by with_unfolding_all exact rfl) ?_); (with_reducible (show wpQuiet _ _ _ _ (_ :: _) _)); go_big_quiet_step (fail); (with_reducible refine wpQuiet_nil ?_)))
      (with_reducible refine wpTree_one (by with_unfolding_all exact rfl) ?_)
      gi_wp2_with fail
      refine ((callsIn_wide (n := 8)).2 HNm.out).mono ?_
      rintro e w6 ⟨rfl, hb6⟩
      have HB6 : Hid (Below W5.heap.size W5 w6) := (Below.refl _ _).drew.trans hb6
      have HA6 := Lib.hid (HA5.out.below HB6.out)
      clear hb6
      have hdc : ∃ v, w6.cell? ⟨Db, n, none⟩ = some v ∧ ∀ b, w6.heap[Db]? = b → True := by
        obtain ⟨cs, d1, d2, d3⟩ := HA6.out.dir
        exact ⟨_, by rw [d1.cell]; exact (d3 n hn).1, fun _ _ => trivial⟩
      gi_wp2_with fail
      (with_reducible refine outQ_normal ?_ ?_); exact ⟨⟨w6, Turns.of_below HB6.out _⟩, rfl⟩
      (repeat ((with_reducible refine wpTree_take (by with_unfolding_all exact rfl) ?_); (with_reducible (show wpQuiet _ _ _ _ (_ :: _) _)); go_big_quiet_step (fail); (with_reducible refine wpQuiet_nil ?_)))
      obtain ⟨cs6, d61, d62, d63⟩ := HA6.out.dir
      have qd := d61.cell n
      have fd := d61.frozen n
      rw [(d63 n hn).1] at qd
      clear hdc d61 d62 d63
      (with_reducible refine wpTree_one (by with_unfolding_all exact rfl) ?_)
      gi_wp2_with fail
      (with_reducible refine outQ_normal ?_ ?_); exact ⟨⟨_, (Turns.of_below HB6.out _).setCell (by simp) _⟩, rfl⟩
      have HA7 := Lib.hid (HA6.out.dirAt n nv hn (by rw [HNv.out, HBk.out, HPn.out]; have := HL.out; omega))
      (repeat ((with_reducible refine wpTree_take (by with_unfolding_all exact rfl) ?_); (with_reducible (show wpQuiet _ _ _ _ (_ :: _) _)); go_big_quiet_step (fail); (with_reducible refine wpQuiet_nil ?_)))
      obtain ⟨_, hp7, _, _⟩ := HA7.out.part n x HX.out
      obtain ⟨cap7, hr7, hc7⟩ := hp7.row
      have HR7 := Lib.hid hr7
      have q7 := hr7.cell 1
      have f7 := hr7.frozen 1
      simp only [List.getElem?_toArray, List.getElem?_cons_zero, List.getElem?_cons_succ] at q7
      clear hr7 hp7
      have HA8 : Hid (SmAt ((w6.setCell ⟨Db, n, none⟩ (.int .u32 nv)).setCell ⟨P n, 1, none⟩ (.bool false)) Mb Sb Q Db P pb (T ++ T') F' (S.saved n (sh.L.length + 1) x) (sh.put n x.b)) := by
        have e1 : nv = sh.L.length + 1 := by rw [HNv.out, HBk.out, HPn.out]; omega
        have h8 := HA7.out.partRow n x { x with d := false } HX.out rfl ((Turns.refl _ [P n]).setCell (p := ⟨P n, 1, none⟩) (by simp) (.bool false)) ⟨cap7, by simpa using HR7.out.put 1 (.bool false), hc7⟩
        unfold Hid Sm.saved
        rw [← e1]
        exact h8
      have HT8 : Hid (Turns W5 ((w6.setCell ⟨Db, n, none⟩ (.int .u32 nv)).setCell ⟨P n, 1, none⟩ (.bool false)) [Db, P n]) := ((Turns.of_below HB6.out _).setCell (by simp) _).setCell (by simp) _
      (with_reducible refine wpTree_one (by with_unfolding_all exact rfl) ?_)
      gi_wp2_with fail
      (with_reducible refine outQ_normal ?_ ?_); exact ⟨⟨_, HT8.out⟩, rfl⟩
      with_reducible refine wpTree_nil ?_
      refine NoPanic.normal ?_
      clear k1 k2 k3 hS
      go_wp2
      go_ret
      refine ⟨rfl, T ++ T', F', HA8.out, ?_, fun k hk => ?_, HSv5.out.read⟩
      · refine (HSv5.out.turns.mono HT1.out).trans HT8.out (fun k hk => .inl ?_)
        simp only [List.mem_cons, List.not_mem_nil, or_false] at hk
        rcases hk with rfl | rfl
        · exact HH.out.mem.2.2
        · exact (HH.out.part n x HX.out).2.2.1
      · rcases List.mem_append.1 hk with hk | hk
        · exact .inl hk
        · exact (HSv5.out.own k hk).elim (fun h => .inl (HT1.out k h)) .inr
  · gi_wp2_with fail
    (with_reducible refine outQ_normal ?_ ?_); exact ⟨⟨_, ((Turns.refl _ _).alloc _).drew⟩, rfl⟩
    have HBa : Hid (Below w.heap.size w ((w.alloc (.cells #[.int .i64 0, .int .i64 0] 28)).drew)) := by unfold Hid; (repeat (first | (with_reducible refine Below.drew ?_) | (with_reducible refine below_drewN0 ?_ _) | ((with_reducible refine Below.setCell ?_ ?_ _); rotate_left; focus (first | omega | (simp; done) | (simp; omega) | (simp at *; omega))) | ((with_reducible refine Below.alloc ?_ ?_ _); rotate_left; focus (first | omega | (simp; done) | (simp; omega) | (simp at *; omega))) | (with_reducible exact Below.refl _ _)))
    have HZ0 : Hid (Row ((w.alloc (.cells #[.int .i64 0, .int .i64 0] 28)).drew) w.heap.size 28 #[.int .i64 0, .int .i64 0]) := Row.fresh _ _ _
    have HC2 := Lib.hid (HC.out _ HBa.out)
    (with_reducible refine wpTree_one (by with_unfolding_all exact rfl) ?_)
    gi_wp2_with fail
    refine ((callsIn_wide (n := 8)).2 HC2.out).mono ?_
    rintro e w2 ⟨A2, c2, rfl, hown, hb⟩
    have HB2 : Hid (Below w.heap.size w w2) := HBa.out.trans (hb.mono HBa.out.size)
    have HO2 : Hid (w2.ownsRow w.heap.size 5 1 (.slice A2 pg c2) pg bs) := own_mono hown HBa.out.size
    have HZ2 : Hid (Row w2 w.heap.size 28 #[.int .i64 0, .int .i64 0]) := HZ0.out.below hb HZ0.out.lt
    clear hb hown HC2
    gi_wp2_with fail
    (with_reducible refine outQ_normal ?_ ?_); exact ⟨⟨w2, Turns.of_below HB2.out _⟩, rfl⟩
    have HP2 := Lib.hid (HPut.out w2 A2 c2 HB2.out HO2.out)
    (with_reducible refine wpTree_one (by with_unfolding_all exact rfl) ?_)
    gi_wp2_with fail
    refine ((callsIn_wide (n := 8)).2 HP2.out).mono ?_
    rintro e w3 ⟨rfl, ht, T', F', hsv, hz⟩
    obtain ⟨hz1, hz2⟩ := hz w.heap.size (Nat.le_refl _) HZ2.out.lt
    have HR3 : Hid (Row w3 w.heap.size 28 #[.int .i64 0, .int .i64 0]) := ht.row HZ2.out (not_shelf_lt HT2.out HT3.out (Nat.le_refl _))
    have HSv := Lib.hid hsv
    have HS4 : Hid (∀ a b, Shelved w ((w3.setCell ⟨w.heap.size, 0, none⟩ a).setCell ⟨w.heap.size, 1, none⟩ b) Sb Ts F T' F' (sh.put n x.b)) := fun a b => HSv.out.later (T2 := [w.heap.size]) (((Turns.refl w3 _).setCell (by simp) _).setCell (by simp) _) (fun k hk => by
      rw [List.mem_singleton.1 hk]
      exact ⟨(Nat.le_refl _), hz1, hz2⟩)
    clear ht hz HP2 hsv hz1 hz2
    have z0 := HR3.out.cell 0
    have z1 := HR3.out.cell 1
    have g0 := HR3.out.frozen 0
    have g1 := HR3.out.frozen 1
    simp only [List.getElem?_toArray, List.getElem?_cons_zero, List.getElem?_cons_succ] at z0 z1
    gi_wp2_with fail
    (with_reducible refine outQ_normal ?_ ?_); exact ⟨⟨w3, HSv.out.turns⟩, rfl⟩
    (repeat ((with_reducible refine wpTree_take (by with_unfolding_all exact rfl) ?_); (with_reducible (show wpQuiet _ _ _ _ (_ :: _) _)); go_big_quiet_step (fail); (with_reducible refine wpQuiet_nil ?_)))
    (with_reducible refine wpTree_one (by with_unfolding_all exact rfl) ?_)
    gi_wp2_with fail
    (with_reducible refine outQ_normal ?_ ?_); exact ⟨⟨_, (HS4.out _ _).turns⟩, rfl⟩
    clear z0 z1 g0 g1
    (repeat ((with_reducible refine wpTree_take (by with_unfolding_all exact rfl) ?_); (with_reducible (show wpQuiet _ _ _ _ (_ :: _) _)); go_big_quiet_step (fail); (with_reducible refine wpQuiet_nil ?_)))
    with_reducible refine wpTree_nil ?_
    refine NoPanic.normal ?_
    clear k1 k2 hS hmm hnn
    obtain ⟨W5, hW5⟩ : ∃ W5, W5 = ((w3.setCell ⟨w.heap.size, 0, none⟩ (.int .i64 bk)).setCell ⟨w.heap.size, 1, none⟩ (.int .i64 pn)) := ⟨_, rfl⟩
    have HR5 : Hid (Row W5 w.heap.size 28 #[.int .i64 bk, .int .i64 pn]) := by unfold Hid; rw [hW5]; exact (by simpa using (HR3.out.put 0 (.int .i64 bk)).put 1 (.int .i64 pn))
    have HSv5 : Hid (Shelved w W5 Sb Ts F T' F' (sh.put n x.b)) := by unfold Hid; rw [hW5]; exact (HS4.out _ _)
    rw [← hW5]
    clear hW5
    generalize w.heap.size = Z at *
    have HA5 : Hid (SmAt W5 Mb Sb Q Db P pb (T ++ T') F' S (sh.put n x.b)) := HH.out.shelved HT3.out HSv5.out.turns HSv5.out.is (fun k hk => (HSv5.out.own k hk).elim (fun h => .inl (HT1.out k h)) .inr) HSv5.out.read HSv5.out.apart HSv5.out.lt
    have HNm := Lib.hid (number_any bk pn (by rw [HBk.out]; have := HL.out; omega) (by rw [HPn.out]; omega) W5.drew)
    obtain ⟨nv, hnv⟩ : ∃ nv, nv = bk * 256 + pn + 1 := ⟨_, rfl⟩
    have HNv := Lib.hid hnv
    rw [← hnv] at HNm
    clear hnv
    have HD := Lib.hid HA5.out.kinds
    have m1 : Mb ∉ [Db, P n] := by have := HD.out.1.2.1; have := (HD.out.2 n x HX.out).1.1; simp; exact ⟨by assumption, by intro e; exact this e.symm⟩
    have m2 : Z ∉ [Db, P n] := by
      obtain ⟨cs, d1, _⟩ := HA5.out.dir
      obtain ⟨_, ⟨⟨_, pr, _⟩, _⟩, _⟩ := HA5.out.part n x HX.out
      simp; exact ⟨Row.ne_type HR5.out d1 (by decide), Row.ne_type HR5.out pr (by decide)⟩
    have k1 : ∀ t : Kept W5 [Db, P n], t.u.cell? ⟨Mb, 5, none⟩ = some (.slice (some ⟨Db, 0, none⟩) S.np S.np) := fun t => by
      have c := (t.h.row HA5.out.row m1).cell 5
      simpa only [List.getElem?_toArray, List.getElem?_cons_zero, List.getElem?_cons_succ] using c
    have k2 : ∀ t : Kept W5 [Db, P n], t.u.cell? ⟨Z, 0, none⟩ = some (.int .i64 bk) := fun t => by
      have c := (t.h.row HR5.out m2).cell 0
      simpa only [List.getElem?_toArray, List.getElem?_cons_zero, List.getElem?_cons_succ] using c
    have k3 : ∀ t : Kept W5 [Db, P n], t.u.cell? ⟨Z, 1, none⟩ = some (.int .i64 pn) := fun t => by
      have c := (t.h.row HR5.out m2).cell 1
      simpa only [List.getElem?_toArray, List.getElem?_cons_zero, List.getElem?_cons_succ] using c
    have hS : ∃ t : Kept W5 [Db, P n], W5.drew = t.u := ⟨⟨_, (Turns.refl _ _).drew⟩, rfl⟩
    go_wp2_with fail
    refine wp_region_noPanic ?_
    refine region_treeW (fun u => ∃ t : Kept W5 [Db, P n], u = t.u) (Tn.takes [0,1,2,3,4,5,6] (.one 7 (.take 8 (.one 9 (.take 10 (.take 11 (.one 12 .nil))))))) hmx (by kernel_rfl) (fun _ _ _ _ _ h => h) hS ?_
    simp only [Tn.takes]
    (repeat ((with_reducible refine wpTree_take (by with_unfolding_all exact rfl) ?_); (with_reducible (show wpQuiet _ _ _ _ (_ :: _) _)); go_big_quiet_step (fail); (with_reducible refine wpQuiet_nil ?_)))
    (with_reducible refine wpTree_one (by with_unfolding_all exact rfl) ?_)
    gi_wp2_with fail
    refine ((callsIn_wide (n := 8)).2 HNm.out).mono ?_
    rintro e w6 ⟨rfl, hb6⟩
    have HB6 : Hid (Below W5.heap.size W5 w6) := (Below.refl _ _).drew.trans hb6
    have HA6 := Lib.hid (HA5.out.below HB6.out)
    clear hb6
    have hdc : ∃ v, w6.cell? ⟨Db, n, none⟩ = some v ∧ ∀ b, w6.heap[Db]? = b → True := by
      obtain ⟨cs, d1, d2, d3⟩ := HA6.out.dir
      exact ⟨_, by rw [d1.cell]; exact (d3 n hn).1, fun _ _ => trivial⟩
    gi_wp2_with fail
    (with_reducible refine outQ_normal ?_ ?_); exact ⟨⟨w6, Turns.of_below HB6.out _⟩, rfl⟩
    (repeat ((with_reducible refine wpTree_take (by with_unfolding_all exact rfl) ?_); (with_reducible (show wpQuiet _ _ _ _ (_ :: _) _)); go_big_quiet_step (fail); (with_reducible refine wpQuiet_nil ?_)))
    obtain ⟨cs6, d61, d62, d63⟩ := HA6.out.dir
    have qd := d61.cell n
    have fd := d61.frozen n
    rw [(d63 n hn).1] at qd
    clear hdc d61 d62 d63
    (with_reducible refine wpTree_one (by with_unfolding_all exact rfl) ?_)
    gi_wp2_with fail
    (with_reducible refine outQ_normal ?_ ?_); exact ⟨⟨_, (Turns.of_below HB6.out _).setCell (by simp) _⟩, rfl⟩
    have HA7 := Lib.hid (HA6.out.dirAt n nv hn (by rw [HNv.out, HBk.out, HPn.out]; have := HL.out; omega))
    (repeat ((with_reducible refine wpTree_take (by with_unfolding_all exact rfl) ?_); (with_reducible (show wpQuiet _ _ _ _ (_ :: _) _)); go_big_quiet_step (fail); (with_reducible refine wpQuiet_nil ?_)))
    obtain ⟨_, hp7, _, _⟩ := HA7.out.part n x HX.out
    obtain ⟨cap7, hr7, hc7⟩ := hp7.row
    have HR7 := Lib.hid hr7
    have q7 := hr7.cell 1
    have f7 := hr7.frozen 1
    simp only [List.getElem?_toArray, List.getElem?_cons_zero, List.getElem?_cons_succ] at q7
    clear hr7 hp7
    have HA8 : Hid (SmAt ((w6.setCell ⟨Db, n, none⟩ (.int .u32 nv)).setCell ⟨P n, 1, none⟩ (.bool false)) Mb Sb Q Db P pb (T ++ T') F' (S.saved n (sh.L.length + 1) x) (sh.put n x.b)) := by
      have e1 : nv = sh.L.length + 1 := by rw [HNv.out, HBk.out, HPn.out]; omega
      have h8 := HA7.out.partRow n x { x with d := false } HX.out rfl ((Turns.refl _ [P n]).setCell (p := ⟨P n, 1, none⟩) (by simp) (.bool false)) ⟨cap7, by simpa using HR7.out.put 1 (.bool false), hc7⟩
      unfold Hid Sm.saved
      rw [← e1]
      exact h8
    have HT8 : Hid (Turns W5 ((w6.setCell ⟨Db, n, none⟩ (.int .u32 nv)).setCell ⟨P n, 1, none⟩ (.bool false)) [Db, P n]) := ((Turns.of_below HB6.out _).setCell (by simp) _).setCell (by simp) _
    (with_reducible refine wpTree_one (by with_unfolding_all exact rfl) ?_)
    gi_wp2_with fail
    (with_reducible refine outQ_normal ?_ ?_); exact ⟨⟨_, HT8.out⟩, rfl⟩
    with_reducible refine wpTree_nil ?_
    refine NoPanic.normal ?_
    clear k1 k2 k3 hS
    go_wp2
    go_ret
    refine ⟨rfl, T ++ T', F', HA8.out, ?_, fun k hk => ?_, HSv5.out.read⟩
    · refine (HSv5.out.turns.mono HT1.out).trans HT8.out (fun k hk => .inl ?_)
      simp only [List.mem_cons, List.not_mem_nil, or_false] at hk
      rcases hk with rfl | rfl
      · exact HH.out.mem.2.2
      · exact (HH.out.part n x HX.out).2.2.1
    · rcases List.mem_append.1 hk with hk | hk
      · exact .inl hk
      · exact (HSv5.out.own k hk).elim (fun h => .inl (HT1.out k h)) .inr
end Go.Proofs.Ytfipmpajdkgffaa

namespace Go.Proofs.Ytfipmpajdkgffaa
set_option linter.unusedVariables false
set_option linter.unusedSimpArgs false

/-- A part's bytes, wherever they lie. -/
def told (S : Sm) (sh : Sh) (n : Nat) : Option (List Nat) := match S.parts n with
  | some x => some x.b
  | none => readR S sh n
/-- A number's part lies where its newest put is. -/
def NwAt (N : List Int) (d n : Nat) : Prop := (d = 0 ∧ ∀ (j : Nat) (v : Int), N[j]? = some v → v ≠ n) ∨ ∃ j, d = j + 1 ∧ N[j]? = some (n : Int) ∧ ∀ (i : Nat) (v : Int), j < i → N[i]? = some v → v ≠ n
def Nw (S : Sm) (sh : Sh) : Prop := ∀ n, n < S.np → NwAt sh.N (S.dir n) n
/-- A map and its shelf, well. -/
structure Wl (S : Sm) (sh : Sh) : Prop where
  ok : ∀ n x, S.parts n = some x → okB S.page x.b
  clean : ∀ n x, S.parts n = some x → x.d = false → readR S sh n = some x.b
  len : ∀ d ∈ sh.L, d.length ≤ 65536
  same : sh.N.length = sh.L.length
  held : S.cnt ≤ S.held
  full : -1 ≤ sh.full ∧ sh.full ≤ 1048576
  page : 16 ≤ S.page ∧ S.page ≤ 4096 ∧ S.page % 4 = 0
/-- A map that has gone on: what it tells is the same; k puts at most, c parts more in memory at most. -/
structure Goes (k c : Nat) (S : Sm) (sh : Sh) (S' : Sm) (sh' : Sh) : Prop where
  sectors : S'.sectors = S.sectors
  page : S'.page = S.page
  held : S'.held = S.held
  told : ∀ m b, told S sh m = some b → told S' sh' m = some b
  wl : Wl S' sh'
  nw : Nw S sh → Nw S' sh'
  puts : sh.L.length ≤ sh'.L.length ∧ sh'.L.length ≤ sh.L.length + k
  cnt : S'.cnt ≤ S.cnt + c
  full : -1 ≤ sh'.full ∧ sh'.full ≤ sh.full
theorem np_eq {S S' : Sm} (h1 : S'.sectors = S.sectors) (h2 : S'.page = S.page) : S'.np = S.np := by unfold Sm.np Sm.each; rw [h1, h2]
theorem Goes.np {k c : Nat} {S S' : Sm} {sh sh' : Sh} (h : Goes k c S sh S' sh') : S'.np = S.np := np_eq h.sectors h.page
theorem Goes.refl {S : Sm} {sh : Sh} (h : Wl S sh) : Goes 0 0 S sh S sh := ⟨rfl, rfl, rfl, fun _ _ h => h, h, fun h => h, ⟨Nat.le_refl _, Nat.le_refl _⟩, Nat.le_refl _, ⟨h.full.1, Int.le_refl _⟩⟩
theorem Goes.trans {k c k' c' : Nat} {S S1 S2 : Sm} {sh sh1 sh2 : Sh} (h : Goes k c S sh S1 sh1) (g : Goes k' c' S1 sh1 S2 sh2) : Goes (k + k') (c + c') S sh S2 sh2 :=
  ⟨g.sectors.trans h.sectors, g.page.trans h.page, g.held.trans h.held, fun m b hb => g.told m b (h.told m b hb), g.wl, fun hn => g.nw (h.nw hn), ⟨Nat.le_trans h.puts.1 g.puts.1, by have := h.puts.2; have := g.puts.2; omega⟩, by have := h.cnt; have := g.cnt; omega, ⟨g.full.1, Int.le_trans g.full.2 h.full.2⟩⟩
theorem Goes.mono {k c k' c' : Nat} {S S1 : Sm} {sh sh1 : Sh} (h : Goes k c S sh S1 sh1) (hk : k ≤ k') (hc : c ≤ c') : Goes k' c' S sh S1 sh1 :=
  ⟨h.sectors, h.page, h.held, h.told, h.wl, h.nw, ⟨h.puts.1, by have := h.puts.2; omega⟩, by have := h.cnt; omega, h.full⟩
theorem readR_eq {S S' : Sm} {sh : Sh} (h1 : S'.dir = S.dir) (h2 : S'.page = S.page) (n : Nat) : readR S' sh n = readR S sh n := by unfold readR; rw [h1, h2]
theorem readR_okB {S : Sm} {sh : Sh} {n : Nat} {b : List Nat} (h : readR S sh n = some b) (hp : S.page % 4 = 0) : okB S.page b := by
  unfold readR at h
  split at h
  · injection h with h; subst h
    refine ⟨by simp, fun i hi => ?_⟩
    unfold num4
    simp only [List.getD_eq_getElem?_getD, List.getElem?_replicate]
    rw [if_pos (by omega), if_pos (by omega), if_pos (by omega), if_pos (by omega)]
    decide
  · split at h
    · cases h
    · split at h
      · injection h with h; subst h; assumption
      · cases h
/-- With more on the shelf, what could be read is read. -/
theorem readR_more {S : Sm} {sh : Sh} {n : Nat} {b : List Nat} {N : List Int} {f : Int} (l : List (List Nat)) (h : readR S sh n = some b) : readR S ⟨sh.L ++ l, N, f⟩ n = some b := by
  unfold readR at h ⊢
  by_cases h0 : S.dir n = 0
  · rw [if_pos h0] at h ⊢; exact h
  · rw [if_neg h0] at h ⊢
    cases hd : sh.L[S.dir n - 1]? with
    | none => rw [hd] at h; cases h
    | some d =>
      rw [hd] at h
      have : (sh.L ++ l)[S.dir n - 1]? = some d := by rw [List.getElem?_append_left (List.getElem?_eq_some_iff.1 hd).1]; exact hd
      show (match (sh.L ++ l)[S.dir n - 1]? with | none => none | some d => if okB S.page d then some d else none) = some b
      rw [this]; exact h
theorem NwAt.put_same {N : List Int} {d n L : Nat} (hL : N.length = L) : NwAt (N ++ [(n : Int)]) (L + 1) n := by
  refine .inr ⟨L, rfl, by rw [← hL]; simp, fun i v hi hv => ?_⟩
  have := (List.getElem?_eq_some_iff.1 hv).1
  simp at this; omega
theorem NwAt.put_other {N : List Int} {d n m : Nat} (h : NwAt N d m) (hne : m ≠ n) : NwAt (N ++ [(n : Int)]) d m := by
  have hlast : ∀ (i : Nat) (v : Int), (N ++ [(n : Int)])[i]? = some v → N[i]? = some v ∨ v = n := fun i v hv => by
    rcases Nat.lt_or_ge i N.length with h | h
    · rw [List.getElem?_append_left h] at hv; exact .inl hv
    · rw [List.getElem?_append_right h] at hv
      have := List.mem_of_getElem? hv
      exact .inr (by simpa using this)
  rcases h with ⟨h0, h1⟩ | ⟨j, h0, h1, h2⟩
  · refine .inl ⟨h0, fun j v hv => ?_⟩
    rcases hlast j v hv with h | rfl
    · exact h1 j v h
    · omega
  · refine .inr ⟨j, h0, by rw [List.getElem?_append_left (List.getElem?_eq_some_iff.1 h1).1]; exact h1, fun i v hi hv => ?_⟩
    rcases hlast i v hv with h | rfl
    · exact h2 i v hi h
    · omega
theorem saved_parts (S : Sm) (n v : Nat) (x : Pt) : (S.saved n v x).parts = updP S.parts n (some { x with d := false }) := rfl
theorem readR_saved {S : Sm} {sh : Sh} {n : Nat} {x : Pt} (hok : okB S.page x.b) : readR (S.saved n (sh.L.length + 1) x) (sh.put n x.b) n = some x.b := by
  unfold readR
  have h0 : (S.saved n (sh.L.length + 1) x).dir n = sh.L.length + 1 := by simp [Sm.saved, Sm.part1, Sm.dirAt]
  rw [h0, if_neg (by omega)]
  have : (sh.put n x.b).L[sh.L.length + 1 - 1]? = some x.b := by simp [Sh.put]
  rw [this]
  simp only
  rw [if_pos (show okB (S.saved n (sh.L.length + 1) x).page x.b from hok)]
theorem readR_saved_other {S : Sm} {sh : Sh} {n m : Nat} {x : Pt} {b : List Nat} (hm : m ≠ n) (h : readR S sh m = some b) : readR (S.saved n (sh.L.length + 1) x) (sh.put n x.b) m = some b := by
  have h1 : readR (S.saved n (sh.L.length + 1) x) (sh.put n x.b) m = readR S (sh.put n x.b) m := by
    have hd : (S.saved n (sh.L.length + 1) x).dir m = S.dir m := by simp [Sm.saved, Sm.part1, Sm.dirAt, hm]
    unfold readR
    rw [hd]; rfl
  rw [h1]
  exact readR_more [x.b] h
theorem goes_saved {S : Sm} {sh : Sh} (h : Wl S sh) {n : Nat} {x : Pt} (hx : S.parts n = some x) (hf : sh.full ≠ 0) : Goes 1 0 S sh (S.saved n (sh.L.length + 1) x) (sh.put n x.b) := by
  have hok := h.ok n x hx
  refine ⟨rfl, rfl, rfl, fun m b hb => ?_, ⟨fun m y hy => ?_, fun m y hy hd => ?_, fun d hd => ?_, ?_, h.held, ?_, h.page⟩, fun hn m hm => ?_, ⟨by simp [Sh.put], by simp [Sh.put]⟩, Nat.le_refl _, ?_⟩
  · unfold told at hb ⊢
    rw [saved_parts]
    by_cases e : m = n
    · subst e
      rw [hx] at hb
      rw [updP_same]; exact hb
    · rw [updP_ne e]
      cases hp : S.parts m with
      | some y => rw [hp] at hb; exact hb
      | none => rw [hp] at hb; exact readR_saved_other e hb
  · rw [saved_parts] at hy
    by_cases e : m = n
    · subst e; rw [updP_same] at hy; injection hy with hy; subst hy; exact hok
    · rw [updP_ne e] at hy; exact h.ok m y hy
  · rw [saved_parts] at hy
    by_cases e : m = n
    · subst e; rw [updP_same] at hy; injection hy with hy; subst hy; exact readR_saved hok
    · rw [updP_ne e] at hy; exact readR_saved_other e (h.clean m y hy hd)
  · simp only [Sh.put, List.mem_append, List.mem_singleton] at hd
    rcases hd with hd | rfl
    · exact h.len d hd
    · rw [hok.1]; have := h.page; omega
  · simp [Sh.put, h.same]
  · have := h.full
    simp only [Sh.put]
    split <;> omega
  · by_cases e : m = n
    · subst e
      have : (S.saved m (sh.L.length + 1) x).dir m = sh.L.length + 1 := by simp [Sm.saved, Sm.part1, Sm.dirAt]
      rw [this]
      exact NwAt.put_same (d := 0) h.same
    · have : (S.saved n (sh.L.length + 1) x).dir m = S.dir m := by simp [Sm.saved, Sm.part1, Sm.dirAt, e]
      rw [this]
      exact (hn m hm).put_other e
  · have := h.full
    simp only [Sh.put]
    split <;> omega
def Sm.tick (S : Sm) (c : Int) : Sm := { S with clock := c }
theorem goes_tick {S : Sm} {sh : Sh} (h : Wl S sh) (c : Int) : Goes 0 0 S sh (S.tick c) sh :=
  ⟨rfl, rfl, rfl, fun _ _ h => h, ⟨h.ok, h.clean, h.len, h.same, h.held, h.full, h.page⟩, fun h => h, ⟨Nat.le_refl _, Nat.le_refl _⟩, Nat.le_refl _, ⟨h.full.1, Int.le_refl _⟩⟩
theorem goes_used {S : Sm} {sh : Sh} (h : Wl S sh) {n : Nat} {x : Pt} (hx : S.parts n = some x) (u : Int) : Goes 0 0 S sh (S.part1 n { x with u := u }) sh := by
  refine ⟨rfl, rfl, rfl, fun m b hb => ?_, ⟨fun m y hy => ?_, fun m y hy hd => ?_, h.len, h.same, h.held, h.full, h.page⟩, fun h => h, ⟨Nat.le_refl _, Nat.le_refl _⟩, Nat.le_refl _, ⟨h.full.1, Int.le_refl _⟩⟩
  · unfold told at hb ⊢
    by_cases e : m = n
    · subst e; rw [hx] at hb; simp only [Sm.part1, updP_same]; exact hb
    · simp only [Sm.part1, updP_ne e]; exact hb
  · by_cases e : m = n
    · subst e; simp only [Sm.part1, updP_same] at hy; injection hy with hy; subst hy; exact h.ok m x hx
    · simp only [Sm.part1, updP_ne e] at hy; exact h.ok m y hy
  · by_cases e : m = n
    · subst e; simp only [Sm.part1, updP_same] at hy; injection hy with hy; subst hy; exact h.clean m x hx hd
    · simp only [Sm.part1, updP_ne e] at hy; exact h.clean m y hy hd
/-- A part is brought into memory. -/
def Sm.add (S : Sm) (n : Nat) (x : Pt) : Sm := { S with parts := updP S.parts n (some x), cnt := S.cnt + 1 }
theorem goes_add {S : Sm} {sh : Sh} (h : Wl S sh) {n : Nat} {b : List Nat} (hx : S.parts n = none) (hr : readR S sh n = some b) (u : Int) (hc : S.cnt < S.held) : Goes 0 1 S sh (S.add n ⟨b, false, u⟩) sh := by
  refine ⟨rfl, rfl, rfl, fun m d hb => ?_, ⟨fun m y hy => ?_, fun m y hy hd => ?_, h.len, h.same, hc, h.full, h.page⟩, fun h => h, ⟨Nat.le_refl _, Nat.le_refl _⟩, Nat.le_refl _, ⟨h.full.1, Int.le_refl _⟩⟩
  · unfold told at hb ⊢
    by_cases e : m = n
    · subst e; rw [hx] at hb; simp only [Sm.add, updP_same]; exact hr.symm.trans hb
    · simp only [Sm.add, updP_ne e]; exact hb
  · by_cases e : m = n
    · subst e; simp only [Sm.add, updP_same] at hy; injection hy with hy; subst hy; exact readR_okB hr h.page.2.2
    · simp only [Sm.add, updP_ne e] at hy; exact h.ok m y hy
  · by_cases e : m = n
    · subst e; simp only [Sm.add, updP_same] at hy; injection hy with hy; subst hy; exact hr
    · simp only [Sm.add, updP_ne e] at hy; exact h.clean m y hy hd
/-- A part makes way. -/
def Sm.drop (S : Sm) (n : Nat) : Sm := { S with parts := updP S.parts n none, cnt := S.cnt - 1 }
theorem goes_drop {S : Sm} {sh : Sh} (h : Wl S sh) {n : Nat} {x : Pt} (hx : S.parts n = some x) (hd : x.d = false) : Goes 0 0 S sh (S.drop n) sh := by
  refine ⟨rfl, rfl, rfl, fun m d hb => ?_, ⟨fun m y hy => ?_, fun m y hy hd => ?_, h.len, h.same, Nat.le_trans (Nat.sub_le _ _) h.held, h.full, h.page⟩, fun h => h, ⟨Nat.le_refl _, Nat.le_refl _⟩, Nat.sub_le _ _, ⟨h.full.1, Int.le_refl _⟩⟩
  · unfold told at hb ⊢
    by_cases e : m = n
    · subst e; rw [hx] at hb; simp only [Sm.drop, updP_same]; exact (h.clean m x hx hd).trans hb
    · simp only [Sm.drop, updP_ne e]; exact hb
  · by_cases e : m = n
    · subst e; simp only [Sm.drop, updP_same] at hy; cases hy
    · simp only [Sm.drop, updP_ne e] at hy; exact h.ok m y hy
  · by_cases e : m = n
    · subst e; simp only [Sm.drop, updP_same] at hy; cases hy
    · simp only [Sm.drop, updP_ne e] at hy; exact h.clean m y hy hd
/-- A part's bytes turn. -/
theorem wl_turn {S : Sm} {sh : Sh} (h : Wl S sh) {n : Nat} {x : Pt} (b : List Nat) (hb : okB S.page b) : Wl (S.part1 n { x with b := b, d := true }) sh := by
  refine ⟨fun m y hy => ?_, fun m y hy hd => ?_, h.len, h.same, h.held, h.full, h.page⟩
  · by_cases e : m = n
    · subst e; simp only [Sm.part1, updP_same] at hy; injection hy with hy; subst hy; exact hb
    · simp only [Sm.part1, updP_ne e] at hy; exact h.ok m y hy
  · by_cases e : m = n
    · subst e; simp only [Sm.part1, updP_same] at hy; injection hy with hy; subst hy; cases hd
    · simp only [Sm.part1, updP_ne e] at hy; exact h.clean m y hy hd
theorem told_part1 (S : Sm) (sh : Sh) (n m : Nat) (x : Pt) : told (S.part1 n x) sh m = if m = n then some x.b else told S sh m := by
  unfold told
  by_cases e : m = n
  · subst e; rw [if_pos rfl]; simp only [Sm.part1, updP_same]
  · rw [if_neg e]; simp only [Sm.part1, updP_ne e]; rfl
end Go.Proofs.Ytfipmpajdkgffaa

namespace Go.Proofs.Ytfipmpajdkgffaa
open Go.RowKit Go.MapKept Go.ChangeMaps
open Go.Maps (Keyed)
set_option linter.unusedVariables false
set_option linter.unusedSimpArgs false

/-- Block r of w goes over the map at b, which f tells; cnt entries are still to come. -/
def IterIs (P : Program) (k : TypeId) (w : World) (b r n : Nat) (f : Value → Option Value) (cnt : Nat) : Prop :=
  ∃ es clock since seen c0, w.heap[b]? = some (.map es clock) ∧ Stamped es clock ∧ es.size = n ∧ (∀ x ∈ es.toList, ∃ l, keyOf P k x.key = some l) ∧ (∀ key v, f key = some v ↔ ∃ x ∈ es.toList, x.key = key ∧ x.val = v) ∧
    w.heap[r]? = some (.mapIter (some b) since seen c0) ∧ (∀ x ∈ es.toList, x.born < since) ∧ (leftOf es seen).size = cnt ∧ since ≤ c0 ∧ since ≤ clock
section
variable {P : Program} {k : TypeId} {w : World} {b r n cnt : Nat} {f : Value → Option Value}
theorem IterIs.isMap (h : IterIs P k w b r n f cnt) : MapIs P k w b n f := by
  obtain ⟨es, clock, since, seen, c0, hb, hs, hn, hk, hf, _⟩ := h
  exact ⟨es, clock, hb, hs, hn, hk, hf⟩
theorem IterIs.lt (h : IterIs P k w b r n f cnt) : r < w.heap.size := by
  obtain ⟨es, clock, since, seen, c0, hb, hs, hn, hk, hf, hr, _⟩ := h
  exact (Array.getElem?_eq_some_iff.1 hr).1
theorem IterIs.keep {w' : World} (h : IterIs P k w b r n f cnt) (hb : w'.heap[b]? = w.heap[b]?) (hr : w'.heap[r]? = w.heap[r]?) : IterIs P k w' b r n f cnt := by
  obtain ⟨es, clock, since, seen, c0, h1, hs, hn, hk, hf, h2, rest⟩ := h
  exact ⟨es, clock, since, seen, c0, hb.trans h1, hs, hn, hk, hf, hr.trans h2, rest⟩
theorem IterIs.below {w' : World} (h : IterIs P k w b r n f cnt) (hb : Below w.heap.size w w') : IterIs P k w' b r n f cnt :=
  h.keep (hb.block b h.isMap.lt) (hb.block r h.lt)
theorem MapIs.range {t e : TypeId} (h : MapIs P k w b n f) (ht : P.underlying t = some (.map k e)) :
    ∃ w', (Instr.range t (.map (some b))).run P w = .ok (.pointer (some ⟨w.heap.size, 0, none⟩)) w' ∧ IterIs P k w' b w.heap.size n f n ∧ Below w.heap.size w w' := by
  obtain ⟨es, clock, hb, hs, hn, hk, hf⟩ := h
  refine ⟨w.alloc (.mapIter (some b) clock #[] clock), ?_, ⟨es, clock, clock, #[], clock, ?_, hs, hn, hk, hf, heap_alloc_new w _, ?_, ?_, Nat.le_refl _, Nat.le_refl _⟩, (Below.refl _ _).alloc (Nat.le_refl _) _⟩
  · simp [Instr.range, run_underlying ht, MapKept.run_getObj_map hb, Result.andThen]
  · exact (Below.heap_alloc w _ b (Array.getElem?_eq_some_iff.1 hb).1).trans hb
  · exact fun x hx => ((stamped_iff es clock).1 hs).1 x hx
  · rw [← hn]; simp [leftOf]
theorem IterIs.next (h : IterIs P k w b r n f cnt) (ty : TypeId) :
    (cnt = 0 ∧ (Instr.next (.pointer (some ⟨r, 0, none⟩)) false ty).run P w = .ok (.tuple #[.bool false]) w) ∨
    ∃ key v w' cnt', f key = some v ∧ (Instr.next (.pointer (some ⟨r, 0, none⟩)) false ty).run P w = .ok (.tuple #[.bool true, key, v]) w' ∧ IterIs P k w' b r n f cnt' ∧ cnt' < cnt ∧ w.grownBy w' (some r) ∧
      (Instr.entry (.pointer (some ⟨r, 0, none⟩))).run P w' = .ok (.tuple #[key, v]) w' := by
  obtain ⟨es, clock, since, seen, c0, hb, hs, hn, hk, hf, hr, hold, hcnt, hsc, hsk⟩ := h
  have hne : r ≠ b := fun e => by rw [e, hb] at hr; cases hr
  rcases run_next_at (P := P) w ty r b since c0 seen es clock hr hb hold hsc with ⟨h0, hrun⟩ | ⟨e, he, w1, hal, hrun⟩
  · exact .inl ⟨by rw [← hcnt]; exact h0, hrun⟩
  · obtain ⟨hem, hes⟩ := mem_left he
    have hr1 : w1.heap[r]? = some (.mapIter (some b) since seen c0) := by rcases hal with rfl | rfl <;> exact hr
    have hb1 : w1.heap[b]? = some (.map es clock) := by rcases hal with rfl | rfl <;> exact hb
    have hset := heap_set (o' := .mapIter (some b) since (seen.push e.born) clock) hr1
    have hb' : (setBlock w1 r (.mapIter (some b) since (seen.push e.born) clock)).heap[b]? = some (.map es clock) := (hset.2 b (fun e1 => hne e1.symm)).trans hb1
    refine .inr ⟨e.key, e.val, _, _, (hf e.key e.val).2 ⟨e, hem, rfl, rfl⟩, hrun, ⟨es, clock, since, seen.push e.born, clock, hb', hs, hn, hk, hf, hset.1, hold, rfl, hsk, hsk⟩, by rw [← hcnt]; exact left_shrinks es seen e he, ?_,
      run_entry_at _ r b since seen es clock e hset.1 hb' hem ((stamped_iff es clock).1 hs).2.1⟩
    rcases hal with rfl | rfl <;> exact ⟨rfl, rfl, rfl, by simp [setBlock], fun i _ hi => hset.2 i (fun e1 => hi (by rw [e1]))⟩
theorem IterIs.left_eq (h : IterIs P k w b r n f cnt) : w.rangeLeft b r = cnt := by
  obtain ⟨es, clock, since, seen, c0, h1, hs, hn, hk, hf, h2, hold, hcnt, _⟩ := h
  unfold World.rangeLeft
  rw [h1, h2]; exact hcnt
variable {ops : Array Oper} {rest : List Oper} {o : Oper} {a : Act} {Q : Exit → Act → World → Prop}
/-- 'range m'. -/
theorem wpList_range_map (hg : o.guard = none) (m : Operand) (t : TypeId) (hop : o.op = Op.range t m) (k e : TypeId) (ht : P.underlying t = some (.map k e)) (b n : Nat) (f : Value → Option Value)
    (hm : a.eval m = .map (some b)) (h : MapIs P k w b n f)
    (hK : ∀ w', IterIs P k w' b w.heap.size n f n → Below w.heap.size w w' → wpList P ops Q rest (a.put o.dst (.pointer (some ⟨w.heap.size, 0, none⟩))) w') :
    wpList P ops Q (o :: rest) a w := by
  refine wpList_plain hg fun K' hK' => ?_
  obtain ⟨w', hrun, r1, r2⟩ := h.range ht
  unfold Oper.wp
  simp [execOp, hop, hm, hrun, Result.andThen]
  exact hK' _ _ (hK w' r1 r2)
/-- The step. -/
theorem wpList_next_map (hg : o.guard = none) (it : Operand) (hop : o.op = Op.next it false) (k : TypeId) (b r n : Nat) (f : Value → Option Value) (cnt : Nat) (hit : a.eval it = .pointer (some ⟨r, 0, none⟩)) (h : IterIs P k w b r n f cnt)
    (hDone : cnt = 0 → wpList P ops Q rest (a.put o.dst (.tuple #[.bool false])) w)
    (hMore : ∀ (key v : Value) (w' : World) (cnt' : Nat), f key = some v → IterIs P k w' b r n f cnt' → cnt' < cnt → w.grownBy w' (some r) →
      (Instr.entry (.pointer (some ⟨r, 0, none⟩))).run P w' = .ok (.tuple #[key, v]) w' → wpList P ops Q rest (a.put o.dst (.tuple #[.bool true, key, v])) w') :
    wpList P ops Q (o :: rest) a w := by
  refine wpList_plain hg fun K' hK' => ?_
  unfold Oper.wp
  rcases h.next o.type with ⟨h0, hrun⟩ | ⟨key, v, w', cnt', hfk, hrun, hit', hlt, hgr, hen⟩
  · simp [execOp, hop, hit, hrun, Result.andThen]
    exact hK' _ _ (hDone h0)
  · simp [execOp, hop, hit, hrun, Result.andThen]
    exact hK' _ _ (hMore key v w' cnt' hfk hit' hlt hgr hen)
end
/-- Two maps that have the same keys have as many entries. -/
theorem nodup_le {α : Type} : ∀ {l m : List α}, l.Pairwise (· ≠ ·) → (∀ x ∈ l, x ∈ m) → l.length ≤ m.length
  | [], _, _, _ => by simp
  | x :: l, m, hp, hm => by
    obtain ⟨h1, h2⟩ := List.pairwise_cons.1 hp
    obtain ⟨m1, m2, rfl⟩ := List.append_of_mem (hm x (by simp))
    have := nodup_le (l := l) (m := m1 ++ m2) h2 (fun y hy => by
      have := hm y (by simp [hy])
      simp only [List.mem_append, List.mem_cons] at this ⊢
      rcases this with h | rfl | h
      · exact .inl h
      · exact absurd rfl (h1 _ hy)
      · exact .inr h)
    simp only [List.length_append, List.length_cons] at this ⊢
    omega
theorem MapIs.keys_le {P : Program} {k : TypeId} {w w' : World} {b b' n n' : Nat} {f f' : Value → Option Value} (h : MapIs P k w b n f) (h' : MapIs P k w' b' n' f') (hk : ∀ key v, f key = some v → ∃ v', f' key = some v') : n ≤ n' := by
  obtain ⟨es, clock, hb, hs, rfl, _, hf⟩ := h
  obtain ⟨es', clock', hb', hs', rfl, _, hf'⟩ := h'
  have := nodup_le (l := es.toList.map (·.key)) (m := es'.toList.map (·.key)) (List.pairwise_map.2 ((stamped_iff es clock).1 hs).2.2) (fun key hkey => by
    obtain ⟨x, hx, rfl⟩ := List.mem_map.1 hkey
    obtain ⟨v', hv'⟩ := hk x.key x.val ((hf _ _).2 ⟨x, hx, rfl, rfl⟩)
    obtain ⟨y, hy, e, _⟩ := (hf' _ _).1 hv'
    exact List.mem_map.2 ⟨y, hy, e⟩)
  simpa using this
end Go.Proofs.Ytfipmpajdkgffaa

namespace Go.Proofs.Ytfipmpajdkgffaa
open Go.RowKit Go.MapKept Go.ChangeMaps
set_option linter.unusedVariables false
set_option linter.unusedSimpArgs false

section
variable {w w' : World} {Mb Sb Q Db : Nat} {P pb : Nat → Nat} {T F : List Nat} {S : Sm} {sh : Sh}
theorem SmAt.tick (h : SmAt w Mb Sb Q Db P pb T F S sh) (c : Int) : SmAt (w.setCell ⟨Mb, 6, none⟩ (.int .i64 c)) Mb Sb Q Db P pb T F (S.tick c) sh := by
  obtain ⟨⟨k1, k2, k3, k4, k5, k6⟩, kp⟩ := h.kinds
  have ht : Turns w (w.setCell ⟨Mb, 6, none⟩ (.int .i64 c)) [Mb] := (Turns.refl w [Mb]).setCell (by simp) _
  obtain ⟨cs, d1, d2, d3⟩ := h.dir
  obtain ⟨f, m1, m2⟩ := h.map
  obtain ⟨Ts, s1, s2, s3⟩ := h.shelf.trim
  have hMb : Mb ∉ Ts := not_shelf s3 h.row (by decide)
  have hMF : Mb ∉ F := fun hk => h.apart _ hk h.mem.1
  refine ⟨by have h1 := h.row.put 6 (.int .i64 c); simp at h1; exact h1, ⟨cs, ht.row d1 (by simpa using (fun e => k2 e.symm)), d2, d3⟩, ⟨f, m1.turns ht (by simpa using (fun e => k1 e.symm)), m2⟩, fun m x hx => ?_, h.inj, (s2.keep ht (fun k hk => by rw [List.mem_singleton.1 hk]; exact ⟨hMb, hMF⟩)).mono s1 (fun k hk => hk), h.mem, h.apart, fun k hk => Nat.lt_of_lt_of_le (h.lt k hk) ht.size, h.sh⟩
  obtain ⟨a, b, c', d⟩ := h.part m x hx
  obtain ⟨⟨e1, _⟩, ⟨e2, _⟩, _⟩ := kp m x hx
  exact ⟨a, b.keep ht (by simpa using e1) (by simpa using e2), c', d⟩
theorem parts_key {n : Nat} (h : n < 9223372036854775808) : keyOf Try.prog 3 (nk n) = some (.int .i64 (n : Nat)) := int_key h
/-- delete(m.parts, n). -/
theorem SmAt.delete (h : SmAt w Mb Sb Q Db P pb T F S sh) (n : Nat) (x : Pt) (hx : S.parts n = some x) (hn : n < 9223372036854775808) : ∃ w', (∀ ty, (Builtin.delete_ #[63, 3] ty #[.map (some Q), .int .i64 n]).run Try.prog w = .ok (.tuple #[]) w') ∧ Turns w w' [Q] ∧ SmAt w' Mb Sb Q Db P pb T F (S.drop n) sh := by
  obtain ⟨⟨k1, k2, k3, k4, k5, k6⟩, kp⟩ := h.kinds
  obtain ⟨cs, d1, d2, d3⟩ := h.dir
  obtain ⟨f, m1, m2⟩ := h.map
  obtain ⟨Ts, s1, s2, s3⟩ := h.shelf.trim
  have hf : f (nk n) = some (.pointer (some ⟨P n, 0, none⟩)) := (m2 _ _).2 ⟨n, x, hx, rfl, rfl⟩
  obtain ⟨w', hrun, hm, hg⟩ := m1.delete (ty := 0) intKeyed parts_under (parts_key hn)
  have ht : Turns w w' [Q] := Turns.of_grown hg
  rw [hf] at hm
  have hQ : ∀ ty cs, ¬ Row w Q ty cs := fun ty cs hr => by
    obtain ⟨es, clock, m3, _⟩ := m1
    unfold Row at hr; rw [hr] at m3; cases m3
  have hne : ∀ {g : Nat} {ty : TypeId} {cs : Array Value}, Row w g ty cs → g ∉ [Q] := fun {g ty cs} hr hk => hQ ty cs (by rw [← List.mem_singleton.1 hk]; exact hr)
  refine ⟨w', fun ty => hrun, ht, ht.row h.row (hne h.row), ⟨cs, ht.row d1 (hne d1), d2, d3⟩, ⟨_, hm, fun key v => ?_⟩, fun m y hy => ?_, fun a b hab ha hb => ?_, (s2.keep ht (fun k hk => ?_)).mono s1 (fun k hk => hk), h.mem, h.apart, fun k hk => Nat.lt_of_lt_of_le (h.lt k hk) ht.size, h.sh⟩
  · by_cases e : key = nk n
    · subst e
      rw [updK_same]
      constructor
      · intro h; cases h
      · rintro ⟨m, y, h1, h2, _⟩
        rw [← nk_inj h2] at h1
        simp only [Sm.drop, updP_same] at h1; cases h1
    · rw [updK_ne _ _ _ e, m2]
      constructor
      · rintro ⟨m, y, h1, h2, h3⟩
        refine ⟨m, y, ?_, h2, h3⟩
        simp only [Sm.drop]
        rw [updP_ne (fun e2 => e (by rw [h2, e2]))]; exact h1
      · rintro ⟨m, y, h1, h2, h3⟩
        simp only [Sm.drop] at h1
        rw [updP_ne (fun e2 => e (by rw [h2, e2]))] at h1
        exact ⟨m, y, h1, h2, h3⟩
  · simp only [Sm.drop] at hy
    by_cases e : m = n
    · subst e; rw [updP_same] at hy; cases hy
    · rw [updP_ne e] at hy
      obtain ⟨a, b, c, d⟩ := h.part m y hy
      obtain ⟨cap, pr, _⟩ := b.row
      obtain ⟨bs, br, _⟩ := b.bytes
      exact ⟨a, b.keep ht (hne pr) (hne br), c, d⟩
  · have hs : ∀ m, (updP S.parts n none m).isSome = true → (S.parts m).isSome = true := fun m hm => by
      by_cases e : m = n
      · subst e; rw [updP_same] at hm; cases hm
      · rw [updP_ne e] at hm; exact hm
    exact h.inj a b hab (hs a ha) (hs b hb)
  · rw [List.mem_singleton.1 hk]
    refine ⟨fun hm => ?_, fun hm => h.apart _ hm h.mem.2.1⟩
    obtain ⟨ty, cs, hr, _⟩ := s3 Q hm
    exact hQ ty cs hr
/-- m.parts[n] = x. -/
theorem SmAt.store (h : SmAt w Mb Sb Q Db P pb T F S sh) (n : Nat) (x : Pt) (Zb bb : Nat) (hx : S.parts n = none) (hn : n < S.np) (hn6 : n < 9223372036854775808) (hp : PtAt w Zb bb S.page x) (h1 : Zb ∉ T ∧ Zb ∉ F) (h2 : bb ∉ T ∧ bb ∉ F) :
    ∃ w', (Instr.mapUpdate 63 (.map (some Q)) (.int .i64 n) (.pointer (some ⟨Zb, 0, none⟩))).run Try.prog w = .ok () w' ∧ Turns w w' [Q] ∧ SmAt w' Mb Sb Q Db (fun m => if m = n then Zb else P m) (fun m => if m = n then bb else pb m) (Zb :: bb :: T) F (S.add n x) sh := by
  obtain ⟨⟨k1, k2, k3, k4, k5, k6⟩, kp⟩ := h.kinds
  obtain ⟨cs, d1, d2, d3⟩ := h.dir
  obtain ⟨f, m1, m2⟩ := h.map
  obtain ⟨Ts, s1, s2, s3⟩ := h.shelf.trim
  have hf : f (nk n) = none := by
    cases hf : f (nk n) with
    | none => rfl
    | some v =>
      obtain ⟨m, y, g1, g2, _⟩ := (m2 _ _).1 hf
      rw [← nk_inj g2, hx] at g1; cases g1
  obtain ⟨w', hrun, hm, hg⟩ := m1.update (val := .pointer (some ⟨Zb, 0, none⟩)) intKeyed parts_under (parts_key hn6)
  have ht : Turns w w' [Q] := Turns.of_grown hg
  rw [hf] at hm
  have hQ : ∀ ty cs, ¬ Row w Q ty cs := fun ty cs hr => by
    obtain ⟨es, clock, m3, _⟩ := m1
    unfold Row at hr; rw [hr] at m3; cases m3
  have hne : ∀ {g : Nat} {ty : TypeId} {cs : Array Value}, Row w g ty cs → g ∉ [Q] := fun {g ty cs} hr hk => hQ ty cs (by rw [← List.mem_singleton.1 hk]; exact hr)
  have hZl : Zb < w.heap.size := by obtain ⟨cap, r, _⟩ := hp.row; exact r.lt
  have hbl : bb < w.heap.size := by obtain ⟨cs, r, _⟩ := hp.bytes; exact r.lt
  have hT : ∀ k ∈ T, k ∈ Zb :: bb :: T := fun k hk => List.mem_cons_of_mem _ (List.mem_cons_of_mem _ hk)
  refine ⟨w', hrun, ht, ht.row h.row (hne h.row), ⟨cs, ht.row d1 (hne d1), d2, d3⟩, ⟨_, hm, fun key v => ?_⟩, fun m y hy => ?_, fun a b hab ha hb => ?_, (s2.keep ht (fun k hk => ?_)).mono (fun k hk => hT k (s1 k hk)) (fun k hk => hk), ⟨hT _ h.mem.1, hT _ h.mem.2.1, hT _ h.mem.2.2⟩, fun k hk hm => ?_, fun k hk => ?_, h.sh⟩
  · by_cases e : key = nk n
    · subst e
      rw [updK_same]
      constructor
      · intro h; injection h with h
        exact ⟨n, x, by simp only [Sm.add, updP_same], rfl, by rw [if_pos rfl]; exact h.symm⟩
      · rintro ⟨m, y, g1, g2, g3⟩
        rw [← nk_inj g2] at g3
        rw [g3, if_pos rfl]
    · rw [updK_ne _ _ _ e, m2]
      constructor
      · rintro ⟨m, y, g1, g2, g3⟩
        have hmn : m ≠ n := fun e2 => e (by rw [g2, e2])
        refine ⟨m, y, ?_, g2, by rw [if_neg hmn]; exact g3⟩
        simp only [Sm.add]
        rw [updP_ne hmn]; exact g1
      · rintro ⟨m, y, g1, g2, g3⟩
        have hmn : m ≠ n := fun e2 => e (by rw [g2, e2])
        simp only [Sm.add] at g1
        rw [updP_ne hmn] at g1
        rw [if_neg hmn] at g3
        exact ⟨m, y, g1, g2, g3⟩
  · simp only [Sm.add] at hy
    by_cases e : m = n
    · subst e
      rw [updP_same] at hy; injection hy with hy; subst hy
      rw [if_pos rfl, if_pos rfl]
      obtain ⟨cap, pr, _⟩ := hp.row
      obtain ⟨bs, br, _⟩ := hp.bytes
      exact ⟨hn, hp.keep ht (hne pr) (hne br), by simp, by simp⟩
    · rw [updP_ne e] at hy
      rw [if_neg e, if_neg e]
      obtain ⟨a, b, c, d⟩ := h.part m y hy
      obtain ⟨cap, pr, _⟩ := b.row
      obtain ⟨bs, br, _⟩ := b.bytes
      exact ⟨a, b.keep ht (hne pr) (hne br), hT _ c, hT _ d⟩
  · have hs : ∀ m, m ≠ n → (updP S.parts n (some x) m).isSome = true → (S.parts m).isSome = true := fun m e hm => by
      rw [updP_ne e] at hm; exact hm
    have hold : ∀ m, m ≠ n → (updP S.parts n (some x) m).isSome = true → P m ∈ T ∧ pb m ∈ T := fun m e hm => by
      obtain ⟨y, hy⟩ := Option.isSome_iff_exists.1 (hs m e hm)
      exact (h.part m y hy).2.2
    by_cases ea : a = n
    · have eb : b ≠ n := fun e => hab (ea.trans e.symm)
      have := hold b eb hb
      simp only [if_pos ea, if_neg eb]
      exact ⟨fun e => h1.1 (by rw [e]; exact this.1), fun e => h2.1 (by rw [e]; exact this.2)⟩
    · by_cases eb : b = n
      · have := hold a ea ha
        simp only [if_neg ea, if_pos eb]
        exact ⟨fun e => h1.1 (by rw [← e]; exact this.1), fun e => h2.1 (by rw [← e]; exact this.2)⟩
      · simp only [if_neg ea, if_neg eb]
        exact h.inj a b hab (hs a ea ha) (hs b eb hb)
  · rw [List.mem_singleton.1 hk]
    refine ⟨fun hm => ?_, fun hm => h.apart _ hm h.mem.2.1⟩
    obtain ⟨ty, cs, hr, _⟩ := s3 Q hm
    exact hQ ty cs hr
  · simp only [List.mem_cons] at hm
    rcases hm with rfl | rfl | hm
    · exact h1.2 hk
    · exact h2.2 hk
    · exact h.apart k hk hm
  · refine Nat.lt_of_lt_of_le ?_ ht.size
    rcases hk with hk | hk
    · simp only [List.mem_cons] at hk
      rcases hk with rfl | rfl | hk
      · exact hZl
      · exact hbl
      · exact h.lt k (.inl hk)
    · exact h.lt k (.inr hk)
/-- What read hands back, as a part's bytes. -/
theorem own_bytes {B bb c page : Nat} {b : List Nat} (ho : w.ownsRow B 5 1 (.slice (some ⟨bb, 0, none⟩) page c) page (intsV .u8 b)) : ∃ cs : Array Value, Row w bb 5 cs ∧ page ≤ cs.size ∧ (∀ i, i < page → cs[i]? = some (.int .u8 (b.getD i 0))) ∧ b.length = page ∧ page ≤ c ∧ B ≤ bb := by
  obtain ⟨hB, cur, hr, h1, h2, h3, h4⟩ := own_row ho
  have hl : b.length = page := by have := ho.1; rw [intsV_length] at this; omega
  refine ⟨cur, hr, by omega, fun i hi => ?_, hl, h2, hB⟩
  have h5 := intsV_get .u8 b i (by omega)
  rw [← h4, List.getElem?_take, if_pos (by omega)] at h5
  simpa using h5
end
end Go.Proofs.Ytfipmpajdkgffaa

namespace Go.Proofs.Ytfipmpajdkgffaa
open Go.RowKit Go.MapKept Go.ChangeMaps
attribute [local go_sem] Oper.semAt_some
attribute [local simp, local go_sem] wide_fn
set_option linter.unusedVariables false
set_option linter.unusedSimpArgs false

def nextC (c : Int) : Int := wrap64 (c + 1)
set_option maxRecDepth 100000 in
set_option maxHeartbeats 2000000 in
theorem part_hit (w : World) (Mb Sb Q Db : Nat) (P pb : Nat → Nat) (T F : List Nat) (S : Sm) (sh : Sh) (h : SmAt w Mb Sb Q Db P pb T F S sh) (n : Nat) (hn : n < S.np) (x : Pt) (hx : S.parts n = some x) :
    Calls Try.prog 38 #[.pointer (some ⟨Mb, 0, none⟩), .int .i64 n] w fun e w' => e = .returned (.tuple #[.pointer (some ⟨P n, 0, none⟩), .int .i64 0]) ∧ SmAt w' Mb Sb Q Db P pb T F ((S.tick (nextC S.clock)).part1 n { x with u := nextC S.clock }) sh ∧ Turns w w' [Mb, P n] := by
  have hn6 : n < 9223372036854775808 := by have := h.sh; unfold Sm.np at hn; have := Nat.div_le_self (S.sectors - 1) S.each; omega
  have c6 := h.row.cell 6
  have c4 := h.row.cell 4
  have f6 := h.row.frozen 6
  simp only [List.getElem?_toArray, List.getElem?_cons_zero, List.getElem?_cons_succ] at c6 c4
  obtain ⟨ck, hck⟩ : ∃ ck, ck = S.clock := ⟨_, rfl⟩
  rw [← hck] at c6 ⊢
  have HCk := Lib.hid hck
  clear hck
  obtain ⟨nc, hnc⟩ : ∃ nc, nc = nextC ck := ⟨_, rfl⟩
  rw [← hnc]
  have hNc : wrap64 (ck + 1) = nc := hnc.symm
  clear hnc
  have HA1 := Lib.hid (h.tick nc)
  have HT1 : Hid (Turns w (w.setCell ⟨Mb, 6, none⟩ (.int .i64 nc)) [Mb]) := (Turns.refl w [Mb]).setCell (by simp) _
  have hlk := HA1.out.look n hn6
  rw [show (S.tick nc).parts = S.parts from rfl, hx] at hlk
  simp only [ptOf] at hlk
  obtain ⟨_, hp0, _, _⟩ := h.part n x hx
  obtain ⟨_, hp, hPT, _⟩ := HA1.out.part n x hx
  obtain ⟨cap, hr, hcap⟩ := hp.row
  obtain ⟨cap0, hr0, _⟩ := hp0.row
  have HA2 : Hid (SmAt ((w.setCell ⟨Mb, 6, none⟩ (.int .i64 nc)).setCell ⟨P n, 2, none⟩ (.int .i64 nc)) Mb Sb Q Db P pb T F ((S.tick nc).part1 n { x with u := nc }) sh) :=
    HA1.out.partRow n x { x with u := nc } hx rfl ((Turns.refl _ [P n]).setCell (p := ⟨P n, 2, none⟩) (by simp) _) ⟨cap, by simpa using hr.put 2 (.int .i64 nc), hcap⟩
  have HT2 : Hid (Turns w ((w.setCell ⟨Mb, 6, none⟩ (.int .i64 nc)).setCell ⟨P n, 2, none⟩ (.int .i64 nc)) [Mb, P n]) := (HT1.out.mono (by simp)).setCell (by simp) _
  have q2 := hr0.cell 2
  have f2 := hr0.frozen 2
  simp only [List.getElem?_toArray, List.getElem?_cons_zero, List.getElem?_cons_succ] at q2
  have hPM : P n ≠ Mb := ((h.kinds).2 n x hx).1.1
  have hMP : Mb ≠ P n := Ne.symm hPM
  clear h hx hp hr hp0 hr0
  go_enter Try.func38, Try.ntmps38
  go_wp2
  go_ret2
  exact ⟨rfl, HA2.out, HT2.out⟩
theorem len_map {w : World} {Mb Sb Q Db : Nat} {P pb : Nat → Nat} {T F : List Nat} {S : Sm} {sh : Sh} (h : SmAt w Mb Sb Q Db P pb T F S sh) (ty : TypeId) : (Builtin.len_ #[63] ty #[.map (some Q)]).run Try.prog w = .ok (.int .i64 S.cnt) w := by
  obtain ⟨f, m1, m2⟩ := h.map
  exact m1.len parts_under
theorem SmAt.drewN {w : World} {Mb Sb Q Db : Nat} {P pb : Nat → Nat} {T F : List Nat} {S : Sm} {sh : Sh} (h : SmAt w Mb Sb Q Db P pb T F S sh) (k : Nat) : SmAt (w.drewN k) Mb Sb Q Db P pb T F S sh := h.keep ((Turns.refl w []).drewN k) (by simp)
/-- read, from part: what it answers. -/
theorem read_no (w : World) (Mb Sb Q Db : Nat) (P pb : Nat → Nat) (T F : List Nat) (S : Sm) (sh : Sh) (h : SmAt w Mb Sb Q Db P pb T F S sh) (n : Nat) (hn : n < S.np) (hl : sh.L.length ≤ 1048576) (hdl : ∀ d ∈ sh.L, d.length ≤ 65536) (hr : readR S sh n = none) :
    Calls Try.prog 46 #[.pointer (some ⟨Mb, 0, none⟩), .int .i64 n] w fun e w' => e = .returned (.tuple #[.slice none 0 0, .int .i64 8]) ∧ Below w.heap.size w w' :=
  (read_any w Mb Sb Q Db P pb T F S sh h n hn hl hdl).mono (fun e w' ⟨hb, h1⟩ => by rw [hr] at h1; exact ⟨h1, hb⟩)
theorem read_yes (w : World) (Mb Sb Q Db : Nat) (P pb : Nat → Nat) (T F : List Nat) (S : Sm) (sh : Sh) (h : SmAt w Mb Sb Q Db P pb T F S sh) (n : Nat) (hn : n < S.np) (hl : sh.L.length ≤ 1048576) (hdl : ∀ d ∈ sh.L, d.length ≤ 65536) (b : List Nat) (hr : readR S sh n = some b) :
    Calls Try.prog 46 #[.pointer (some ⟨Mb, 0, none⟩), .int .i64 n] w fun e w' => ∃ bb c, e = .returned (.tuple #[.slice (some ⟨bb, 0, none⟩) S.page c, .int .i64 0]) ∧ w'.ownsRow w.heap.size 5 1 (.slice (some ⟨bb, 0, none⟩) S.page c) S.page (intsV .u8 b) ∧ Below w.heap.size w w' :=
  (read_any w Mb Sb Q Db P pb T F S sh h n hn hl hdl).mono (fun e w' ⟨hb, h1⟩ => by
    rw [hr] at h1
    obtain ⟨A, c, rfl, ho⟩ := h1
    rcases ho.2 with ⟨e1, e2⟩ | ⟨g, cap, cur, e1, _⟩
    · have := h.sh; omega
    · injection e1 with e1; subst e1
      exact ⟨g, c, rfl, ho, hb⟩)
theorem readR_small {w : World} {Mb Sb Q Db : Nat} {P pb : Nat → Nat} {T F : List Nat} {S : Sm} {sh : Sh} (h : SmAt w Mb Sb Q Db P pb T F S sh) {n : Nat} {b : List Nat} (hr : readR S sh n = some b) : ∀ u ∈ b, u < 256 := by
  unfold readR at hr
  split at hr
  · injection hr with hr; subst hr
    intro u hu; rw [(List.mem_replicate.1 hu).2]; decide
  · split at hr
    · cases hr
    · rename_i d hd
      split at hr
      · injection hr with hr; subst hr; exact h.shelf.small d (List.mem_of_getElem? hd)
      · cases hr
set_option maxRecDepth 100000 in
set_option maxHeartbeats 2000000 in
theorem part_bad (w : World) (Mb Sb Q Db : Nat) (P pb : Nat → Nat) (T F : List Nat) (S : Sm) (sh : Sh) (h : SmAt w Mb Sb Q Db P pb T F S sh) (n : Nat) (hn : n < S.np) (hl : sh.L.length ≤ 1048576) (hdl : ∀ d ∈ sh.L, d.length ≤ 65536) (hx : S.parts n = none) (hrd : readR S sh n = none) :
    Calls Try.prog 38 #[.pointer (some ⟨Mb, 0, none⟩), .int .i64 n] w fun e w' => e = .returned (.tuple #[.pointer none, .int .i64 8]) ∧ SmAt w' Mb Sb Q Db P pb T F (S.tick (nextC S.clock)) sh ∧ Turns w w' [Mb] := by
  have hn6 : n < 9223372036854775808 := by have := h.sh; unfold Sm.np at hn; have := Nat.div_le_self (S.sectors - 1) S.each; omega
  have c6 := h.row.cell 6
  have c4 := h.row.cell 4
  have f6 := h.row.frozen 6
  simp only [List.getElem?_toArray, List.getElem?_cons_zero, List.getElem?_cons_succ] at c6 c4
  obtain ⟨ck, hck⟩ : ∃ ck, ck = S.clock := ⟨_, rfl⟩
  rw [← hck] at c6 ⊢
  have HCk := Lib.hid hck
  clear hck
  obtain ⟨nc, hnc⟩ : ∃ nc, nc = nextC ck := ⟨_, rfl⟩
  rw [← hnc]
  have hNc : wrap64 (ck + 1) = nc := hnc.symm
  clear hnc
  have HA1 := Lib.hid (h.tick nc)
  have HT1 : Hid (Turns w (w.setCell ⟨Mb, 6, none⟩ (.int .i64 nc)) [Mb]) := (Turns.refl w [Mb]).setCell (by simp) _
  have hlk := HA1.out.look n hn6
  rw [show (S.tick nc).parts = S.parts from rfl, hx] at hlk
  simp only [ptOf] at hlk
  have HRd := Lib.hid (read_no _ Mb Sb Q Db P pb T F (S.tick nc) sh HA1.out n hn hl hdl hrd)
  clear h hx hrd
  go_enter Try.func38, Try.ntmps38
  go_wp2_with fail
  refine HRd.out.mono ?_
  rintro e w2 ⟨rfl, hb⟩
  have HB2 := Lib.hid hb
  clear hb HRd hlk
  go_wp2
  go_ret2
  exact ⟨rfl, HA1.out.below HB2.out, HT1.out.then_below HB2.out⟩
/-- A part's row is made, and stored. -/
theorem add_walk {W : World} {Mb Sb Q Db : Nat} {P pb : Nat → Nat} {T F : List Nat} {S : Sm} {sh : Sh} (h : SmAt W Mb Sb Q Db P pb T F S sh) {n : Nat} (hx : S.parts n = none) (hn : n < S.np) (hn6 : n < 9223372036854775808) {bb c B : Nat} {b : List Nat} {nc : Int} (ho : W.ownsRow B 5 1 (.slice (some ⟨bb, 0, none⟩) S.page c) S.page (intsV .u8 b)) (hs : ∀ u ∈ b, u < 256) (hbb : bb ∉ T ∧ bb ∉ F) (nq : Nat) :
    ((W.drewN nq).alloc (.cells #[.slice (some ⟨bb, 0, none⟩) S.page c, .bool false, .int .i64 nc] 75)).cell? ⟨Mb, 4, none⟩ = some (.map (some Q)) ∧ ∃ w5, (Instr.mapUpdate 63 (.map (some Q)) (.int .i64 n) (.pointer (some ⟨W.heap.size, 0, none⟩))).run Try.prog ((W.drewN nq).alloc (.cells #[.slice (some ⟨bb, 0, none⟩) S.page c, .bool false, .int .i64 nc] 75)) = .ok () w5 ∧
      SmAt w5 Mb Sb Q Db (fun m => if m = n then W.heap.size else P m) (fun m => if m = n then bb else pb m) (W.heap.size :: bb :: T) F (S.add n ⟨b, false, nc⟩) sh ∧ Turns W w5 [Q] := by
  have HB4 : Below W.heap.size W ((W.drewN nq).alloc (.cells #[.slice (some ⟨bb, 0, none⟩) S.page c, .bool false, .int .i64 nc] 75)) := (below_drewN0 (Below.refl _ _) nq).alloc (Nat.le_refl _) _
  have HA4 := h.below HB4
  have HZ4 : Row ((W.drewN nq).alloc (.cells #[.slice (some ⟨bb, 0, none⟩) S.page c, .bool false, .int .i64 nc] 75)) W.heap.size 75 #[.slice (some ⟨bb, 0, none⟩) S.page c, .bool false, .int .i64 nc] := Row.fresh (W.drewN nq) _ _
  obtain ⟨cs, b1, b2, b3, b4, b5, b6⟩ := own_bytes ho
  have HP4 : PtAt ((W.drewN nq).alloc (.cells #[.slice (some ⟨bb, 0, none⟩) S.page c, .bool false, .int .i64 nc] 75)) W.heap.size bb S.page ⟨b, false, nc⟩ := ⟨⟨c, HZ4, b5⟩, ⟨cs, b1.below HB4 b1.lt, b2, b3⟩, b4, hs⟩
  obtain ⟨w5, hrun, ht, ha⟩ := HA4.store n ⟨b, false, nc⟩ W.heap.size bb hx hn hn6 HP4 ⟨fun hm => by have := h.lt _ (.inl hm); omega, fun hm => by have := h.lt _ (.inr hm); omega⟩ hbb
  exact ⟨HA4.qcell, w5, hrun, ha, (Turns.of_below HB4 _).trans ht (fun k hk => .inl hk)⟩
set_option maxRecDepth 100000 in
set_option maxHeartbeats 2000000 in
theorem part_room (w : World) (Mb Sb Q Db : Nat) (P pb : Nat → Nat) (T F : List Nat) (S : Sm) (sh : Sh) (h : SmAt w Mb Sb Q Db P pb T F S sh) (n : Nat) (hn : n < S.np) (hl : sh.L.length ≤ 1048576) (hdl : ∀ d ∈ sh.L, d.length ≤ 65536) (hx : S.parts n = none) (b : List Nat) (hrd : readR S sh n = some b) (hc : S.cnt < S.held) (hcl : S.cnt ≤ 4611686018427387904) :
    Calls Try.prog 38 #[.pointer (some ⟨Mb, 0, none⟩), .int .i64 n] w fun e w' => ∃ Zb bb, w.heap.size ≤ Zb ∧ w.heap.size ≤ bb ∧ e = .returned (.tuple #[.pointer (some ⟨Zb, 0, none⟩), .int .i64 0]) ∧ SmAt w' Mb Sb Q Db (fun m => if m = n then Zb else P m) (fun m => if m = n then bb else pb m) (Zb :: bb :: T) F ((S.tick (nextC S.clock)).add n ⟨b, false, nextC S.clock⟩) sh ∧ Turns w w' [Mb, Q] := by
  have hn6 : n < 9223372036854775808 := by have := h.sh; unfold Sm.np at hn; have := Nat.div_le_self (S.sectors - 1) S.each; omega
  have c6 := h.row.cell 6
  have c4 := h.row.cell 4
  have f6 := h.row.frozen 6
  simp only [List.getElem?_toArray, List.getElem?_cons_zero, List.getElem?_cons_succ] at c6 c4
  obtain ⟨ck, hck⟩ : ∃ ck, ck = S.clock := ⟨_, rfl⟩
  rw [← hck] at c6 ⊢
  have HCk := Lib.hid hck
  clear hck
  obtain ⟨nc, hnc⟩ : ∃ nc, nc = nextC ck := ⟨_, rfl⟩
  rw [← hnc]
  have hNc : wrap64 (ck + 1) = nc := hnc.symm
  clear hnc
  have HA1 := Lib.hid (h.tick nc)
  have HT1 : Hid (Turns w (w.setCell ⟨Mb, 6, none⟩ (.int .i64 nc)) [Mb]) := (Turns.refl w [Mb]).setCell (by simp) _
  have hlk := HA1.out.look n hn6
  rw [show (S.tick nc).parts = S.parts from rfl, hx] at hlk
  simp only [ptOf] at hlk
  have HSm := Lib.hid (readR_small h hrd)
  have HOk := Lib.hid (readR_okB hrd h.sh.2.2.1.2.2)
  have HRd := Lib.hid (read_yes _ Mb Sb Q Db P pb T F (S.tick nc) sh HA1.out n hn hl hdl b hrd)
  have HSz : Hid ((w.setCell ⟨Mb, 6, none⟩ (.int .i64 nc)).heap.size = w.heap.size) := by unfold Hid; simp
  obtain ⟨cn, hcn⟩ : ∃ cn, cn = S.cnt := ⟨_, rfl⟩
  obtain ⟨hd, hhd⟩ : ∃ hd, hd = S.held := ⟨_, rfl⟩
  rw [← hcn, ← hhd] at hc
  rw [← hcn] at hcl
  have HCn := Lib.hid hcn
  have HHd := Lib.hid hhd
  obtain ⟨pg, hp⟩ : ∃ pg, pg = S.page := ⟨_, rfl⟩
  have HPg := Lib.hid hp
  rw [show (S.tick nc).page = S.page from rfl, ← hp] at HRd
  have HX := Lib.hid hx
  have HHeld := Lib.hid h.sh.2.2.2.2
  rw [← hhd] at HHeld
  have hheld := HHeld.out
  have hcn6 : cn ≤ 4611686018427387904 := hcl
  have HHw := Lib.hid h
  clear h hx hrd hcn hhd hp hcl
  go_enter Try.func38, Try.ntmps38
  go_wp2_with fail
  refine HRd.out.mono ?_
  rintro e w2 ⟨bb, c, rfl, hown, hb⟩
  have HB2 := Lib.hid hb
  have HO2 := Lib.hid hown
  rw [HPg.out] at HO2
  have HA2 := Lib.hid (HA1.out.below hb)
  have c24 := HA2.out.row.cell 4
  have c22 := HA2.out.row.cell 2
  have c26 := HA2.out.row.cell 6
  simp only [List.getElem?_toArray, List.getElem?_cons_zero, List.getElem?_cons_succ, Sm.tick] at c22 c24 c26
  rw [← HHd.out] at c22
  have hlen : ∀ k ty, (Builtin.len_ #[63] ty #[.map (some Q)]).run Try.prog (w2.drewN k) = .ok (.int .i64 cn) (w2.drewN k) := fun k ty => by
    have := len_map (HA2.out.drewN k) ty
    rw [HCn.out]; exact this
  clear hown hb HRd hlk
  go_wp2
  go_quiet (fail)
  have HX2 : Hid ((S.tick nc).parts n = none) := HX.out
  have HBb : Hid (bb ∉ T ∧ bb ∉ F) := by
    have h1 := (own_bytes HO2.out).choose_spec.2.2.2.2.2
    rw [HSz.out] at h1
    exact ⟨fun hm => by have := HHw.out.lt _ (.inl hm); omega, fun hm => by have := HHw.out.lt _ (.inr hm); omega⟩
  obtain ⟨c44, w5, hup, ha5, ht5⟩ := add_walk (nc := nc) HA2.out HX2.out hn hn6 HO2.out HSm.out HBb.out nq
  rw [show (S.tick nc).page = S.page from rfl, ← HPg.out] at c44 hup
  have HA5 := Lib.hid ha5
  have HT5 := Lib.hid ht5
  clear ha5 ht5
  go_wp2
  go_ret2
  refine ⟨w2.heap.size, bb, by rw [← HSz.out]; exact HB2.out.size, by rw [← HSz.out]; exact (own_bytes HO2.out).choose_spec.2.2.2.2.2, rfl, HA5.out, ?_⟩
  exact ((HT1.out.mono (by simp)).then_below HB2.out).trans (HT5.out.mono (S' := [Mb, Q]) (by simp)) (by simp)
end Go.Proofs.Ytfipmpajdkgffaa

namespace Go.Proofs.Ytfipmpajdkgffaa
open Go.RowKit Go.MapKept Go.ChangeMaps
attribute [local go_sem] Oper.semAt_some
attribute [local simp, local go_sem] wide_fn
set_option linter.unusedVariables false
set_option linter.unusedSimpArgs false

/-- Save, where it does not fail. -/
def SaveR (S : Sm) (sh : Sh) (n : Nat) (S' : Sm) (sh' : Sh) : Prop := (∃ x, S.parts n = some x ∧ x.d = true ∧ sh.full ≠ 0 ∧ S' = S.saved n (sh.L.length + 1) x ∧ sh' = sh.put n x.b) ∨ ((∀ x, S.parts n = some x → x.d = false) ∧ S' = S ∧ sh' = sh)
/-- A map whose rows stay where they are, has gone on. -/
def AtTo (w w' : World) (Mb Sb Q Db : Nat) (P pb : Nat → Nat) (T F : List Nat) (S : Sm) (sh : Sh) : Prop := ∃ T' F', SmAt w' Mb Sb Q Db P pb T' F' S sh ∧ Turns w w' T ∧ (∀ k ∈ T', k ∈ T ∨ w.heap.size ≤ k) ∧ (∀ k ∈ F', k ∈ F ∨ w.heap.size ≤ k)
def SaveP (w : World) (Mb Sb Q Db : Nat) (P pb : Nat → Nat) (T F : List Nat) (S : Sm) (sh : Sh) (n : Nat) (e : Ending) (w' : World) : Prop := (e = .returned (.int .i64 0) ∧ ∃ S' sh', SaveR S sh n S' sh' ∧ AtTo w w' Mb Sb Q Db P pb T F S' sh') ∨ (e = .returned (.int .i64 3) ∧ sh.full = 0 ∧ Below w.heap.size w w')
theorem Save_any (w : World) (Mb Sb Q Db : Nat) (P pb : Nat → Nat) (T F : List Nat) (S : Sm) (sh : Sh) (h : SmAt w Mb Sb Q Db P pb T F S sh) (n : Nat) (hn : n < 9223372036854775808) (hl : sh.L.length ≤ 262143) (hfull : -1 ≤ sh.full ∧ sh.full ≤ 1048576) :
    Calls Try.prog 31 #[.pointer (some ⟨Mb, 0, none⟩), .int .i64 n] w (SaveP w Mb Sb Q Db P pb T F S sh n) := by
  by_cases hs : ∀ x, S.parts n = some x → x.d = false
  · exact (Save_skip w Mb Sb Q Db P pb T F S sh h n hn hs).mono (fun e w' ⟨he, hb⟩ => .inl ⟨he, S, sh, .inr ⟨hs, rfl, rfl⟩, T, F, h.below hb, Turns.of_below hb T, fun k hk => .inl hk, fun k hk => .inl hk⟩)
  · obtain ⟨x, hx, hd⟩ : ∃ x, S.parts n = some x ∧ x.d = true := by
      cases hx : S.parts n with
      | none => exact absurd (fun x h => by rw [hx] at h; cases h) hs
      | some x =>
        cases hd : x.d with
        | true => exact ⟨x, rfl, hd⟩
        | false => exact absurd (fun y h => by rw [hx] at h; injection h with h; rw [← h]; exact hd) hs
    by_cases hf : sh.full = 0
    · exact (Save_full w Mb Sb Q Db P pb T F S sh h n hn x hx hd hf).mono (fun e w' ⟨he, hb⟩ => .inr ⟨he, hf, hb⟩)
    · exact (Save_room w Mb Sb Q Db P pb T F S sh h n x hx hd (by omega) ⟨hfull.1, hfull.2, hf⟩).mono (fun e w' ⟨he, T', F', h1, h2, h3, h4⟩ => .inl ⟨he, _, _, .inl ⟨x, hx, hd, hf, rfl, rfl⟩, T', F', h1, h2, h3, h4⟩)
theorem goes_save {S S' : Sm} {sh sh' : Sh} {n : Nat} (h : Wl S sh) (hs : SaveR S sh n S' sh') : Goes 1 0 S sh S' sh' ∧ (∀ x, S'.parts n = some x → x.d = false) ∧ ∀ m x, S.parts m = some x → ∃ d, S'.parts m = some { x with d := d } ∧ (d = true → x.d = true) := by
  rcases hs with ⟨x, hx, hd, hf, rfl, rfl⟩ | ⟨h1, rfl, rfl⟩
  · refine ⟨goes_saved h hx hf, fun y hy => ?_, fun m y hy => ?_⟩
    · rw [saved_parts, updP_same] at hy; injection hy with hy; rw [← hy]
    · by_cases e : m = n
      · subst e; rw [hx] at hy; injection hy with hy; subst hy
        exact ⟨false, by rw [saved_parts, updP_same], by simp⟩
      · exact ⟨y.d, by rw [saved_parts, updP_ne e]; exact hy, fun h => h⟩
  · exact ⟨(Goes.refl h).mono (by omega) (by omega), h1, fun m x hx => ⟨x.d, hx, fun h => h⟩⟩
/-- The lookup of a part. -/
theorem SmAt.looks {w : World} {Mb Sb Q Db : Nat} {P pb : Nat → Nat} {T F : List Nat} {S : Sm} {sh : Sh} (h : SmAt w Mb Sb Q Db P pb T F S sh) {o : Nat} {y : Pt} (hy : S.parts o = some y) (hn : o < 9223372036854775808) (k : Nat) :
    (Instr.lookup 63 (.map (some Q)) (.int .i64 o) false).run Try.prog (w.drewN k) = .ok (.pointer (some ⟨P o, 0, none⟩)) (w.drewN k) := by
  have := (h.drewN k).look o hn
  rw [hy] at this
  exact this
theorem SmAt.np_lt {w : World} {Mb Sb Q Db : Nat} {P pb : Nat → Nat} {T F : List Nat} {S : Sm} {sh : Sh} (h : SmAt w Mb Sb Q Db P pb T F S sh) {o : Nat} (ho : o < S.np) : o < 9223372036854775808 := by
  have := h.sh; unfold Sm.np at ho; have := Nat.div_le_self (S.sectors - 1) S.each; omega
theorem saveR_same {S S' : Sm} {sh sh' : Sh} {n : Nat} (h : SaveR S sh n S' sh') : S'.clock = S.clock ∧ S'.page = S.page ∧ S'.np = S.np ∧ ∀ m, S.parts m = none → S'.parts m = none := by
  rcases h with ⟨x, hx, hd, hf, rfl, rfl⟩ | ⟨h1, rfl, rfl⟩
  · refine ⟨rfl, rfl, rfl, fun m hm => ?_⟩
    rw [saved_parts, updP_ne (fun e => by rw [e, hx] at hm; cases hm)]; exact hm
  · exact ⟨rfl, rfl, rfl, fun m hm => hm⟩
def Olds (S : Sm) (cnt : Nat) (v : Value) : Prop := (v = .int .i64 (-1) ∧ cnt = S.cnt) ∨ ∃ o y, v = .int .i64 (o : Nat) ∧ S.parts o = some y
/-- A part that is brought into memory where another makes way. -/
def EvictP (w : World) (Mb Sb Q Db : Nat) (P pb : Nat → Nat) (T F : List Nat) (S : Sm) (sh : Sh) (n : Nat) (b : List Nat) (nc : Int) (e : Ending) (w' : World) : Prop :=
  (∃ Zb bb o y S2 sh2 T' F', e = .returned (.tuple #[.pointer (some ⟨Zb, 0, none⟩), .int .i64 0]) ∧ S.parts o = some y ∧ SaveR (S.tick (nc)) sh o S2 sh2 ∧ SmAt w' Mb Sb Q Db (fun m => if m = n then Zb else P m) (fun m => if m = n then bb else pb m) T' F' ((S2.drop o).add n ⟨b, false, nc⟩) sh2 ∧ Turns w w' T ∧ (∀ k ∈ T', k ∈ T ∨ w.heap.size ≤ k) ∧ (∀ k ∈ F', k ∈ F ∨ w.heap.size ≤ k)) ∨
  (e = .returned (.tuple #[.pointer none, .int .i64 3]) ∧ sh.full = 0 ∧ SmAt w' Mb Sb Q Db P pb T F (S.tick (nc)) sh ∧ Turns w w' T)
set_option maxRecDepth 100000 in
set_option maxHeartbeats 4000000 in
theorem part_evict (w : World) (Mb Sb Q Db : Nat) (P pb : Nat → Nat) (T F : List Nat) (S : Sm) (sh : Sh) (h : SmAt w Mb Sb Q Db P pb T F S sh) (n : Nat) (hn : n < S.np) (hl : sh.L.length ≤ 262143) (hfull : -1 ≤ sh.full ∧ sh.full ≤ 1048576) (hdl : ∀ d ∈ sh.L, d.length ≤ 65536) (hx : S.parts n = none) (b : List Nat) (hrd : readR S sh n = some b) (hc : S.held ≤ S.cnt) (hcl : S.cnt ≤ 4611686018427387904) (hwl : Wl S sh) :
    Calls Try.prog 38 #[.pointer (some ⟨Mb, 0, none⟩), .int .i64 n] w (EvictP w Mb Sb Q Db P pb T F S sh n b (nextC S.clock)) := by
  have H1c := Lib.hid (Nat.le_trans h.sh.2.2.2.1 hc)
  have HL := Lib.hid hl
  have HWl := fun c => Lib.hid (goes_tick hwl c).wl
  clear hwl
  have HFull := Lib.hid hfull
  clear hfull
  replace hl := Nat.le_trans hl (show 262143 ≤ 1048576 by omega)
  have hn6 : n < 9223372036854775808 := by have := h.sh; unfold Sm.np at hn; have := Nat.div_le_self (S.sectors - 1) S.each; omega
  have c6 := h.row.cell 6
  have c4 := h.row.cell 4
  have f6 := h.row.frozen 6
  simp only [List.getElem?_toArray, List.getElem?_cons_zero, List.getElem?_cons_succ] at c6 c4
  obtain ⟨ck, hck⟩ : ∃ ck, ck = S.clock := ⟨_, rfl⟩
  rw [← hck] at c6 ⊢
  have HCk := Lib.hid hck
  clear hck
  obtain ⟨nc, hnc⟩ : ∃ nc, nc = nextC ck := ⟨_, rfl⟩
  rw [← hnc]
  have hNc : wrap64 (ck + 1) = nc := hnc.symm
  clear hnc
  have HA1 := Lib.hid (h.tick nc)
  have HT1 : Hid (Turns w (w.setCell ⟨Mb, 6, none⟩ (.int .i64 nc)) [Mb]) := (Turns.refl w [Mb]).setCell (by simp) _
  have hlk := HA1.out.look n hn6
  rw [show (S.tick nc).parts = S.parts from rfl, hx] at hlk
  simp only [ptOf] at hlk
  have HSm := Lib.hid (readR_small h hrd)
  have HOk := Lib.hid (readR_okB hrd h.sh.2.2.1.2.2)
  have HRd := Lib.hid (read_yes _ Mb Sb Q Db P pb T F (S.tick nc) sh HA1.out n hn hl hdl b hrd)
  have HSz : Hid ((w.setCell ⟨Mb, 6, none⟩ (.int .i64 nc)).heap.size = w.heap.size) := by unfold Hid; simp
  obtain ⟨cn, hcn⟩ : ∃ cn, cn = S.cnt := ⟨_, rfl⟩
  obtain ⟨hd, hhd⟩ : ∃ hd, hd = S.held := ⟨_, rfl⟩
  rw [← hcn, ← hhd] at hc
  rw [← hcn] at hcl
  have HCn := Lib.hid hcn
  have HHd := Lib.hid hhd
  obtain ⟨pg, hp⟩ : ∃ pg, pg = S.page := ⟨_, rfl⟩
  have HPg := Lib.hid hp
  rw [show (S.tick nc).page = S.page from rfl, ← hp] at HRd
  have HX := Lib.hid hx
  have HHeld := Lib.hid h.sh.2.2.2.2
  rw [← hhd] at HHeld
  have hheld := HHeld.out
  have hcn6 : cn ≤ 4611686018427387904 := hcl
  have HHw := Lib.hid h
  clear h hx hrd hcn hhd hp hcl
  go_enter Try.func38, Try.ntmps38
  go_wp2_with fail
  refine HRd.out.mono ?_
  rintro e w2 ⟨bb, c, rfl, hown, hb⟩
  have HB2 := Lib.hid hb
  have HO2 := Lib.hid hown
  rw [HPg.out] at HO2
  have HA2 := Lib.hid (HA1.out.below hb)
  have c24 := HA2.out.row.cell 4
  have c22 := HA2.out.row.cell 2
  have c26 := HA2.out.row.cell 6
  simp only [List.getElem?_toArray, List.getElem?_cons_zero, List.getElem?_cons_succ, Sm.tick] at c22 c24 c26
  rw [← HHd.out] at c22
  have hlen : ∀ k ty, (Builtin.len_ #[63] ty #[.map (some Q)]).run Try.prog (w2.drewN k) = .ok (.int .i64 cn) (w2.drewN k) := fun k ty => by
    have := len_map (HA2.out.drewN k) ty
    rw [HCn.out]; exact this
  clear hown hb HRd hlk
  go_wp2
  go_quiet (fail)
  obtain ⟨f, hmap, hf⟩ := (HA2.out.drewN nq).map
  have HF := Lib.hid hf
  have HMap := Lib.hid hmap
  have HA3 := Lib.hid (HA2.out.drewN nq)
  have HB3 : Hid (Below (w.setCell ⟨Mb, 6, none⟩ (.int .i64 nc)).heap.size (w.setCell ⟨Mb, 6, none⟩ (.int .i64 nc)) (w2.drewN nq)) := below_drewN0 HB2.out nq
  have HO3 : Hid ((w2.drewN nq).ownsRow (w.setCell ⟨Mb, 6, none⟩ (.int .i64 nc)).heap.size 5 1 (.slice (some ⟨bb, 0, none⟩) S.page c) S.page (intsV .u8 b)) := HO2.out
  clear HA2 HO2 HB2 hmap hf c22 c24 c26 hlen
  rw [show (S.tick nc).cnt = S.cnt from rfl, ← HCn.out] at HMap
  obtain ⟨W0, hW0⟩ : ∃ W0, W0 = w2.drewN nq := ⟨_, rfl⟩
  rw [← hW0] at HMap HA3 HB3 HO3 ⊢
  clear hW0 w2
  have c4W := HA3.out.qcell
  go_wp2_with (at_range; refine wpList_range_map rfl _ 63 rfl 3 70 parts_under Q cn f rfl HMap.out ?_; intro w7 hit7 hb7)
  go_frame
  have HIt7 := Lib.hid hit7
  have HB7 := Lib.hid hb7
  clear hit7 hb7 c4W HMap
  obtain ⟨r, hr⟩ : ∃ r, r = W0.heap.size := ⟨_, rfl⟩
  have HR := Lib.hid hr
  rw [← hr] at HIt7 ⊢
  clear hr
  go_loopw [9] (fun v wr => ∃ cnt, IterIs Try.prog 3 wr Q r cn f cnt ∧ Below W0.heap.size W0 wr ∧ Olds S cnt v) (fun _ wr => wr.rangeLeft Q r)
  case atStart => exact ⟨_, HIt7.out, HB7.out, .inl ⟨rfl, HCn.out⟩⟩
  case round =>
    obtain ⟨cnt, hit, hb, hold⟩ := hrel
    have HIt := Lib.hid hit
    have HB := Lib.hid hb
    clear HIt7 HB7 hit hb
    rcases hold with ⟨rfl, hcnt⟩ | ⟨o, y, rfl, hy⟩
    · have HCnt := Lib.hid hcnt
      clear hcnt
      go_wp2_with (at_next; refine wpList_next_map rfl _ rfl 3 Q r cn f cnt rfl HIt.out ?_ ?_)
      · intro h0
        exfalso
        have := HCnt.out; have := H1c.out
        omega
      · intro key v w8 cnt8 hfk hit8 hlt8 hg8 hen
        obtain ⟨k, x, hkx, rfl, rfl⟩ := (HF.out key v).1 hfk
        have HKx : Hid (S.parts k = some x) := hkx
        have HB8 : Hid (Below W0.heap.size W0 w8) := HB.out.grown hg8 HB.out.size (fun q hq => by
          have : r = q := by injection hq
          have := HR.out
          omega)
        have HIt8 := Lib.hid hit8
        have hle : w8.rangeLeft Q r = cnt8 := hit8.left_eq
        have hlt : wr.rangeLeft Q r = cnt := HIt.out.left_eq
        have HM : Hid (w8.rangeLeft Q r < wr.rangeLeft Q r) := by unfold Hid; omega
        clear hfk hit8 hlt8 hg8 hkx hle hlt
        go_wp2
        go_quiet (fail)
        go_wp2
        go_roundw
        case rel => exact ⟨cnt8, HIt8.out, below_drewN0 HB8.out _, .inr ⟨k, x, rfl, HKx.out⟩⟩
        case measure => exact HM.out
    · have HY := Lib.hid hy
      have HoN := Lib.hid (HA3.out.np_lt (HA3.out.part o y hy).1)
      have hoN := HoN.out
      clear hy
      go_wp2_with (at_next; refine wpList_next_map rfl _ rfl 3 Q r cn f cnt rfl HIt.out ?_ ?_)
      · intro h0
        have HAr := Lib.hid (HA3.out.below HB.out)
        have HSv := Lib.hid (Save_any wr Mb Sb Q Db P pb T F (S.tick nc) sh HAr.out o HoN.out HL.out HFull.out)
        clear h0 HIt
        go_wp2_with fail
        refine HSv.out.mono ?_
        rintro e w9 (⟨rfl, S2, sh2, hs2, T', F', ha9, ht9, g9, f9⟩ | ⟨rfl, hf0, hb9⟩)
        · obtain ⟨d, hd, _⟩ := (goes_save (HWl nc).out hs2).2.2 o y HY.out
          obtain ⟨w10, hdel, ht10, ha10⟩ := ha9.delete o _ hd HoN.out
          have c49 := ha9.qcell
          have c410 := ha10.qcell
          have c610 := ha10.row.cell 6
          simp only [List.getElem?_toArray, List.getElem?_cons_zero, List.getElem?_cons_succ] at c610
          have HT9 : Hid (Turns w w9 T) := (((HT1.out.mono (S' := T) (by simp; exact HHw.out.mem.1)).then_below HB3.out).then_below HB.out).trans ht9 (fun k hk => .inl hk)
          have HT10 : Hid (Turns w w10 T) := HT9.out.trans ht10 (fun k hk => .inl (by rw [List.mem_singleton.1 hk]; exact HHw.out.mem.2.1))
          have hbb := (own_bytes HO3.out).choose_spec.2.2.2.2.2
          have hbl := (own_bytes HO3.out).choose_spec.1.lt
          rw [HSz.out] at hbb
          have hbT : bb ∉ T := fun hm => by have := HHw.out.lt _ (.inl hm); omega
          have hW := HB.out.size
          have HBb : Hid (bb ∉ T' ∧ bb ∉ F') := ⟨fun hm => (g9 _ hm).elim hbT (fun h => by omega), fun hm => (f9 _ hm).elim (fun h => by have := HHw.out.lt _ (.inr h); omega) (fun h => by omega)⟩
          have HO10 : Hid (w10.ownsRow (w.setCell ⟨Mb, 6, none⟩ (.int .i64 nc)).heap.size 5 1 (.slice (some ⟨bb, 0, none⟩) S.page c) S.page (intsV .u8 b)) := by
            have ho9 := ht9.own (own_below HO3.out HB.out) (fun g hg hk => by
              have : bb = g := by injection hg
              subst this; exact hbT hk)
            exact ht10.own ho9 (fun g hg hk => by
              have : bb = g := by injection hg
              subst this
              rw [List.mem_singleton.1 hk] at hbT
              exact hbT HHw.out.mem.2.1)
          obtain ⟨e1, e2, e3, e4⟩ := saveR_same hs2
          have HX2 : Hid ((S2.drop o).parts n = none) := by
            show updP S2.parts o none n = none
            by_cases e : n = o
            · rw [e, updP_same]
            · rw [updP_ne e]; exact e4 n HX.out
          have HN2 : Hid (n < (S2.drop o).np) := by unfold Hid; rw [show (S2.drop o).np = S2.np from rfl, e3]; exact hn
          have HO11 : Hid (w10.ownsRow (w.setCell ⟨Mb, 6, none⟩ (.int .i64 nc)).heap.size 5 1 (.slice (some ⟨bb, 0, none⟩) (S2.drop o).page c) (S2.drop o).page (intsV .u8 b)) := by rw [show (S2.drop o).page = S.page from e2]; exact HO10.out
          obtain ⟨c44, w5, hup, ha5, ht5⟩ := add_walk (nc := nc) ha10 HX2.out HN2.out hn6 HO11.out HSm.out HBb.out 0
          rw [show (S2.drop o).page = S.page from e2, ← HPg.out, show w10.drewN 0 = w10 from rfl] at c44 hup
          rw [show (S2.drop o).clock = nc from e1] at c610
          have HA5 := Lib.hid ha5
          have HT5 : Hid (Turns w w5 T) := HT10.out.trans ht5 (fun k hk => .inl (by rw [List.mem_singleton.1 hk]; exact HHw.out.mem.2.1))
          have HS2 := Lib.hid hs2
          have HG : Hid ((∀ k ∈ w10.heap.size :: bb :: T', k ∈ T ∨ w.heap.size ≤ k) ∧ ∀ k ∈ F', k ∈ F ∨ w.heap.size ≤ k) := by
            have hs0 := HSz.out
            have hs3 := HB3.out.size
            have hs10 := HT10.out.size
            refine ⟨fun k hk => ?_, fun k hk => (f9 k hk).imp (fun h => h) (fun h => by omega)⟩
            simp only [List.mem_cons] at hk
            rcases hk with rfl | rfl | hk
            · exact .inr hs10
            · exact .inr hbb
            · exact (g9 k hk).imp (fun h => h) (fun h => by omega)
          have HP := Lib.hid hd
          clear ha5 ht5 hs2 g9 f9 ha9 ht9 ha10 ht10 hbb hbl hbT hW e1 e2 e3 e4 hd
          go_wp2
          go_ret2
          exact .inl ⟨_, bb, o, y, S2, sh2, _, F', rfl, HY.out, HS2.out, HA5.out, HT5.out, HG.out.1, HG.out.2⟩
        · have HB9 := Lib.hid hb9
          have HF0 := Lib.hid hf0
          clear hb9 hf0
          go_wp2
          go_ret2
          exact .inr ⟨rfl, HF0.out, HAr.out.below HB9.out, (((HT1.out.mono (S' := T) (by simp; exact HHw.out.mem.1)).then_below HB3.out).then_below HB.out).then_below HB9.out⟩
      · intro key v w8 cnt8 hfk hit8 hlt8 hg8 hen
        obtain ⟨k, x, hkx, rfl, rfl⟩ := (HF.out key v).1 hfk
        have HKx : Hid (S.parts k = some x) := hkx
        have HB8 : Hid (Below W0.heap.size W0 w8) := HB.out.grown hg8 HB.out.size (fun q hq => by
          have : r = q := by injection hq
          have := HR.out
          omega)
        have HA8 := Lib.hid (HA3.out.below HB8.out)
        have HIt8 := Lib.hid hit8
        have hle : w8.rangeLeft Q r = cnt8 := hit8.left_eq
        have hlt : wr.rangeLeft Q r = cnt := HIt.out.left_eq
        have HM : Hid (w8.rangeLeft Q r < wr.rangeLeft Q r) := by unfold Hid; omega
        have c48 := HA8.out.qcell
        have hlk8 := HA8.out.looks HY.out hoN
        obtain ⟨_, ⟨⟨cap1, r1, _⟩, _, _, _⟩, _, _⟩ := HA8.out.part o y HY.out
        obtain ⟨_, ⟨⟨cap2, r2, _⟩, _, _, _⟩, _, _⟩ := HA8.out.part k x HKx.out
        have u1 := r1.cell 2
        have u2 := r2.cell 2
        simp only [List.getElem?_toArray, List.getElem?_cons_zero, List.getElem?_cons_succ] at u1 u2
        clear hfk hit8 hlt8 hg8 hkx hle hlt r1 r2
        generalize x.u = xu at *
        generalize y.u = yu at *
        go_wp2
        go_quiet (fail)
        go_wp2
        all_goals
          go_roundw
          case rel => exact ⟨cnt8, HIt8.out, below_drewN0 HB8.out _, by first | exact .inr ⟨k, x, rfl, HKx.out⟩ | exact .inr ⟨o, y, rfl, HY.out⟩⟩
          case measure => exact HM.out
end Go.Proofs.Ytfipmpajdkgffaa
