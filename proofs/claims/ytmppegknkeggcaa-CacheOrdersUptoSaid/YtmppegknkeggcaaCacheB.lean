/- vcache: twin, slices.Clone at bytes, at items; what a cache is in memory. -/
import Derived.Test.YtmppegknkeggcaaCache
namespace Go.Proofs.Ytmppegknkeggcaa
open Go.RowKit
set_option linter.unusedVariables false
set_option linter.unusedSimpArgs false

theorem reach_small {n : Nat} (h : n ≤ reachBytes) : n ≤ 140737488351232 := h
theorem u8_info : (Try.prog.info? 5).map (fun i => (i.zero, i.size, i.bytes)) = some (some (.int .u8 0), 1, 1) := by kernel_rfl
theorem item_info : (Try.prog.info? 61).map (fun i => (i.zero, i.size, i.bytes)) = some (some (.agg #[.int .i64 0, .int .i64 0, .slice none 0 0, .int .i64 0]), 4, 48) := by kernel_rfl
theorem write_info : (Try.prog.info? 32).map (fun i => (i.zero, i.size, i.bytes)) = some (some (.agg #[.int .i64 0, .int .i64 0, .slice none 0 0]), 3, 40) := by kernel_rfl

set_option maxHeartbeats 400000 in
theorem CloneB_any (A : Option Addr) (n c : Nat) (xs : List Value) (hlen : n ≤ reachBytes) (w : World) (hs : Src w 1 A n xs) (h1 : ∀ u ∈ xs, u.oneCell' = true) :
    Calls Try.prog 27 #[.slice A n c] w fun e w' => ∃ A' c', e = .returned (.slice A' n c') ∧ w'.ownsRow w.heap.size 5 1 (.slice A' n c') n xs ∧ Below w.heap.size w w' := by
  obtain ⟨i0, hi, hz0, hz1, hz2⟩ := info_parts u8_info
  have q22 : ∀ (w : World) (a : Option Addr) (n c n' c' : Nat), (binOp .eql 30 (.slice a n c) (.slice none n' c')).run Try.prog w = .ok (.bool a.isNone) w := fun w a n c n' c' => Lib.run_eql_slice_nil w _ _ a n c n' c' Try.underlying30
  cases A with
  | none =>
    have hn : n = 0 := by
      rcases Nat.eq_zero_or_pos n with h | h
      · exact h
      · obtain ⟨_, e, _⟩ := hs.lies h; cases e
    subst hn
    obtain rfl : xs = [] := List.eq_nil_of_length_eq_zero (by simpa using hs.len)
    clear hs h1
    go_enter Try.func27, Try.ntmps27
    go_wp2
    go_ret
    exact ⟨_, _, rfl, World.ownsRow_nil _ _ _ _, Below.refl _ _⟩
  | some ad =>
    have H1 := Lib.hid h1
    have HO := Lib.hid (World.ownsRow_made (base := w.heap.size) (size := 1) (e := 5) w #[] 0 (Nat.le_refl _) (Nat.zero_le _) rfl)
    have HS := Lib.hid (hs.keep (w' := w.alloc (.cells #[] 5)) (fun a v h => (World.cell?_alloc_lt _ _ _ (World.block_lt_of_cell? w a h)).trans h))
    have HB : Hid (Below w.heap.size w (w.alloc (.cells #[] 5))) := by unfold Hid; (repeat (first | (with_reducible refine Below.drew ?_) | (with_reducible refine below_drewN0 ?_ _) | ((with_reducible refine Below.setCell ?_ ?_ _); rotate_left; focus (first | omega | (simp; done) | (simp; omega) | (simp at *; omega))) | ((with_reducible refine Below.alloc ?_ ?_ _); rotate_left; focus (first | omega | (simp; done) | (simp; omega) | (simp at *; omega))) | (with_reducible exact Below.refl _ _)))
    have b1 : Hid (0 + n ≤ maxLen) := by have := reach_small hlen; unfold Hid maxLen; omega
    have b2 : Hid ((0 + n) * 1 ≤ 140737488355328) := by have := reach_small hlen; unfold Hid; omega
    clear hs h1
    go_enter Try.func27, Try.ntmps27
    go_wp2_with (at_builtin; refine wpList_append_src _ rfl _ _ 30 rfl w.heap.size 5 i0 (.int .u8 0) 1 1 Try.underlying30 hi hz0 hz1 hz2 rfl (by decide) _ 0 [] rfl HO.out (some ad) n c xs rfl HS.out H1.out b1.out b2.out (by simp) ?_; intro v' w1 hown hgrow hv)
    rw [Nat.zero_add, List.nil_append] at hown
    obtain ⟨A', c', rfl, _, _⟩ := own_shape hown
    have hown := Lib.hid hown
    go_wp2
    go_ret
    refine ⟨A', c', rfl, hown.out, HB.out.grown hgrow (by simp) ?_⟩
    intro k hk
    have : w.heap.size = k := by injection hk
    omega

set_option maxHeartbeats 400000 in
theorem CloneI_any (A : Option Addr) (n c : Nat) (xs : List Value) (hlen : n ≤ 100000) (w : World) (hs : Src w 4 A n xs) (h1 : ∀ u ∈ xs, u.oneCell' = true) :
    Calls Try.prog 24 #[.slice A n c] w fun e w' => ∃ A' c', e = .returned (.slice A' n c') ∧ w'.ownsRow w.heap.size 61 4 (.slice A' n c') n xs ∧ Below w.heap.size w w' := by
  obtain ⟨i0, hi, hz0, hz1, hz2⟩ := info_parts item_info
  have q22 : ∀ (w : World) (a : Option Addr) (n c n' c' : Nat), (binOp .eql 53 (.slice a n c) (.slice none n' c')).run Try.prog w = .ok (.bool a.isNone) w := fun w a n c n' c' => Lib.run_eql_slice_nil w _ _ a n c n' c' Try.underlying53
  cases A with
  | none =>
    have hn : n = 0 := by
      rcases Nat.eq_zero_or_pos n with h | h
      · exact h
      · obtain ⟨_, e, _⟩ := hs.lies h; cases e
    subst hn
    obtain rfl : xs = [] := List.eq_nil_of_length_eq_zero (by simpa using hs.len)
    clear hs h1
    go_enter Try.func24, Try.ntmps24
    go_wp2
    go_ret
    exact ⟨_, _, rfl, World.ownsRow_nil _ _ _ _, Below.refl _ _⟩
  | some ad =>
    have H1 := Lib.hid h1
    have HO := Lib.hid (World.ownsRow_made (base := w.heap.size) (size := 4) (e := 61) w #[] 0 (Nat.le_refl _) (Nat.zero_le _) rfl)
    have HS := Lib.hid (hs.keep (w' := w.alloc (.cells #[] 61)) (fun a v h => (World.cell?_alloc_lt _ _ _ (World.block_lt_of_cell? w a h)).trans h))
    have HB : Hid (Below w.heap.size w (w.alloc (.cells #[] 61))) := by unfold Hid; (repeat (first | (with_reducible refine Below.drew ?_) | (with_reducible refine below_drewN0 ?_ _) | ((with_reducible refine Below.setCell ?_ ?_ _); rotate_left; focus (first | omega | (simp; done) | (simp; omega) | (simp at *; omega))) | ((with_reducible refine Below.alloc ?_ ?_ _); rotate_left; focus (first | omega | (simp; done) | (simp; omega) | (simp at *; omega))) | (with_reducible exact Below.refl _ _)))
    have b1 : Hid (0 + n ≤ maxLen) := by unfold Hid maxLen; omega
    have b2 : Hid ((0 + n) * 48 ≤ 140737488355328) := by unfold Hid; omega
    clear hs h1
    go_enter Try.func24, Try.ntmps24
    go_wp2_with (at_builtin; refine wpList_append_src _ rfl _ _ 53 rfl w.heap.size 61 i0 (.agg #[.int .i64 0, .int .i64 0, .slice none 0 0, .int .i64 0]) 4 48 Try.underlying53 hi hz0 hz1 hz2 rfl (by decide) _ 0 [] rfl HO.out (some ad) n c xs rfl HS.out H1.out b1.out b2.out (by simp) ?_; intro v' w1 hown hgrow hv)
    rw [Nat.zero_add, List.nil_append] at hown
    obtain ⟨A', c', rfl, _, _⟩ := own_shape hown
    have hown := Lib.hid hown
    go_wp2
    go_ret
    refine ⟨A', c', rfl, hown.out, HB.out.grown hgrow (by simp) ?_⟩
    intro k hk
    have : w.heap.size = k := by injection hk
    omega

/-- A write in the cache, and the group that it is of. -/
structure It where
  a : Int
  s : Int
  A : Option Addr
  c : Nat
  l : List Nat
  g : Int
abbrev It.d (x : It) : Value := .slice x.A x.l.length x.c
abbrev It.cells (x : It) : List Value := [.int .i64 x.a, .int .i64 x.s, .slice x.A x.l.length x.c, .int .i64 x.g]
abbrev It.wr (x : It) : List Value := [.int .i64 x.a, .int .i64 x.s, .slice x.A x.l.length x.c]
def itsV (l : List It) : List Value := l.flatMap It.cells
def wrsV (l : List It) : List Value := l.flatMap It.wr
/-- A slice of the cache's own that holds these bytes. -/
structure DatIs (w : World) (B : Nat) (d : Value) (l : List Nat) : Prop where
  small : ∀ x ∈ l, x < 256
  short : l.length ≤ reachBytes
  own : w.ownsRow B 5 1 d l.length (intsV .u8 l)
theorem DatIs.shape {w : World} {B : Nat} {d : Value} {l : List Nat} (h : DatIs w B d l) : ∃ A c, d = .slice A l.length c ∧ l.length ≤ c ∧ c ≤ maxLen := own_shape h.own
theorem DatIs.src {w : World} {B : Nat} {A : Option Addr} {n c : Nat} {l : List Nat} (h : DatIs w B (.slice A n c) l) : Src w 1 A l.length (intsV .u8 l) ∧ n = l.length := by
  obtain ⟨A', c', e, _⟩ := h.shape
  injection e with e1 e2 e3
  subst e1; subst e2
  exact ⟨Src.of_own h.own, rfl⟩
set_option maxHeartbeats 1000000 in
theorem twin_any (a s : Int) (A : Option Addr) (c : Nat) (l : List Nat) (h256 : ∀ x ∈ l, x < 256) (hl : l.length ≤ reachBytes) (w : World) (hs : Src w 1 A l.length (intsV .u8 l)) :
    Calls Try.prog 22 #[.agg #[.int .i64 a, .int .i64 s, .slice A l.length c]] w fun e w' => ∃ d, e = .returned (.agg #[.int .i64 a, .int .i64 s, d]) ∧ DatIs w' w.heap.size d l ∧ Below w.heap.size w w' := by
  obtain ⟨wB, hwB⟩ : ∃ wB, wB = (w.alloc (.cells #[.int .i64 a, .int .i64 s, .slice A l.length c] 32)).alloc (.cells #[.int .i64 0, .int .i64 0, .slice none 0 0] 32) := ⟨_, rfl⟩
  have HR0 : Hid (Row wB.drew w.heap.size 32 #[.int .i64 a, .int .i64 s, .slice A l.length c]) := by unfold Hid; rw [hwB]; exact (Row.fresh w _ _).alloc _
  have HR1 : Hid (Row wB.drew (w.heap.size + 1) 32 #[.int .i64 0, .int .i64 0, .slice none 0 0]) := by
    unfold Hid; rw [hwB]
    have := Row.fresh (w.alloc (.cells #[.int .i64 a, .int .i64 s, .slice A l.length c] 32)) 32 #[.int .i64 0, .int .i64 0, .slice none 0 0]
    rw [World.size_alloc] at this
    exact this
  have HB0 : Hid (Below w.heap.size w wB.drew) := by unfold Hid; rw [hwB]; (repeat (first | (with_reducible refine Below.drew ?_) | (with_reducible refine below_drewN0 ?_ _) | ((with_reducible refine Below.setCell ?_ ?_ _); rotate_left; focus (first | omega | (simp; done) | (simp; omega) | (simp at *; omega))) | ((with_reducible refine Below.alloc ?_ ?_ _); rotate_left; focus (first | omega | (simp; done) | (simp; omega) | (simp at *; omega))) | (with_reducible exact Below.refl _ _)))
  have HC := Lib.hid (CloneB_any A l.length c (intsV .u8 l) hl wB.drew (hs.keep (keep_below HB0.out)) (intsV_one .u8 l))
  have hsz : wB.drew.heap.size = w.heap.size + 1 + 1 := by rw [hwB]; simp
  have HK : Hid (∀ w', Below wB.drew.heap.size wB.drew w' → (w'.cell? ⟨w.heap.size, 0, none⟩ = some (.int .i64 a) ∧ w'.cell? ⟨w.heap.size, 1, none⟩ = some (.int .i64 s) ∧ w'.cell? ⟨w.heap.size, 2, none⟩ = some (.slice A l.length c)) ∧ Row w' (w.heap.size + 1) 32 #[.int .i64 0, .int .i64 0, .slice none 0 0] ∧ Row w' w.heap.size 32 #[.int .i64 a, .int .i64 s, .slice A l.length c]) := fun w' hb => by
    have h0 := HR0.out.below hb HR0.out.lt
    exact ⟨⟨by rw [h0.cell]; rfl, by rw [h0.cell]; rfl, by rw [h0.cell]; rfl⟩, HR1.out.below hb HR1.out.lt, h0⟩
  have h256' := Lib.hid h256
  have hl' := Lib.hid hl
  have hq0 := (HK.out wB.drew (Below.refl _ _)).1
  have hsz' := Lib.hid hsz
  clear hs h256 HR0 HR1 hl hsz
  go_enter Try.func22, Try.ntmps22
  go_wp2_with fail
  rw [← hwB]
  clear hwB
  go_region_held_law (fun w' => w'.cell? ⟨w.heap.size, 0, none⟩ = some (.int .i64 a) ∧ w'.cell? ⟨w.heap.size, 1, none⟩ = some (.int .i64 s) ∧ w'.cell? ⟨w.heap.size, 2, none⟩ = some (.slice A l.length c)) (first | exact hq.1 | exact hq0 | (have h3 := ((hq.2.2.far (p := ⟨w.heap.size + 1, 0, none⟩) (by simp) (.int .i64 a)).far (p := ⟨w.heap.size + 1, 1, none⟩) (by simp) (.int .i64 s)).far (p := ⟨w.heap.size + 1, 2, none⟩) (by simp) (.slice A' l.length c'); exact ⟨(by rw [h3.cell]; rfl), (by rw [h3.cell]; rfl), (by rw [h3.cell]; rfl)⟩))
    (first | (go_at_call 27; refine HC.out.mono ?_; rintro e w' ⟨A', c', rfl, ho, hb⟩; have hq := HK.out w' hb; have k0 := hq.2.1.cell 0; have k1 := hq.2.1.cell 1; have k2 := hq.2.1.cell 2; have f0 := hq.2.1.frozen 0; have f1 := hq.2.1.frozen 1; have f2 := hq.2.1.frozen 2; simp at k0 k1 k2))
  have HR2 : Hid (Row (((w'.setCell ⟨w.heap.size + 1, 0, none⟩ (.int .i64 a)).setCell ⟨w.heap.size + 1, 1, none⟩ (.int .i64 s)).setCell ⟨w.heap.size + 1, 2, none⟩ (.slice A' l.length c')) (w.heap.size + 1) 32 #[.int .i64 a, .int .i64 s, .slice A' l.length c']) := by
    unfold Hid
    have := ((hq.2.1.put 0 (.int .i64 a)).put 1 (.int .i64 s)).put 2 (.slice A' l.length c')
    simpa using this
  have HT2 : Hid (Turns w' (((w'.setCell ⟨w.heap.size + 1, 0, none⟩ (.int .i64 a)).setCell ⟨w.heap.size + 1, 1, none⟩ (.int .i64 s)).setCell ⟨w.heap.size + 1, 2, none⟩ (.slice A' l.length c')) [w.heap.size + 1]) :=
    (((Turns.refl w' [w.heap.size + 1]).setCell (by simp) _).setCell (by simp) _).setCell (by simp) _
  have HO2 := Lib.hid (HT2.out.own ho (fun g hg hm => by have h1 := (ho.lt g hg).1; rw [hsz'.out] at h1; simp at hm; omega))
  have HB2 : Hid (Below w.heap.size w (((w'.setCell ⟨w.heap.size + 1, 0, none⟩ (.int .i64 a)).setCell ⟨w.heap.size + 1, 1, none⟩ (.int .i64 s)).setCell ⟨w.heap.size + 1, 2, none⟩ (.slice A' l.length c'))) :=
    HT2.out.below (HB0.out.trans (hb.mono HB0.out.size)) (by have := hb.size; rw [hsz'.out] at this; omega) (by simp)
  have HF : Hid (DatIs (((w'.setCell ⟨w.heap.size + 1, 0, none⟩ (.int .i64 a)).setCell ⟨w.heap.size + 1, 1, none⟩ (.int .i64 s)).setCell ⟨w.heap.size + 1, 2, none⟩ (.slice A' l.length c')) w.heap.size (.slice A' l.length c') l) :=
    ⟨h256'.out, hl'.out, own_mono HO2.out (by rw [hsz'.out]; omega)⟩
  clear hq hq0 k0 k1 k2 f0 f1 f2 ho hb HT2 HO2 HC HK
  go_wp2
  exact bodyPost_ret (v := .agg #[.int .i64 a, .int .i64 s, .slice A' l.length c']) (results_cell_row rfl _ _ (w.heap.size + 1) 32 _ (0, 0) _ rfl HR2.out Try.underlying32 rfl (by kernel_rfl)) rfl ⟨_, rfl, HF.out, HB2.out⟩
end Go.Proofs.Ytmppegknkeggcaa
