/- vcache: All, its closure: what it tells. -/
import Derived.Test.YtmppegknkeggcaaCacheM
namespace Go.Proofs.Ytmppegknkeggcaa
open Go.RowKit Go.Shelf
attribute [local go_sem] Oper.semAt_some
attribute [local simp, local go_sem] wide_fn
set_option linter.unusedVariables false
set_option linter.unusedSimpArgs false

/-- The blocks before K are as they were, but for some. -/
structure KpS (K : Nat) (S : List Nat) (W W' : World) : Prop where
  size : W.heap.size ≤ W'.heap.size
  block : ∀ k, k < K → k ∉ S → W'.heap[k]? = W.heap[k]?
theorem KpS.refl (K : Nat) (S : List Nat) (W : World) : KpS K S W W := ⟨Nat.le_refl _, fun _ _ _ => rfl⟩
theorem KpS.trans {K : Nat} {S : List Nat} {A B C : World} (h : KpS K S A B) (h' : KpS K S B C) : KpS K S A C := ⟨Nat.le_trans h.size h'.size, fun k hk hn => (h'.block k hk hn).trans (h.block k hk hn)⟩
theorem KpS.of_below {K : Nat} {S : List Nat} {W W' : World} (h : Below W.heap.size W W') (hK : K ≤ W.heap.size) : KpS K S W W' := ⟨h.size, fun k hk _ => h.block k (by omega)⟩
theorem KpS.row {K : Nat} {S : List Nat} {W W' : World} (h : KpS K S W W') {g : Nat} {t : TypeId} {cs : Array Value} (hr : Row W g t cs) (hK : g < K) (hn : g ∉ S) : Row W' g t cs := (h.block g hK hn).trans hr
theorem KpS.own {K : Nat} {S : List Nat} {W W' : World} (h : KpS K S W W') {base : Nat} {e : TypeId} {size : Nat} {v : Value} {n : Nat} {xs : List Value} (ho : W.ownsRow base e size v n xs) (hn : ∀ g, v.ownBlock = some g → g < K ∧ g ∉ S) : W'.ownsRow base e size v n xs := by
  refine ⟨ho.1, ?_⟩
  rcases ho.2 with h1 | ⟨g, cap, cur, rfl, hb, hg, rest⟩
  · exact .inl h1
  · exact .inr ⟨g, cap, cur, rfl, hb, (h.block g (hn g rfl).1 (hn g rfl).2).trans hg, rest⟩

/-- The number of the group that the k-th write is of. -/
def gno (items : List It) : Nat → Nat
  | 0 => 0
  | k + 1 => gno items k + (match items[k]?, items[k + 1]? with | some x, some y => if y.g = x.g then 0 else 1 | _, _ => 0)
def gpre (items : List It) : Nat → Nat
  | 0 => 0
  | k + 1 => gno items k
theorem gno_le (items : List It) (k : Nat) : gno items k ≤ k := by
  induction k with
  | zero => simp [gno]
  | succ k ih => unfold gno; split <;> (try split) <;> omega
theorem gno_zero (items : List It) : gno items 0 = 0 := rfl
theorem gno_same (items : List It) (k : Nat) (x y : It) (hx : items[k]? = some x) (hy : items[k + 1]? = some y) (h : y.g = x.g) : gno items (k + 1) = gno items k := by simp [gno, hx, hy, h]
theorem gno_next (items : List It) (k : Nat) (x y : It) (hx : items[k]? = some x) (hy : items[k + 1]? = some y) (h : ¬ y.g = x.g) : gno items (k + 1) = gno items k + 1 := by simp [gno, hx, hy, h]
abbrev It.key (x : It) : Int × Int × List Nat × Int := (x.a, x.s, x.l, x.g)
/-- What All tells of the first k writes. -/
def told (items : List It) : Nat → List (Int × Int × List Nat × Int)
  | 0 => []
  | k + 1 => told items k ++ (match items[k]? with | some x => [(x.a, x.s, x.l, ((gno items k : Nat) : Int))] | none => [])
theorem told_step (items : List It) (k : Nat) (x : It) (hx : items[k]? = some x) : told items (k + 1) = told items k ++ [(x.a, x.s, x.l, ((gno items k : Nat) : Int))] := by simp [told, hx]
theorem told_length (items : List It) : ∀ k, k ≤ items.length → (told items k).length = k
  | 0, _ => rfl
  | k + 1, h => by rw [told_step items k _ (List.getElem?_eq_getElem (by omega)), List.length_append, told_length items k (by omega)]; rfl

set_option maxHeartbeats 400000 in
theorem All_any (B C mb most c : Nat) (A : Option Addr) (items : List It) (g : Int) (w : World) (h : CHeld w B C mb most A c items g) :
    Calls Try.prog 16 #[.pointer (some ⟨C, 0, none⟩)] w fun e w' => ∃ Bx A' c', e = .returned (.func (.func 28) #[] #[.pointer (some ⟨Bx, 0, none⟩)]) ∧ w.heap.size ≤ Bx ∧ Row w' Bx 53 #[.slice A' items.length c'] ∧ OwnI w' w.heap.size (.slice A' items.length c') items.length items ∧ Below w.heap.size w w' := by
  obtain ⟨_, q1, _, _⟩ := h.cells
  have HC := Lib.hid (CloneI_any A items.length c (itsV items) (by have := h.few; omega) w (Src.of_own h.own) (itsV_one items))
  clear h
  go_enter Try.func16, Try.ntmps16
  go_wp2_with fail
  refine HC.out.mono ?_
  rintro e w1 ⟨A', c', rfl, hown, hb⟩
  have hown := Lib.hid hown
  have HB := Lib.hid hb
  clear HC q1
  go_wp2
  go_ret
  exact ⟨_, _, _, rfl, hb.size, Row.fresh _ _ _, own_below hown.out (by (repeat (first | (with_reducible refine Below.drew ?_) | (with_reducible refine below_drewN0 ?_ _) | ((with_reducible refine Below.setCell ?_ ?_ _); rotate_left; focus (first | omega | (simp; done) | (simp; omega) | (simp at *; omega))) | ((with_reducible refine Below.alloc ?_ ?_ _); rotate_left; focus (first | omega | (simp; done) | (simp; omega) | (simp at *; omega))) | (with_reducible exact Below.refl _ _)))), by (have hsz0 := Below.size hb; repeat (first | (with_reducible refine Below.drew ?_) | (with_reducible refine below_drewN0 ?_ _) | ((with_reducible refine Below.setCell ?_ ?_ _); rotate_left; focus (first | omega | (simp; done) | (simp; omega) | (simp at *; omega))) | ((with_reducible refine Below.alloc ?_ ?_ _); rotate_left; focus (first | omega | (simp; done) | (simp; omega) | (simp at *; omega))) | ((with_reducible refine Below.trans ?_ (Below.mono hb ?_)); rotate_left; focus (first | omega | (simp; done) | (simp; omega) | (simp at *; omega))) | (with_reducible exact Below.refl _ _)))⟩

/-- What a round is told: the bytes are its own, the number is small. -/
def Tld (K : Nat) (items : List It) (x : It) (W : World) : Prop := DatIs W K x.d x.l ∧ (0 ≤ x.g ∧ x.g ≤ 1000) ∧ ∃ y ∈ items, x.a = y.a ∧ x.s = y.s ∧ x.l = y.l
abbrev encW (x : It) : Array Value := #[.int .i64 x.g, .agg #[.int .i64 x.a, .int .i64 x.s, .slice x.A x.l.length x.c]]
theorem wraps_down (k q : Nat) (h : k = q + 1) (hk : k ≤ 1000) : IntKind.i64.wrap ((k : Int) - 1) = (q : Int) := by rw [IntKind.wrap_i64]; omega
theorem wraps_up (k : Nat) (hk : k ≤ 1000) : IntKind.i64.wrap ((k : Int) + 1) = (k : Int) + 1 := by rw [IntKind.wrap_i64]; omega

set_option maxRecDepth 100000 in
set_option maxHeartbeats 2000000 in
theorem All1_told (n : Nat) (hn : 2 ≤ n) (K Bs L cap : Nat) (S : List Nat) (A : Option Addr) (items : List It) (hlen : items.length ≤ 1000) (w : World) (hK : K ≤ w.heap.size)
    (hc : ∀ W, KpS K S w W → W.cell? ⟨Bs, 0, none⟩ = some (.slice A items.length cap) ∧ ∀ j x, items[j]? = some x → A = some ⟨L, 0, none⟩ ∧
      (W.cell? ⟨L, j * 4, none⟩ = some (.int .i64 x.a) ∧ W.cell? ⟨L, j * 4 + 1, none⟩ = some (.int .i64 x.s) ∧ W.cell? ⟨L, j * 4 + 2, none⟩ = some (.slice x.A x.l.length x.c) ∧ W.cell? ⟨L, j * 4 + 3, none⟩ = some (.int .i64 x.g)) ∧
      ((∀ u ∈ x.l, u < 256) ∧ x.l.length ≤ reachBytes ∧ Src W 1 x.A x.l.length (intsV .u8 x.l))) :
    SeqTold Fence.wide n Try.prog 28 #[.pointer (some ⟨Bs, 0, none⟩)] encW (KpS K S) (Tld K items) (fun xs => xs.map It.key = told items items.length) (fun _ => True) items.length w := by
  intro l J Jx W hW hJ hJx hY h0
  obtain ⟨len, hl⟩ : ∃ len, len = items.length := ⟨_, rfl⟩
  have HL := Lib.hid hl
  have HC := Lib.hid hc
  have HY := Lib.hid hY
  have HJ := Lib.hid hJ
  have hW0 : KpS K S w W := KpS.of_below hW hK
  have HWw := Lib.hid hW
  rw [← hl] at hlen ⊢
  clear hc hY hl hJ hJx hW
  refine callsIn_of_wp Try.func28 rfl trivial ?_ rfl
  simp only [Try.ntmps28, List.size_toArray, List.length_cons, List.length_nil, Nat.reduceAdd, Nat.reduceSub, Array.replicate_succ, Array.replicate_zero, List.push_toArray, List.append_toArray, List.nil_append, List.cons_append]
  have hbs0 : W.cell? ⟨Bs, 0, none⟩ = some (.slice A len cap) := by rw [HL.out]; exact (HC.out W hW0).1
  gi_wp2
  gi_loopw [3, 8] (fun nv i wr => ∃ (k : Nat) (pre : List It), k ≤ len ∧ i = .int .i64 k ∧ nv = .int .i64 (gpre items k : Nat) ∧ pre.map It.key = told items k ∧ J pre wr ∧ KpS K S w wr ∧ K ≤ wr.heap.size)
    (fun _ i _ => len - (intOf i).toNat)
  case atStart => exact ⟨0, [], by omega, rfl, rfl, rfl, h0, hW0, by have := HWw.out.size; omega⟩
  case round =>
    obtain ⟨k, pre, hk, rfl, rfl, hpre, hJs, hkp, hKr⟩ := hrel
    clear hbs0 h0 hW0
    by_cases hlt : k < len
    · obtain ⟨x, hx⟩ : ∃ x, items[k]? = some x := ⟨_, List.getElem?_eq_getElem (by rw [← HL.out]; exact hlt)⟩
      have hbs : wr.cell? ⟨Bs, 0, none⟩ = some (.slice A len cap) := by rw [HL.out]; exact (HC.out wr hkp).1
      obtain ⟨eA, ⟨c0, c1, c2, c3⟩, d0, d1, d2⟩ := (HC.out wr hkp).2 k x hx
      subst eA
      have hwu := wraps_up (gpre items k) (by have := gno_le items (k - 1); cases k with | zero => simp [gpre] | succ k => simp [gpre] at this ⊢; omega)
      have HX := Lib.hid hx
      have HP := Lib.hid hpre
      have HK := Lib.hid hkp
      have HJs := Lib.hid hJs
      have HD := Lib.hid (And.intro d0 (And.intro d1 d2))
      have hk1000 : k ≤ 1000 := by omega
      clear hx hpre hkp hJs d0 d1 d2
      have HTw : Hid (∀ W', Below wr.heap.size wr W' → Calls Try.prog 22 #[.agg #[.int .i64 x.a, .int .i64 x.s, .slice x.A x.l.length x.c]] W' fun e w' => ∃ d, e = .returned (.agg #[.int .i64 x.a, .int .i64 x.s, d]) ∧ DatIs w' W'.heap.size d x.l ∧ Below W'.heap.size W' w') :=
        fun W' hb => twin_any x.a x.s x.A x.c x.l HD.out.1 HD.out.2.1 W' (HD.out.2.2.keep (keep_below hb))
      by_cases hk0 : k = 0
      · have hgn : Hid (gpre items k = gno items k) := by unfold Hid; rw [hk0]; rfl
        rw [hgn.out]
        subst hk0
        gi_wp2_with fail
        gi_quiet (fail)
        gi_wp2_with fail
        refine ⟨fun _ => by omega, ?_⟩
        refine (callsIn_wide.2 (HTw.out _ (by (repeat (first | (with_reducible refine Below.drew ?_) | (with_reducible refine below_drewN0 ?_ _) | ((with_reducible refine Below.setCell ?_ ?_ _); rotate_left; focus (first | omega | (simp; done) | (simp; omega) | (simp at *; omega))) | ((with_reducible refine Below.alloc ?_ ?_ _); rotate_left; focus (first | omega | (simp; done) | (simp; omega) | (simp at *; omega))) | (with_reducible exact Below.refl _ _)))))).mono ?_
        rintro e W2 ⟨d, rfl, hd, hb2⟩
        obtain ⟨A2, c5, rfl, _, _⟩ := hd.shape
        have HB2 : Hid (Below wr.heap.size wr W2) := by unfold Hid; (have hsz0 := Below.size hb2; repeat (first | (with_reducible refine Below.drew ?_) | (with_reducible refine below_drewN0 ?_ _) | ((with_reducible refine Below.setCell ?_ ?_ _); rotate_left; focus (first | omega | (simp; done) | (simp; omega) | (simp at *; omega))) | ((with_reducible refine Below.alloc ?_ ?_ _); rotate_left; focus (first | omega | (simp; done) | (simp; omega) | (simp at *; omega))) | ((with_reducible refine Below.trans ?_ (Below.mono hb2 ?_)); rotate_left; focus (first | omega | (simp; done) | (simp; omega) | (simp at *; omega))) | (with_reducible exact Below.refl _ _)))
        obtain ⟨z, hz⟩ : ∃ z : It, z = { a := x.a, s := x.s, A := A2, c := c5, l := x.l, g := ((gno items 0 : Nat) : Int) } := ⟨_, rfl⟩
        have HD2 : Hid (Tld K items z W2) := by rw [hz]; exact ⟨⟨hd.small, hd.short, own_mono hd.own (by simp; omega)⟩, ⟨by show (0 : Int) ≤ ((gno items 0 : Nat) : Int); omega, by show ((gno items 0 : Nat) : Int) ≤ 1000; have := gno_le items 0; omega⟩, x, List.mem_of_getElem? HX.out, rfl, rfl, rfl⟩
        have hJ2 : J pre W2 := HJ.out pre wr W2 none HJs.out ⟨HB2.out.os, HB2.out.tape, HB2.out.output, HB2.out.size, fun k hk _ => HB2.out.block k hk⟩ (fun r e => by cases e)
        have hpl : pre.length < items.length := by
          have := congrArg List.length HP.out
          rw [List.length_map, told_length items 0 (by rw [← HL.out]; omega)] at this
          rw [← HL.out]; omega
        obtain ⟨fn, tmps, assign, body, hy, hR⟩ := HY.out pre z W2 HD2.out hJ2 hpl
        have HP3 : Hid ((pre ++ [z]).map It.key = told items (0 + 1)) := by unfold Hid; rw [List.map_append, HP.out, told_step items 0 x HX.out, hz]; rfl
        generalize pre ++ [z] = pre3 at *
        subst hz
        try dsimp only [encW] at hy
        clear hd hb2 hJ2 HTw
        gi_wp2
        refine ⟨fun _ => by omega, hR.mono ?_⟩
        rintro e W3 (⟨rfl, hJ3, hk3⟩ | ⟨rfl, hJx3⟩)
        · have HJ3 := Lib.hid hJ3
          have HK3 := Lib.hid hk3
          clear hJ3 hk3
          gi_wp2
          go_roundw
          case rel => exact ⟨0 + 1, pre3, by omega, by go_num, rfl, HP3.out, HJ3.out, (HK.out.trans (KpS.of_below HB2.out hKr)).trans HK3.out, Nat.le_trans hKr (Nat.le_trans HB2.out.size HK3.out.size)⟩
          case measure => simp [intOf]; omega
        · gi_wp2
          refine bodyPost_ret (results_none rfl _ _ _) rfl ?_
          exact ⟨⟨_, rfl⟩, .inr ⟨_, trivial, hJx3⟩⟩
      · obtain ⟨q, hq⟩ : ∃ q, k = q + 1 := ⟨k - 1, by omega⟩
        obtain ⟨y, hy⟩ : ∃ y, items[q]? = some y := ⟨_, List.getElem?_eq_getElem (by rw [← HL.out]; omega)⟩
        obtain ⟨_, ⟨_, _, _, b3⟩, _⟩ := (HC.out wr HK.out).2 q y hy
        have hwd := wraps_down k q hq hk1000
        have hkp : decide (0 < k) = true := by simp; omega
        have hkp' : decide ((0 : Int) < (k : Int)) = true := by simp; omega
        have hkp2 : 0 < k := by omega
        have hkq : q < len := by omega
        have HQ := Lib.hid hq
        have HYq := Lib.hid hy
        have e1 : ∀ o, (wr.alloc o).cell? ⟨Bs, 0, none⟩ = some (.slice (some ⟨L, 0, none⟩) len cap) := fun o => (World.cell?_alloc_lt _ _ _ (World.block_lt_of_cell? wr _ hbs)).trans hbs
        have e2 : ∀ o, (wr.alloc o).cell? ⟨L, q * 4 + 3, none⟩ = some (.int .i64 y.g) := fun o => (World.cell?_alloc_lt _ _ _ (World.block_lt_of_cell? wr _ b3)).trans b3
        clear hq hy
        by_cases hg : x.g = y.g
        · have hne : (x.g != y.g) = false := by simp [hg]
          have hgn : Hid (gpre items k = gno items k) := by unfold Hid; rw [HQ.out, gno_same items q y x HYq.out (by rw [← HQ.out]; exact HX.out) hg]; rfl
          rw [hgn.out]
          clear hg
          gi_wp2_with fail
          gi_quiet (fail)
          gi_wp2_with fail
          refine ⟨fun _ => by omega, ?_⟩
          refine (callsIn_wide.2 (HTw.out _ (by (repeat (first | (with_reducible refine Below.drew ?_) | (with_reducible refine below_drewN0 ?_ _) | ((with_reducible refine Below.setCell ?_ ?_ _); rotate_left; focus (first | omega | (simp; done) | (simp; omega) | (simp at *; omega))) | ((with_reducible refine Below.alloc ?_ ?_ _); rotate_left; focus (first | omega | (simp; done) | (simp; omega) | (simp at *; omega))) | (with_reducible exact Below.refl _ _)))))).mono ?_
          rintro e W2 ⟨d, rfl, hd, hb2⟩
          obtain ⟨A2, c5, rfl, _, _⟩ := hd.shape
          have HB2 : Hid (Below wr.heap.size wr W2) := by unfold Hid; (have hsz0 := Below.size hb2; repeat (first | (with_reducible refine Below.drew ?_) | (with_reducible refine below_drewN0 ?_ _) | ((with_reducible refine Below.setCell ?_ ?_ _); rotate_left; focus (first | omega | (simp; done) | (simp; omega) | (simp at *; omega))) | ((with_reducible refine Below.alloc ?_ ?_ _); rotate_left; focus (first | omega | (simp; done) | (simp; omega) | (simp at *; omega))) | ((with_reducible refine Below.trans ?_ (Below.mono hb2 ?_)); rotate_left; focus (first | omega | (simp; done) | (simp; omega) | (simp at *; omega))) | (with_reducible exact Below.refl _ _)))
          obtain ⟨z, hz⟩ : ∃ z : It, z = { a := x.a, s := x.s, A := A2, c := c5, l := x.l, g := ((gno items k : Nat) : Int) } := ⟨_, rfl⟩
          have HD2 : Hid (Tld K items z W2) := by rw [hz]; exact ⟨⟨hd.small, hd.short, own_mono hd.own (by simp; omega)⟩, ⟨by show (0 : Int) ≤ ((gno items k : Nat) : Int); omega, by show ((gno items k : Nat) : Int) ≤ 1000; have := gno_le items k; omega⟩, x, List.mem_of_getElem? HX.out, rfl, rfl, rfl⟩
          have hJ2 : J pre W2 := HJ.out pre wr W2 none HJs.out ⟨HB2.out.os, HB2.out.tape, HB2.out.output, HB2.out.size, fun k hk _ => HB2.out.block k hk⟩ (fun r e => by cases e)
          have hpl : pre.length < items.length := by
            have := congrArg List.length HP.out
            rw [List.length_map, told_length items k (by rw [← HL.out]; omega)] at this
            rw [← HL.out]; omega
          obtain ⟨fn, tmps, assign, body, hy, hR⟩ := HY.out pre z W2 HD2.out hJ2 hpl
          have HP3 : Hid ((pre ++ [z]).map It.key = told items (k + 1)) := by unfold Hid; rw [List.map_append, HP.out, told_step items k x HX.out, hz]; rfl
          generalize pre ++ [z] = pre3 at *
          subst hz
          try dsimp only [encW] at hy
          clear hd hb2 hJ2 HTw
          gi_wp2
          refine ⟨fun _ => by omega, hR.mono ?_⟩
          rintro e W3 (⟨rfl, hJ3, hk3⟩ | ⟨rfl, hJx3⟩)
          · have HJ3 := Lib.hid hJ3
            have HK3 := Lib.hid hk3
            clear hJ3 hk3
            gi_wp2
            go_roundw
            case rel => exact ⟨k + 1, pre3, by omega, by go_num, rfl, HP3.out, HJ3.out, (HK.out.trans (KpS.of_below HB2.out hKr)).trans HK3.out, Nat.le_trans hKr (Nat.le_trans HB2.out.size HK3.out.size)⟩
            case measure => simp [intOf]; omega
          · gi_wp2
            refine bodyPost_ret (results_none rfl _ _ _) rfl ?_
            exact ⟨⟨_, rfl⟩, .inr ⟨_, trivial, hJx3⟩⟩
        · have hne : (x.g != y.g) = true := by simp [hg]
          have hgn : Hid (((gpre items k : Nat) : Int) + 1 = ((gno items k : Nat) : Int)) := by unfold Hid; rw [HQ.out, gno_next items q y x HYq.out (by rw [← HQ.out]; exact HX.out) hg]; rfl
          clear hg
          gi_wp2_with fail
          gi_quiet (fail)
          gi_wp2_with fail
          rw [hgn.out]
          refine ⟨fun _ => by omega, ?_⟩
          refine (callsIn_wide.2 (HTw.out _ (by (repeat (first | (with_reducible refine Below.drew ?_) | (with_reducible refine below_drewN0 ?_ _) | ((with_reducible refine Below.setCell ?_ ?_ _); rotate_left; focus (first | omega | (simp; done) | (simp; omega) | (simp at *; omega))) | ((with_reducible refine Below.alloc ?_ ?_ _); rotate_left; focus (first | omega | (simp; done) | (simp; omega) | (simp at *; omega))) | (with_reducible exact Below.refl _ _)))))).mono ?_
          rintro e W2 ⟨d, rfl, hd, hb2⟩
          obtain ⟨A2, c5, rfl, _, _⟩ := hd.shape
          have HB2 : Hid (Below wr.heap.size wr W2) := by unfold Hid; (have hsz0 := Below.size hb2; repeat (first | (with_reducible refine Below.drew ?_) | (with_reducible refine below_drewN0 ?_ _) | ((with_reducible refine Below.setCell ?_ ?_ _); rotate_left; focus (first | omega | (simp; done) | (simp; omega) | (simp at *; omega))) | ((with_reducible refine Below.alloc ?_ ?_ _); rotate_left; focus (first | omega | (simp; done) | (simp; omega) | (simp at *; omega))) | ((with_reducible refine Below.trans ?_ (Below.mono hb2 ?_)); rotate_left; focus (first | omega | (simp; done) | (simp; omega) | (simp at *; omega))) | (with_reducible exact Below.refl _ _)))
          obtain ⟨z, hz⟩ : ∃ z : It, z = { a := x.a, s := x.s, A := A2, c := c5, l := x.l, g := ((gno items k : Nat) : Int) } := ⟨_, rfl⟩
          have HD2 : Hid (Tld K items z W2) := by rw [hz]; exact ⟨⟨hd.small, hd.short, own_mono hd.own (by simp; omega)⟩, ⟨by show (0 : Int) ≤ ((gno items k : Nat) : Int); omega, by show ((gno items k : Nat) : Int) ≤ 1000; have := gno_le items k; omega⟩, x, List.mem_of_getElem? HX.out, rfl, rfl, rfl⟩
          have hJ2 : J pre W2 := HJ.out pre wr W2 none HJs.out ⟨HB2.out.os, HB2.out.tape, HB2.out.output, HB2.out.size, fun k hk _ => HB2.out.block k hk⟩ (fun r e => by cases e)
          have hpl : pre.length < items.length := by
            have := congrArg List.length HP.out
            rw [List.length_map, told_length items k (by rw [← HL.out]; omega)] at this
            rw [← HL.out]; omega
          obtain ⟨fn, tmps, assign, body, hy, hR⟩ := HY.out pre z W2 HD2.out hJ2 hpl
          have HP3 : Hid ((pre ++ [z]).map It.key = told items (k + 1)) := by unfold Hid; rw [List.map_append, HP.out, told_step items k x HX.out, hz]; rfl
          generalize pre ++ [z] = pre3 at *
          subst hz
          try dsimp only [encW] at hy
          clear hd hb2 hJ2 HTw
          gi_wp2
          refine ⟨fun _ => by omega, hR.mono ?_⟩
          rintro e W3 (⟨rfl, hJ3, hk3⟩ | ⟨rfl, hJx3⟩)
          · have HJ3 := Lib.hid hJ3
            have HK3 := Lib.hid hk3
            clear hJ3 hk3
            gi_wp2
            go_roundw
            case rel => exact ⟨k + 1, pre3, by omega, by go_num, rfl, HP3.out, HJ3.out, (HK.out.trans (KpS.of_below HB2.out hKr)).trans HK3.out, Nat.le_trans hKr (Nat.le_trans HB2.out.size HK3.out.size)⟩
            case measure => simp [intOf]; omega
          · gi_wp2
            refine bodyPost_ret (results_none rfl _ _ _) rfl ?_
            exact ⟨⟨_, rfl⟩, .inr ⟨_, trivial, hJx3⟩⟩
    · obtain rfl : k = len := by omega
      clear HY HJ
      gi_wp2
      go_end0
      exact ⟨⟨_, rfl⟩, .inl ⟨pre, hpre, hJs⟩⟩
/-- What All's function tells, in whatever later world. -/
theorem All_told (n : Nat) (hn : 2 ≤ n) (S : List Nat) (B C mb most c : Nat) (A : Option Addr) (items : List It) (g : Int) (w w5 : World) (h : CHeld w B C mb most A c items g) (hS : ∀ k ∈ S, k < w.heap.size ∧ ∀ cur, ¬ Row w k 5 cur)
    (Bx c' : Nat) (A' : Option Addr) (hBx : w.heap.size ≤ Bx) (hr : Row w5 Bx 53 #[.slice A' items.length c']) (ho : OwnI w5 w.heap.size (.slice A' items.length c') items.length items) (hb : Below w.heap.size w w5) :
    SeqTold Fence.wide n Try.prog 28 #[.pointer (some ⟨Bx, 0, none⟩)] encW (KpS w5.heap.size S) (Tld w5.heap.size items) (fun xs => xs.map It.key = told items items.length) (fun _ => True) items.length w5 := by
  refine All1_told n hn w5.heap.size Bx ((A'.map (·.block)).getD 0) c' S A' items h.few w5 (Nat.le_refl _) (fun W hk => ⟨?_, fun j x hx => ?_⟩)
  · rw [(hk.row hr hr.lt (fun hm => by have := (hS _ hm).1; omega)).cell]; rfl
  · have hoW := hk.own ho (fun q hq => ⟨(World.ownsRow.lt ho q hq).2, fun hm => by have := (hS _ hm).1; have := (World.ownsRow.lt ho q hq).1; omega⟩)
    obtain ⟨L, e, c0, c1, c2, c3⟩ := OwnI.at4 hoW j x hx
    subst e
    have hd := h.dat x (List.mem_of_getElem? hx)
    have hd5 := hd.below hb
    have hdW : DatIs W B x.d x.l := ⟨hd5.small, hd5.short, hk.own hd5.own (fun q hq => ⟨(World.ownsRow.lt hd5.own q hq).2, fun hm => by
      have hq2 : (Value.slice x.A x.l.length x.c).ownBlock = some q := hq
      rcases hd.own.2 with ⟨e, _⟩ | ⟨g', cap, cur, e, _, hr, _⟩
      · rw [e] at hq2; cases hq2
      · rw [e] at hq2
        injection hq2 with hq2
        subst hq2
        exact (hS _ hm).2 cur hr⟩)⟩
    exact ⟨rfl, ⟨c0, c1, c2, c3⟩, hdW.small, hdW.short, hdW.src.1⟩
end Go.Proofs.Ytmppegknkeggcaa
