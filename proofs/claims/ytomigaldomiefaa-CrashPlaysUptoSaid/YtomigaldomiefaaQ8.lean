/- What follows is laid together from several texts of mine, in their order. -/
import Derived.Test.YtomigaldomiefaaQ7
import Derived.Test.YtomigaldomiefaaQ2
import Derived.Test.YtomigaldomiefaaQ6
import Derived.RangeFuncNested
import Derived.RangeFuncBound
import Derived.RangeFuncCalls
import Derived.RangeFuncLeaves
import Derived.Shelf.Abstract
import Derived.Shelf.RegionOpen
import Derived.OwnWalkIn
import Derived.TacticsInMore
import Derived.LoopNIn
import Derived.LoopIn
import Derived.Deep.OwnRows

namespace Go.Proofs.Ytomigaldomiefaa
open Go.RowKit
set_option linter.unusedVariables false
set_option linter.unusedSimpArgs false
theorem wpIn_region_later_round {F : Fence} {n : Nat} {P : Program} {id : Nat} {Q : Exit → Act → World → Prop} {a : Act} {w : World} {l : List Oper} (hnd : l.toArray.all notDefer = true) (hm : P.follows .mixedOrders = true) (hB : Region.lexB .any l.toArray = true)
    (h : wpQuietIn F n P l.toArray (fun u => ∃ t : Later w, u = t.u) (fun a' => ∀ t : Later w, Q .normal a' t.u) l a) : (Code.region id l.toArray true).wpIn F n P Q a w :=
  wpIn_region_quiet_round (C := fun u => ∃ t : Later w, u = t.u) hnd hm hB ⟨⟨_, (Below.refl _ _).drew⟩, rfl⟩ (by
    have e : (fun a' => ∀ t : Later w, Q .normal a' t.u) = (fun a' => ∀ w', (∃ t : Later w, w' = t.u) → Q .normal a' w') := by
      funext a'; apply propext
      exact ⟨fun h w' ⟨t, e⟩ => by subst e; exact h t, fun h t => h _ ⟨t, rfl⟩⟩
    rw [e] at h
    simpa using h)
theorem Later.callIn {F : Fence} {n : Nat} {P : Program} {f : FuncId} {args : Array Value} {w : World} {t : Later w} {v : Value} (h : CallsIn F n P f args t.u fun e u' => e = .returned v ∧ Below t.u.heap.size t.u u') :
    CallsIn F n P f args t.u fun e w'' => e = .returned v ∧ ∃ t' : Later w, w'' = t'.u :=
  h.mono fun e u' ⟨he, hb⟩ => ⟨he, ⟨u', t.h.trans (hb.mono t.h.size)⟩, rfl⟩
end Go.Proofs.Ytomigaldomiefaa

namespace Go.Proofs.Ytomigaldomiefaa
open Go.RowKit Go.Shelf
theorem wide_fn (f : FuncId) : Fence.wide.fn f := trivial
attribute [local go_sem] Oper.semAt_some
attribute [local simp, local go_sem] wide_fn
set_option linter.unusedVariables false
set_option linter.unusedSimpArgs false

/-- The blocks before K are as they were, but for some. -/
structure KpS (K : Nat) (S : List Nat) (W W' : World) : Prop where
  size : W.heap.size ≤ W'.heap.size
  block : ∀ k, k < K → k ∉ S → W'.heap[k]? = W.heap[k]?
theorem KpS.refl (K : Nat) (S : List Nat) (W : World) : KpS K S W W := ⟨Nat.le_refl _, fun _ _ _ => rfl⟩
theorem KpS.trans {K : Nat} {S : List Nat} {A B C : World} (h : KpS K S A B) (h' : KpS K S B C) : KpS K S A C := ⟨Nat.le_trans h.size h'.size, fun k hk hn => (h'.block k hk hn).trans (h.block k hk hn)⟩
theorem KpS.of_below {K : Nat} {S : List Nat} {W W' : World} (h : Below W.heap.size W W') (hK : K ≤ W.heap.size) : KpS K S W W' := ⟨h.size, fun k hk _ => h.block k (by omega)⟩
theorem KpS.row {K : Nat} {S : List Nat} {W W' : World} (h : KpS K S W W') {g : Nat} {t : TypeId} {cs : Array Value} (hr : Row W g t cs) (hK : g < K) (hn : g ∉ S) : Row W' g t cs := (h.block g hK hn).trans hr
theorem KpS.cell {K : Nat} {S : List Nat} {W W' : World} (h : KpS K S W W') {p : Addr} {v : Value} (hc : W.cell? p = some v) (hK : p.block < K) (hn : p.block ∉ S) : W'.cell? p = some v := (World.cell?_of_block (h.block p.block hK hn)).trans hc
theorem KpS.mono {K K' : Nat} {S S' : List Nat} {W W' : World} (h : KpS K S W W') (hK : K' ≤ K) (hS : ∀ k ∈ S, k < K' → k ∈ S') : KpS K' S' W W' := ⟨h.size, fun k hk hn => h.block k (by omega) (fun hm => hn (hS k hm hk))⟩
def notLoop : Obj → Bool | .loop _ => false | _ => true
/-- All is as it was but for some blocks, and for the records of loops. -/
structure KpC (T : List Nat) (W W' : World) : Prop where
  size : W.heap.size ≤ W'.heap.size
  same : ∀ (k : Nat) (o : Obj), k ∉ T → W.heap[k]? = some o → notLoop o = true → W'.heap[k]? = some o
section
variable {T T' : List Nat} {W W' : World}
theorem KpC.trans {X Y Z : World} (h : KpC T X Y) (h' : KpC T Y Z) : KpC T X Z := ⟨Nat.le_trans h.size h'.size, fun k o hn hk ho => h'.same k o hn (h.same k o hn hk ho) ho⟩
theorem KpC.of_below (h : Below W.heap.size W W') : KpC T W W' := ⟨h.size, fun k o _ hk _ => (h.block k (Array.getElem?_eq_some_iff.1 hk).1).trans hk⟩
theorem KpC.of_turns {S : List Nat} (h : Turns W W' S) (hS : ∀ k ∈ S, k ∈ T) : KpC T W W' := ⟨h.size, fun k o hn hk _ => (h.block k (Array.getElem?_eq_some_iff.1 hk).1 (fun hm => hn (hS k hm))).trans hk⟩
theorem KpC.row (h : KpC T W W') {g : Nat} {t : TypeId} {cs : Array Value} (hr : Row W g t cs) (hn : g ∉ T) : Row W' g t cs := h.same g _ hn hr rfl
theorem KpC.mono (h : KpC T W W') (hT : ∀ k ∈ T, k < W.heap.size → k ∈ T') : KpC T' W W' := ⟨h.size, fun k o hn hk ho => h.same k o (fun hm => hn (hT k hm (Array.getElem?_eq_some_iff.1 hk).1)) hk ho⟩
theorem KpC.put {l : Nat} {r : Loop} {o' : Obj} (hl : W.heap[l]? = some (.loop r)) : KpC T W (W.putObj l o') := ⟨by simp, fun k o2 _ hk ho => by
  by_cases e : k = l
  · subst e
    rw [hl] at hk; injection hk with hk; subst hk
    cases ho
  · exact (World.putObj_heap_other e).trans hk⟩
theorem KpC.cell (h : KpC T W W') {p : Addr} {v : Value} (hc : W.cell? p = some v) (hn : p.block ∉ T) : W'.cell? p = some v := by
  have hlt := World.block_lt_of_cell? W p hc
  obtain ⟨o, ho⟩ : ∃ o, W.heap[p.block]? = some o := ⟨_, Array.getElem?_eq_getElem hlt⟩
  have hcell : notLoop o = true := by
    unfold World.cell? at hc
    rw [ho] at hc
    cases o <;> simp [notLoop] at hc ⊢
  exact (World.cell?_of_block ((h.same _ o hn ho hcell).trans ho.symm)).trans hc
end
abbrev encT (x : List Nat) : Array Value := #[.string (textOf x)]
theorem ofP_take (l : List Wr) (p k q : Nat) (d : List Nat) (h : l[k]? = some (q, d)) : ofP (l.take (k + 1)) p = ofP (l.take k) p ++ (if q = p then [d] else []) := by
  have e : l.take (k + 1) = l.take k ++ [(q, d)] := by rw [List.take_add_one, h]; rfl
  unfold ofP; rw [e, List.filterMap_append]
  by_cases hq : q = p <;> simp [hq]
theorem ofP_le (l : List Wr) (p : Nat) : (ofP l p).length ≤ l.length := List.length_filterMap_le _ _
/-- What of's closure reads. -/
structure OfAt (W : World) (Z1 Z2 c p : Nat) (A : Option Addr) (l : List Wr) : Prop where
  z1 : W.cell? ⟨Z1, 0, none⟩ = some (.slice A l.length c)
  z2 : W.cell? ⟨Z2, 0, none⟩ = some (.int .i64 p)
  at0 : ∀ (k : Nat) (x : Wr), l[k]? = some x → ∃ g A1 c1, A = some ⟨g, 0, none⟩ ∧ W.cell? ⟨g, k * 3, none⟩ = some (.int .i64 0) ∧ W.cell? ⟨g, k * 3 + 1, none⟩ = some (.int .i64 x.1) ∧ W.cell? ⟨g, k * 3 + 2, none⟩ = some (.slice A1 x.2.length c1) ∧ Cells8 W A1 x.2
set_option maxRecDepth 100000 in
set_option maxHeartbeats 2000000 in
theorem of1_own (n : Nat) (hn : 2 ≤ n) (Z1 Z2 c p : Nat) (A : Option Addr) (l : List Wr) (hlen : l.length ≤ 3518437208883) (w : World) {Kp : World → World → Prop} (hKb : ∀ W W' : World, Below W.heap.size W W' → Kp W W') (hKt : ∀ {X Y Z : World}, Kp X Y → Kp Y Z → Kp X Z) (hc : ∀ W, Kp w W → OfAt W Z1 Z2 c p A l) :
    SeqOwn Fence.wide n Try.prog 70 #[.pointer (some ⟨Z1, 0, none⟩), .pointer (some ⟨Z2, 0, none⟩)] encT Kp (fun x _ => x ∈ ofP l p) (fun xs => xs = ofP l p) (fun pre => ∃ k, k ≤ l.length ∧ pre = ofP (l.take k) p) (ofP l p).length w := by
  intro lb J Jx W hW hJ hJx hY h0
  obtain ⟨len, hl⟩ : ∃ len, len = l.length := ⟨_, rfl⟩
  have HL := Lib.hid hl
  have HC := Lib.hid hc
  have HY := Lib.hid hY
  have HJ := Lib.hid hJ
  have hW0 : Kp w W := hKb _ _ hW
  have HKb := Lib.hid hKb
  have HKt : Hid (∀ {X Y Z : World}, Kp X Y → Kp Y Z → Kp X Z) := hKt
  rw [← hl] at hlen ⊢
  have hz0 : W.cell? ⟨Z1, 0, none⟩ = some (.slice A len c) := by rw [hl]; exact (hc W hW0).z1
  clear hc hY hl hJ hJx hW hKb hKt
  refine callsIn_of_wp Try.func70 rfl trivial ?_ rfl
  simp only [Try.ntmps70, List.size_toArray, List.length_cons, List.length_nil, Nat.reduceAdd, Nat.reduceSub, Array.replicate_succ, Array.replicate_zero, List.push_toArray, List.append_toArray, List.nil_append, List.cons_append]
  gi_wp2
  gi_loopw [5, 8] (fun bp i wr => ∃ k : Nat, k ≤ len ∧ i = .int .i64 k ∧ J (ofP (l.take k) p) wr ∧ Kp w wr) (fun _ i _ => len - (intOf i).toNat)
  case atStart => exact ⟨0, by omega, rfl, h0, hW0⟩
  case round =>
    clear hz0 h0 hW0
    obtain ⟨k, hk, rfl, hjs, hkp⟩ := hrel
    by_cases hkn : k < len
    · obtain ⟨⟨q, d⟩, hx⟩ : ∃ x, l[k]? = some x := ⟨_, List.getElem?_eq_getElem (by rw [← HL.out]; exact hkn)⟩
      have hof := HC.out wr hkp
      obtain ⟨g, A1, c1, rfl, q0, q1, q2, hd⟩ := hof.at0 k (q, d) hx
      have hz2 := hof.z2
      have HSt := Lib.hid (ofP_take l p k q d hx)
      obtain ⟨wz, hwz⟩ : ∃ wz, wz = wr.alloc (.cells #[.int .i64 0, .int .i64 q, .slice A1 d.length c1] 30) := ⟨_, rfl⟩
      have HBz : Hid (Below wr.heap.size wr wz) := by unfold Hid; rw [hwz]; (repeat (first | (with_reducible refine Below.drew ?_) | (with_reducible refine below_drewN0 ?_ _) | ((with_reducible refine Below.setCell ?_ ?_ _); rotate_left; focus (first | omega | (simp; done) | (simp; omega) | (simp at *; omega))) | ((with_reducible refine Below.alloc ?_ ?_ _); rotate_left; focus (first | omega | (simp; done) | (simp; omega) | (simp at *; omega))) | (with_reducible exact Below.refl _ _)))
      have HRz : Hid (Row wz wr.heap.size 30 #[.int .i64 0, .int .i64 q, .slice A1 d.length c1]) := by unfold Hid; rw [hwz]; exact Row.fresh _ _ _
      have HJz : Hid (J (ofP (l.take k) p) wz) := HJ.out _ wr wz none hjs ⟨HBz.out.os, HBz.out.tape, HBz.out.output, HBz.out.size, fun k hk _ => HBz.out.block k hk⟩ (fun r e => by cases e)
      have HKz : Hid (Kp w wz) := HKt.out hkp (HKb.out _ _ HBz.out)
      have z2 : wz.cell? ⟨Z2, 0, none⟩ = some (.int .i64 p) := keep_below HBz.out _ _ hz2
      have kc : (convert 22 9 (.slice A1 d.length c1)).run Try.prog wz = .ok (.string (textOf d)) wz := conv_text (hd.keep (keep_below HBz.out))
      have r1 := HRz.out.cell 1
      have r2 := HRz.out.cell 2
      simp only [List.getElem?_toArray, List.getElem?_cons_zero, List.getElem?_cons_succ] at r1 r2
      have HMm : Hid (q = p → d ∈ ofP l p) := fun e => mem_ofP.2 (by rw [← e]; exact List.mem_of_getElem? hx)
      have HPl : Hid (q = p → (ofP (l.take k) p).length < (ofP l p).length) := fun e => by
        have h1 := HSt.out
        rw [if_pos e] at h1
        have h2 := (List.Sublist.filterMap (fun x : Wr => if x.1 = p then some x.2 else none) (List.take_sublist (k + 1) l)).length_le
        have h3 : (ofP (l.take (k + 1)) p).length ≤ (ofP l p).length := h2
        rw [h1, List.length_append] at h3
        simp at h3; omega
      clear hjs hkp hof hd hx hz2
      generalize d.length = dl at *
      by_cases hqp : q = p
      · rw [if_pos hqp] at HSt
        subst hqp
        obtain ⟨fn, tmps, assign, body, hy, hR⟩ := HY.out _ d wz (HMm.out rfl) HJz.out (HPl.out rfl)
        rw [← HSt.out] at hR
        try dsimp only [encT] at hy
        have HR := Lib.hid hR
        clear hR r1 r2
        subst hwz
        gi_wp2
        refine ⟨fun _ => by omega, HR.out.mono ?_⟩
        rintro e W3 (⟨rfl, hJ3, hk3, _⟩ | ⟨rfl, hJx3, _, _⟩)
        · have HJ3 := Lib.hid hJ3
          have HK3 := Lib.hid hk3
          clear hJ3 hk3 hy z2 kc
          gi_wp2
          go_roundw
          case rel => exact ⟨k + 1, by omega, by go_num, HJ3.out, HKt.out HKz.out HK3.out⟩
          case measure => simp [intOf]; omega
        · have HX := Lib.hid hJx3
          clear hJx3 hy z2 kc
          gi_wp2
          refine bodyPost_ret (results_none rfl _ _ _) rfl ?_
          exact ⟨⟨_, rfl⟩, .inr ⟨_, ⟨k + 1, by omega, rfl⟩, HX.out⟩⟩
      · have hqi : ¬ (q : Int) = p := by omega
        rw [if_neg hqp, List.append_nil] at HSt
        clear hqp kc r1 r2
        subst hwz
        gi_wp2
        clear z2
        go_roundw
        case rel => exact ⟨k + 1, by omega, by go_num, by rw [HSt.out]; exact HJz.out, HKz.out⟩
        case measure => simp [intOf]; omega
    · obtain rfl : k = len := by omega
      have hall : l.take k = l := by rw [HL.out]; exact List.take_length
      rw [hall] at hjs
      have HJs := Lib.hid hjs
      clear HY HJ hjs
      gi_wp2
      go_end0
      exact ⟨⟨_, rfl⟩, .inl ⟨_, rfl, HJs.out⟩⟩
end Go.Proofs.Ytomigaldomiefaa

namespace Go.Proofs.Ytomigaldomiefaa
open Go.RowKit Go.Shelf
attribute [local go_sem] Oper.semAt_some
attribute [local simp, local go_sem] wide_fn
set_option linter.unusedVariables false
set_option linter.unusedSimpArgs false

theorem made_at (v : Value) (n j : Nat) (h : j < n) : (madeCells #[v] n)[j]? = some v := by
  simp [madeCells, h, Nat.mod_one]
theorem zeros_cells (w : World) (n : Nat) : Cells8 (w.alloc (.cells (madeCells #[.int .u8 0] n) 5)) (some ⟨w.heap.size, 0, none⟩) (List.replicate n 0) := fun i hi => by
  have hi' : i < n := by simpa using hi
  refine ⟨w.heap.size, 0, rfl, ?_⟩
  rw [Nat.zero_add, (Row.fresh w 5 _).cell, made_at _ _ _ hi']
  simp [List.getD, hi']
theorem of_any (A : Option Addr) (n c : Nat) (p : Int) (w : World) : Calls Try.prog 58 #[.slice A n c, .int .i64 p] w fun e w' => e = .returned (.func (.func 70) #[] #[.pointer (some ⟨w.heap.size, 0, none⟩), .pointer (some ⟨w.heap.size + 1, 0, none⟩)]) ∧ w' = (w.alloc (.cells #[.slice A n c] 23)).alloc (.cells #[.int .i64 p] 3) := by
  go_enter Try.func58, Try.ntmps58
  go_wp2
  go_ret
  exact ⟨rfl, rfl⟩
theorem level_any (C k p : Nat) (w : World) : Calls Try.prog 42 #[.pointer (some ⟨C, 0, none⟩), .int .i64 k, .int .i64 p] w fun e w' => ∃ Z, e = .returned (.func (.func 56) #[] #[.pointer (some ⟨Z, 0, none⟩), .pointer (some ⟨Z + 2, 0, none⟩), .pointer (some ⟨Z + 1, 0, none⟩)]) ∧ Z = w.heap.size ∧ Row w' Z 25 #[.pointer (some ⟨C, 0, none⟩)] ∧ Row w' (Z + 1) 3 #[.int .i64 k] ∧ Row w' (Z + 2) 3 #[.int .i64 p] ∧ Below w.heap.size w w' := by
  go_enter Try.func42, Try.ntmps42
  go_wp2
  go_ret
  refine ⟨w.heap.size, rfl, rfl, ?_, ?_, ?_, by (repeat (first | (with_reducible refine Below.drew ?_) | (with_reducible refine below_drewN0 ?_ _) | ((with_reducible refine Below.setCell ?_ ?_ _); rotate_left; focus (first | omega | (simp; done) | (simp; omega) | (simp at *; omega))) | ((with_reducible refine Below.alloc ?_ ?_ _); rotate_left; focus (first | omega | (simp; done) | (simp; omega) | (simp at *; omega))) | (with_reducible exact Below.refl _ _)))⟩
  · exact ((Row.fresh w _ _).alloc _).alloc _
  · have := Row.fresh (w.alloc (.cells #[.pointer (some ⟨C, 0, none⟩)] 25)) 3 #[.int .i64 k]
    rw [World.size_alloc] at this
    exact this.alloc _
  · have := Row.fresh ((w.alloc (.cells #[.pointer (some ⟨C, 0, none⟩)] 25)).alloc (.cells #[.int .i64 k] 3)) 3 #[.int .i64 p]
    rw [World.size_alloc, World.size_alloc] at this
    exact this
theorem nought_any (C sz : Nat) (hsz : sz ≤ 65536) (w : World) (hc : w.cell? ⟨C, 1, none⟩ = some (.int .i64 sz)) : Calls Try.prog 57 #[.pointer (some ⟨C, 0, none⟩)] w fun e w' => e = .returned (.string (textOf (zs sz))) ∧ w' = w.alloc (.cells (madeCells #[.int .u8 0] sz) 5) := by
  obtain ⟨i1, ji, jz0, jz1, jz2⟩ := info_parts u8_info
  have hb1 : Hid (i1.bytes * sz ≤ 281474976710656) := by unfold Hid; rw [jz2]; omega
  have hmk : (Instr.makeSlice 22 (.int .i64 sz) (.int .i64 sz)).run Try.prog w = .ok (.slice (some ⟨w.heap.size, 0, none⟩) sz sz) (w.alloc (.cells (madeCells #[.int .u8 0] sz) 5)) := run_make_row (P := Try.prog) 22 5 i1 _ Try.underlying22 ji jz0 jz1 rfl .i64 .i64 sz hb1.out (by omega) w
  have hcz : (convert 22 9 (.slice (some ⟨w.heap.size, 0, none⟩) sz sz)).run Try.prog (w.alloc (.cells (madeCells #[.int .u8 0] sz) 5)) = .ok (.string (textOf (zs sz))) (w.alloc (.cells (madeCells #[.int .u8 0] sz) 5)) := by
    have := conv_text (c := sz) (zeros_cells w sz)
    rw [List.length_replicate] at this
    exact this
  generalize textOf (zs sz) = tz at *
  clear ji jz0 jz1 jz2 hb1
  go_enter Try.func57, Try.ntmps57
  go_wp2
  go_ret
  exact ⟨rfl, rfl⟩
end Go.Proofs.Ytomigaldomiefaa
