/- What follows is laid together from several texts of mine, in their order. -/
import Derived.Test.YthjomnaejhehoaaGreatDoorQ16
import Derived.Test.YthjomnaejhehoaaGreatDoorQ17
import Derived.RangeFuncBox

namespace Go.Proofs.YthjomnaejhehoaaGreatDoor
open Go.RowKit Go.Shelf Go.MapKept Go.ChangeMaps Go.Sort
attribute [local go_sem] Oper.semAt_some
theorem wide_fn (f : FuncId) : Fence.wide.fn f := trivial
attribute [local simp, local go_sem] wide_fn
set_option linter.unusedVariables false
set_option linter.unusedSimpArgs false

/-- The blocks of cells below N are as they were. -/
def KpL (N : Nat) (W W' : World) : Prop := ∀ (k : Nat) (o : Obj), k < N → W.heap[k]? = some o → o.isCells = true → W'.heap[k]? = some o
theorem KpL.refl (N : Nat) (W : World) : KpL N W W := fun _ _ _ h _ => h
theorem KpL.trans {N : Nat} {A B C : World} (h : KpL N A B) (h' : KpL N B C) : KpL N A C := fun k o hk h0 hc => h' k o hk (h k o hk h0 hc) hc
theorem KpL.of_below {N : Nat} {W W' : World} (h : Below W.heap.size W W') : KpL N W W' := fun k o hk h0 hc => (h.block k (Array.getElem?_eq_some_iff.1 h0).1).trans h0
theorem KpL.low {N : Nat} {W W' : World} (h : Below N W W') : KpL N W W' := fun k o hk h0 hc => (h.block k hk).trans h0
theorem KpL.put {N l : Nat} {W : World} {o' : Obj} {r : Loop} (hl : W.heap[l]? = some (.loop r)) : KpL N W (W.putObj l o') := fun k o hk h0 hc =>
  (World.putObj_heap_other (fun e => by subst e; rw [hl] at h0; injection h0 with h0; subst h0; cases hc)).trans h0
theorem KpL.cell {N : Nat} {W W' : World} (h : KpL N W W') {p : Addr} {v : Value} (hc : W.cell? p = some v) (hp : p.block < N) : W'.cell? p = some v := by
  have hlt := World.block_lt_of_cell? W p hc
  cases ho : W.heap[p.block]? with
  | none => rw [Array.getElem?_eq_getElem hlt] at ho; cases ho
  | some o =>
    have hcells : o.isCells = true := by
      cases o <;> first | rfl | (simp [World.cell?, ho] at hc)
    have h1 := h p.block o hp ho hcells
    rw [World.cell?_of_block (w := W) (h1.trans ho.symm)]
    exact hc
abbrev encI (x : Int) : Array Value := #[.int .i64 x]
set_option maxRecDepth 100000 in
set_option maxHeartbeats 2000000 in
theorem vals1_own (n : Nat) (hn : 2 ≤ n) (Z c : Nat) (A : Option Addr) (vs : List Int) (hlen : vs.length ≤ 100000) (w : World) {Kp : World → World → Prop} (hKb : ∀ W W' : World, Below W.heap.size W W' → Kp W W') (hKt : ∀ {X Y Z : World}, Kp X Y → Kp Y Z → Kp X Z) (hc : ∀ W, Kp w W → W.cell? ⟨Z, 0, none⟩ = some (.slice A vs.length c) ∧ CellsI W A vs) :
    SeqOwn Fence.wide n Tryz.prog 71 #[.pointer (some ⟨Z, 0, none⟩)] encI Kp (fun x _ => x ∈ vs) (fun xs => xs = vs) (fun pre => ∃ k, k ≤ vs.length ∧ pre = vs.take k) vs.length w := by
  intro lb J Jx W hW hJ hJx hY h0
  obtain ⟨len, hl⟩ : ∃ len, len = vs.length := ⟨_, rfl⟩
  have HL := Lib.hid hl
  have HC := Lib.hid hc
  have HY := Lib.hid hY
  have HJ := Lib.hid hJ
  have hW0 : Kp w W := hKb _ _ hW
  have HKt : Hid (∀ {X Y Z : World}, Kp X Y → Kp Y Z → Kp X Z) := hKt
  rw [← hl] at hlen ⊢
  have hz0 : W.cell? ⟨Z, 0, none⟩ = some (.slice A len c) := by rw [hl]; exact (hc W hW0).1
  clear hc hY hl hJ hJx hW hKb hKt
  refine callsIn_of_wp Tryz.func71 rfl trivial ?_ rfl
  simp only [Tryz.ntmps71, List.size_toArray, List.length_cons, List.length_nil, Nat.reduceAdd, Nat.reduceSub, Array.replicate_succ, Array.replicate_zero, List.push_toArray, List.append_toArray, List.nil_append, List.cons_append]
  gi_wp2
  gi_loopw [4, 7] (fun bp i wr => ∃ k : Nat, k ≤ len ∧ i = .int .i64 k ∧ J (vs.take k) wr ∧ Kp w wr) (fun _ i _ => len - (intOf i).toNat)
  case atStart => exact ⟨0, by omega, rfl, h0, hW0⟩
  case round =>
    clear hz0 h0 hW0
    obtain ⟨k, hk, rfl, hjs, hkp⟩ := hrel
    by_cases hkn : k < len
    · have hx : vs[k]? = some (vs.getD k 0) := by rw [List.getD_eq_getElem?_getD, List.getElem?_eq_getElem (by rw [← HL.out]; exact hkn)]; rfl
      obtain ⟨bb, off, rfl, q0⟩ := (HC.out wr hkp).2 k (by rw [← HL.out]; exact hkn)
      have HSt : Hid (vs.take (k + 1) = vs.take k ++ [vs.getD k 0]) := by unfold Hid; rw [List.take_add_one, hx]; rfl
      have HPl : Hid ((vs.take k).length < vs.length) := by unfold Hid; rw [List.length_take, ← HL.out]; omega
      have HJs := Lib.hid hjs
      have HKp := Lib.hid hkp
      obtain ⟨fn, tmps, assign, body, hy, hR⟩ := HY.out _ (vs.getD k 0) wr (List.mem_of_getElem? hx) HJs.out HPl.out
      rw [← HSt.out] at hR
      try dsimp only [encI] at hy
      have HR := Lib.hid hR
      clear hR hjs hkp hx
      generalize vs.getD k 0 = d at *
      gi_wp2
      refine ⟨fun _ => by omega, HR.out.mono ?_⟩
      rintro e W3 (⟨rfl, hJ3, hk3, _⟩ | ⟨rfl, hJx3, _, _⟩)
      · have HJ3 := Lib.hid hJ3
        have HK3 := Lib.hid hk3
        clear hJ3 hk3 hy q0
        gi_wp2
        go_roundw
        case rel => exact ⟨k + 1, by omega, by go_num, HJ3.out, HKt.out HKp.out HK3.out⟩
        case measure => simp [intOf]; omega
      · have HX := Lib.hid hJx3
        clear hJx3 hy q0
        gi_wp2
        refine bodyPost_ret (results_none rfl _ _ _) rfl ?_
        exact ⟨⟨_, rfl⟩, .inr ⟨_, ⟨k + 1, by omega, rfl⟩, HX.out⟩⟩
    · obtain rfl : k = len := by omega
      have hall : vs.take k = vs := by rw [HL.out]; exact List.take_length
      rw [hall] at hjs
      have HJs := Lib.hid hjs
      clear HY HJ hjs
      gi_wp2
      go_end0
      exact ⟨⟨_, rfl⟩, .inl ⟨_, rfl, HJs.out⟩⟩
theorem ival_any (A : Option Addr) (m c : Nat) (W : World) : Calls Tryz.prog 57 #[.slice A m c] W fun e w' => e = .returned (.func (.func 71) #[] #[.pointer (some ⟨W.heap.size, 0, none⟩)]) ∧ w' = W.alloc (.cells #[.slice A m c] 26) := by
  go_enter Tryz.func57, Tryz.ntmps57
  go_wp2
  go_ret
  exact ⟨rfl, rfl⟩
def intsI (l : List Int) : List Value := l.map fun x => Value.int .i64 x
theorem intsI_snoc (l : List Int) (x : Int) : intsI (l ++ [x]) = intsI l ++ [.int .i64 x] := by simp [intsI]
/-- AppendSeq of such an iterator. -/
def AppI (w : World) (R : Nat) (pre : List Int) (V : World) : Prop := ∃ v, Row V R 26 #[v] ∧ V.ownsRow w.heap.size 3 1 v pre.length (intsI pre) ∧ Below w.heap.size w V
theorem appI_own (w : World) (R B : Nat) (hB : w.heap.size ≤ B) : OwnFrom B (AppI w R) := fun s W W' row ⟨v, h2, h3, h4⟩ hg hr =>
  ⟨v, Row.kept h2 hg (fun r e => (hr r e).2), h3.kept hg (by
    rcases h3.2 with ⟨e1, _⟩ | ⟨g, cap, cur, e1, _, h5, _⟩
    · rw [e1]; simp [Value.ownBlock]
    · right; rw [e1]
      intro e
      obtain ⟨_, o, ho, hn⟩ := hr g (by simpa [Value.ownBlock] using e.symm)
      rw [h5] at ho; injection ho with ho; subst ho; cases hn), h4.grown hg h4.size (fun r e => by have := (hr r e).1; omega)⟩
set_option maxRecDepth 100000 in
set_option maxHeartbeats 4000000 in
theorem AppendSeq_any (Z c : Nat) (A : Option Addr) (vs : List Int) (hlen : vs.length ≤ 100000) (w : World) (hz : w.cell? ⟨Z, 0, none⟩ = some (.slice A vs.length c)) (hc : CellsI w A vs) :
    Calls Tryz.prog 81 #[.slice none 0 0, .func (.func 71) #[] #[.pointer (some ⟨Z, 0, none⟩)]] w fun e w' => ∃ v, e = .returned v ∧ w'.ownsRow w.heap.size 3 1 v vs.length (intsI vs) ∧ Below w.heap.size w w' := by
  obtain ⟨i0, hi, hz0, hz1, hz2⟩ := info_parts int_info
  obtain ⟨w1, hw1⟩ : ∃ w1, w1 = w.alloc (.cells #[.slice none 0 0] 26) := ⟨_, rfl⟩
  obtain ⟨R, hR⟩ : ∃ R, R = w.heap.size := ⟨_, rfl⟩
  have HRe := Lib.hid hR
  have HB1 : Hid (Below w.heap.size w w1) := by unfold Hid; rw [hw1]; (repeat (first | (with_reducible refine Below.drew ?_) | (with_reducible refine below_drewN0 ?_ _) | ((with_reducible refine Below.setCell ?_ ?_ _); rotate_left; focus (first | omega | (simp; done) | (simp; omega) | (simp at *; omega))) | ((with_reducible refine Below.alloc ?_ ?_ _); rotate_left; focus (first | omega | (simp; done) | (simp; omega) | (simp at *; omega))) | (with_reducible exact Below.refl _ _)))
  have HR1 : Hid (Row w1 R 26 #[.slice none 0 0]) := by unfold Hid; rw [hw1, hR]; exact Row.fresh _ _ _
  have HSz : Hid (w1.heap.size = w.heap.size + 1) := by unfold Hid; rw [hw1]; simp
  have hcw : ∀ W, KpL w.heap.size w1 W → W.cell? ⟨Z, 0, none⟩ = some (.slice A vs.length c) ∧ CellsI W A vs := fun W hK => by
    have hk := keep_below HB1.out
    refine ⟨hK.cell (hk _ _ hz) (World.block_lt_of_cell? w ⟨Z, 0, none⟩ hz), fun i hi' => ?_⟩
    obtain ⟨b, off, e, hcc⟩ := hc i hi'
    exact ⟨b, off, e, hK.cell (hk _ _ hcc) (World.block_lt_of_cell? w ⟨b, off + i, none⟩ hcc)⟩
  have HSeq := Lib.hid (vals1_own 8 (by omega) Z c A vs hlen w1 (Kp := KpL w.heap.size) (fun _ _ h => KpL.of_below h) (fun h h' => KpL.trans h h') hcw)
  have HW1 := Lib.hid hw1
  have HLen := Lib.hid hlen
  clear hcw hw1 hR hz hc hlen
  refine (callsIn_wide (n := 9)).1 (callsIn_of_wp_marks Tryz.func81 rfl trivial ?_ rfl)
  simp only [Tryz.ntmps81, List.size_toArray, List.length_cons, List.length_nil, Nat.reduceAdd, Nat.reduceSub, Array.replicate_succ, Array.replicate_zero, List.push_toArray, List.append_toArray, List.nil_append, List.cons_append]
  refine wpIn_wide.2 ?_
  go_wp2_with fail
  rw [← HW1.out, ← HRe.out]
  refine (wpIn_wide (n := 9)).1 ?_
  apply wpIn_range_ownA rfl (by omega) (gf := 71) (lb := #[.pointer (some ⟨Z, 0, none⟩)]) rfl trivial (enters_of Tryz.func71 (by kernel_rfl) rfl)
    (hseq := HSeq.out)
    (hKr := fun V => KpL.refl _ _) (hKt := fun h h' => KpL.trans h h') (hKb := fun V l r o' _ hl => KpL.put hl) (hb0 := Below.refl _ _) (hps := fun _ => rfl)
    (I := AppI w R) (Ix := fun _ _ _ => False)
  case hI => exact appI_own w R _ HB1.out.size
  case hIx => exact fun _ _ _ _ _ hs _ _ => hs
  case h0 => exact ⟨_, HR1.out, World.ownsRow_nil _ _ _ _, HB1.out⟩
  case hassign =>
    intro l pre x V hi _ _
    gi_wp2
    exact ⟨rfl, trivial⟩
  case hbody =>
    rintro l pre x V ⟨v, h1, h2, h3⟩ hxm hpl
    have hbx : Boxed V R 26 v := h1
    have c0 := hbx.cell
    have hRw : w.heap.size ≤ R := by rw [HRe.out]; exact Nat.le_refl _
    have hsz := h3.size
    have hle := HLen.out
    have hlp : (pre ++ [x]).length = pre.length + 1 := by simp
    have HPl := Lib.hid hlp
    have HI3 := Lib.hid h3
    clear h1 hxm hlp h3
    gi_wp2_with (gi_at_builtin; refine wpListIn_append_own _ rfl _ _ 26 rfl w.heap.size 3 i0 (.int .i64 0) 1 8 Tryz.underlying26 hi hz0 hz1 hz2 rfl (by decide) _ _ _ rfl (h2.alloc _) ⟨V.heap.size, 0, none⟩ 1 1 [.int .i64 x] rfl rfl (cell_one_new _ _ _) (by simp [Value.oneCell']) (by unfold maxLen; omega) (by omega) (by simp; omega) ?_; intro v' w3 hown' hgrow _; obtain ⟨g', cap', rfl⟩ := ownsRow_succ hown'; obtain ⟨hv1, hv2, hr2, hk2, hb2⟩ := hbx.appended (by decide) h2 hsz hRw hown' hgrow; have hc1 := hv1.cell; have hf1 := hv1.frozen)
    exact ⟨hk2.from _, KpL.low hb2, _, hv2, by rw [HPl.out, intsI_snoc]; exact hr2, HI3.out.trans hb2⟩
  case hstop =>
    rintro D c pre V _ _ h _
    exact h.elim
  case hdone =>
    rintro D ys V hD rfl ⟨v, h1, h2, h3⟩ hK
    have c0 := h1.cell 0
    simp only [List.getElem?_toArray, List.getElem?_cons_zero] at c0
    have HP := Lib.hid (And.intro h2 h3)
    have HK : Hid (MarksIn w.heap.size V [{ target := .collected D, args := #[] }]) := ⟨⟨D, rfl, by have := HSz.out; omega, hK, by simp⟩, trivial⟩
    clear h1 h2 h3 hK
    go_wp2
    refine leaves_marks (B := w.heap.size) (Rb := fun V => V.ownsRow w.heap.size 3 1 v ys.length (intsI ys) ∧ Below w.heap.size w V) ?_ ?_ _ _ HK.out HP.out
    · intro V hV
      refine ⟨_, results_tmp rfl _ _ _, ?_⟩
      exact ⟨_, rfl, hV⟩
    · intro V D hD hV h0
      exact ⟨ownsRow_putObj hV.1 _ h0 rfl, hV.2.grown (grownBy_putObj' _ _ _) hV.2.size (fun r e => by cases e; exact hD)⟩
end Go.Proofs.YthjomnaejhehoaaGreatDoor
