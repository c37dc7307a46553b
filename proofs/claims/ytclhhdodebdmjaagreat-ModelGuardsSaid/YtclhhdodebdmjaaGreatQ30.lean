/- What follows is laid together from several texts of mine, in their order. -/
import Derived.Test.YtclhhdodebdmjaaGreatQ29
import Derived.Laws.BytesString

namespace Go.Proofs.YtclhhdodebdmjaaGreat
open Go.RowKit Go.MapKept Go.ChangeMaps
set_option linter.unusedVariables false
set_option linter.unusedSimpArgs false
set_option maxRecDepth 100000

/-- The text of some bytes. -/
def txt (l : List Nat) : ByteArray := (l.map fun (x : Nat) => (x : Int)).foldl (fun r n => r.push (UInt8.ofNat n.toNat)) ByteArray.empty
theorem own_at1 {w : World} {B : Nat} {t : TypeId} {n c : Nat} {A : Option Addr} {xs : List Value} (h : w.ownsRow B t 1 (.slice A n c) n xs) (j : Nat) (hj : j < n) : ∃ g u, A = some ⟨g, 0, none⟩ ∧ xs[j]? = some u ∧ w.cell? ⟨g, j, none⟩ = some u ∧ n ≤ c := by
  have hl : xs.length = n := by have := h.1; omega
  obtain ⟨u, hu⟩ : ∃ u, xs[j]? = some u := ⟨_, List.getElem?_eq_getElem (by omega)⟩
  have hs := Src.of_own h
  obtain ⟨ad, e, hc⟩ := hs.lies (by omega)
  rcases h.2 with ⟨hz, _⟩ | ⟨g, cap, cur, hz, _, _, hle, _⟩
  · injection hz with h1 h2; rw [h1] at e; cases e
  · injection hz with h1 h2 h3
    rw [h1] at e
    injection e with e
    subst e
    have h0 := hc j u hu
    refine ⟨g, u, h1, hu, ?_, by omega⟩
    cases j with
    | zero => exact h0
    | succ j => simpa [Addr.add] using h0
theorem conv_own {w : World} {B n : Nat} {A : Option Addr} {l : List Nat} (h : w.ownsRow B 5 1 (.slice A l.length n) l.length (intsV .u8 l)) : (convert 53 9 (.slice A l.length n)).run Tryz.prog w = .ok (.string (txt l)) w := by
  rw [run_convert_bytes_string w _ _ 5 _ _ _ Tryz.underlying53 Tryz.underlying5 Tryz.underlying9]
  cases A with
  | none =>
    obtain rfl : l = [] := by
      cases l with
      | nil => rfl
      | cons x r => obtain ⟨g, _, e, _⟩ := own_at1 h 0 (by simp); cases e
    simp [Conv.bytesToString, txt]
  | some ad =>
    have hs := Src.of_own h
    refine run_bytesToString w _ _ _ _ ?_
    have h2 := run_loadCells_list (P := Tryz.prog) w ad (intsV .u8 l) (fun j v hv => by
      have hj : j < l.length := by
        rcases Nat.lt_or_ge j l.length with h1 | h1
        · exact h1
        · rw [List.getElem?_eq_none (by rw [intsV_length]; exact h1)] at hv; cases hv
      obtain ⟨g, u, e, hu, hc, _⟩ := own_at1 h j hj
      injection e with e; subst e
      rw [hu] at hv
      injection hv with hv
      subst hv
      cases j with
      | zero => exact hc
      | succ j => simpa [Addr.add] using hc)
    rw [intsV_length] at h2
    rw [h2]; congr 1
    simp [intsV]
theorem Same_yes {w : World} {B1 B2 : Nat} {T1 T2 : List Nat} {v1 v2 : Value} {an : An} (h1 : AnIs w B1 T1 v1 an) (h2 : AnIs w B2 T2 v2 an) (hbl : an.bl.length ≤ 1000) : Calls Tryz.prog 24 #[v1, v2] w fun e w' => e = .returned (.bool true) ∧ Below w.heap.size w w' := by
  obtain ⟨k, lo, st, bl⟩ := an
  obtain ⟨lv1, bv1, rfl, ⟨A1, n1, rfl, ho1, _⟩, ⟨A2, c2, us1, rfl, hb1, _, hi1⟩⟩ := h1
  obtain ⟨lv2, bv2, rfl, ⟨A3, n3, rfl, ho2, _⟩, ⟨A4, c4, us2, rfl, hb2, _, hi2⟩⟩ := h2
  simp only at *
  obtain ⟨W, hW⟩ : ∃ W, W = (w.alloc (.cells #[.bool k, .slice A1 lo.length n1, .int .u32 (st : Nat), .slice A2 bl.length c2] 56)).alloc (.cells #[.bool k, .slice A3 lo.length n3, .int .u32 (st : Nat), .slice A4 bl.length c4] 56) := ⟨_, rfl⟩
  have HBW : Hid (Below w.heap.size w W) := by unfold Hid; rw [hW]; (repeat (first | (with_reducible refine Below.drew ?_) | (with_reducible refine below_drewN0 ?_ _) | ((with_reducible refine Below.setCell ?_ ?_ _); rotate_left; focus (first | omega | (simp; done) | (simp; omega) | (simp at *; omega))) | ((with_reducible refine Below.alloc ?_ ?_ _); rotate_left; focus (first | omega | (simp; done) | (simp; omega) | (simp at *; omega))) | (with_reducible exact Below.refl _ _)))
  have R1 : Row W w.heap.size 56 #[.bool k, .slice A1 lo.length n1, .int .u32 (st : Nat), .slice A2 bl.length c2] := by rw [hW]; exact (Row.fresh _ _ _).alloc _
  have R2 : Row W (w.heap.size + 1) 56 #[.bool k, .slice A3 lo.length n3, .int .u32 (st : Nat), .slice A4 bl.length c4] := by
    rw [hW]
    have := Row.fresh (w.alloc (.cells #[.bool k, .slice A1 lo.length n1, .int .u32 (st : Nat), .slice A2 bl.length c2] 56)) 56 #[.bool k, .slice A3 lo.length n3, .int .u32 (st : Nat), .slice A4 bl.length c4]
    simpa using this
  have cv1 := conv_own (own_below ho1 HBW.out)
  have cv2 := conv_own (own_below ho2 HBW.out)
  have HO1 := Lib.hid (own_below hb1 HBW.out)
  have HO2 := Lib.hid (own_below hb2 HBW.out)
  have HI1 : Hid (∀ i, i < bl.length → ∃ u, us1[i]? = some u ∧ BytIs W B1 T1 u (bl.getD i [])) := fun i hi => by obtain ⟨u, h1, h2⟩ := hi1 i hi; exact ⟨u, h1, h2.turns (Turns.of_below HBW.out []) (by simp)⟩
  have HI2 : Hid (∀ i, i < bl.length → ∃ u, us2[i]? = some u ∧ BytIs W B2 T2 u (bl.getD i [])) := fun i hi => by obtain ⟨u, h1, h2⟩ := hi2 i hi; exact ⟨u, h1, h2.turns (Turns.of_below HBW.out []) (by simp)⟩
  have a0 : W.cell? ⟨w.heap.size, 0, none⟩ = some (.bool k) := by rw [R1.cell]; rfl
  have a1 : W.cell? ⟨w.heap.size, 1, none⟩ = some (.slice A1 lo.length n1) := by rw [R1.cell]; rfl
  have a2 : W.cell? ⟨w.heap.size, 2, none⟩ = some (.int .u32 (st : Nat)) := by rw [R1.cell]; rfl
  have a3 : W.cell? ⟨w.heap.size, 3, none⟩ = some (.slice A2 bl.length c2) := by rw [R1.cell]; rfl
  have b0 : W.cell? ⟨w.heap.size + 1, 0, none⟩ = some (.bool k) := by rw [R2.cell]; rfl
  have b1 : W.cell? ⟨w.heap.size + 1, 1, none⟩ = some (.slice A3 lo.length n3) := by rw [R2.cell]; rfl
  have b2 : W.cell? ⟨w.heap.size + 1, 2, none⟩ = some (.int .u32 (st : Nat)) := by rw [R2.cell]; rfl
  have b3 : W.cell? ⟨w.heap.size + 1, 3, none⟩ = some (.slice A4 bl.length c4) := by rw [R2.cell]; rfl
  have HL : Hid (bl.length ≤ 1000) := hbl
  have HR1 := Lib.hid R1
  have HR2 := Lib.hid R2
  clear ho1 ho2 hb1 hb2 hi1 hi2 R1 R2 hbl
  generalize txt lo = S at *
  generalize lo.length = ln at *
  obtain ⟨m, hm⟩ : ∃ m, m = bl.length := ⟨_, rfl⟩
  rw [← hm] at hW HO1 HO2 HI1 HI2 a3 b3 HL HR1 HR2 ⊢
  have hml : m ≤ 1000 := HL.out
  clear hm
  go_enter Tryz.func24, Tryz.ntmps24
  go_upto_region 1 with fail
  rw [← hW]
  clear hW
  go_wp2
  go_loopw [5] (fun i wr => ∃ k q : Nat, k ≤ m ∧ i = .int .i64 k ∧ wr = W.drewN q) (fun i _ => m - (intOf i).toNat)
  case atStart => exact ⟨0, 0, by omega, rfl, rfl⟩
  case round =>
    obtain ⟨j, q, hj, rfl, rfl⟩ := hrel
    clear cv1 cv2
    by_cases hlt : j < m
    · obtain ⟨u1, hu1, A5, n5, rfl, ho5, _⟩ := HI1.out j hlt
      obtain ⟨u2, hu2, A6, n6, rfl, ho6, _⟩ := HI2.out j hlt
      obtain ⟨g1, v1, rfl, hv1, hc1, hx1⟩ := own_at1 HO1.out j hlt
      obtain ⟨g2, v2, rfl, hv2, hc2, hx2⟩ := own_at1 HO2.out j hlt
      rw [hu1] at hv1; injection hv1 with hv1; subst hv1
      rw [hu2] at hv2; injection hv2 with hv2; subst hv2
      have d1 : ∀ q, (convert 53 9 (.slice A5 (bl.getD j []).length n5)).run Tryz.prog (W.drewN q) = .ok (.string (txt (bl.getD j []))) (W.drewN q) := fun q => conv_own (own_below ho5 (below_drewN0 (Below.refl _ _) q))
      have d2 : ∀ q, (convert 53 9 (.slice A6 (bl.getD j []).length n6)).run Tryz.prog (W.drewN q) = .ok (.string (txt (bl.getD j []))) (W.drewN q) := fun q => conv_own (own_below ho6 (below_drewN0 (Below.refl _ _) q))
      clear hu1 hu2 ho5 ho6
      generalize txt (bl.getD j []) = S2 at *
      generalize (bl.getD j []).length = n7 at *
      go_wp2
      go_quiet (fail)
      go_wp2
      go_roundw
      case rel => exact ⟨j + 1, q + nq, by omega, by go_num, by simp⟩
      case measure => simp [intOf]; omega
    · obtain rfl : j = m := by omega
      go_wp2
      go_ret
      exact ⟨rfl, below_drewN0 HBW.out q⟩
end Go.Proofs.YtclhhdodebdmjaaGreat

namespace Go.Proofs.YtclhhdodebdmjaaGreat
open Go.RowKit Go.MapKept Go.ChangeMaps
set_option linter.unusedVariables false
set_option linter.unusedSimpArgs false
set_option maxRecDepth 100000

/-- Both cards in memory, apart; what was there ahead stands. -/
structure Two (w0 w : World) (b : Bn) (T F : List Nat) (r : Rn) (U G : List Nat) (c : Cf) (S : Ab) : Prop where
  m : AbIs w b T F c S
  r : RcIs w r U G c S
  d1 : ∀ k ∈ T, k ∉ U ∧ k ∉ G
  d2 : ∀ k ∈ F, k ∉ U
  lo : (∀ k ∈ T, w0.heap.size ≤ k) ∧ ∀ k ∈ U, w0.heap.size ≤ k
  bel : Below w0.heap.size w0 w
/-- An act among the arguments. -/
structure Act where
  blk : Bool
  idx : Int
  arg : Nat
  mine : Bool
  bad : Bool
  fill : Nat
  data : List Nat
  front : List Nat
  up : Bool
def argN (a : Act) (addr : Nat) : Nat := if a.mine then a.arg % 65536 ||| addr * 65536 else a.arg
def actCells (a : Act) (dv fv : Value) : Array Value := #[.bool a.blk, .int .i64 a.idx, .int .u32 (a.arg : Nat), .bool a.mine, .bool a.bad, .int .u8 (a.fill : Nat), dv, fv, .bool a.up]
theorem Argument_any (a : Act) (A1 : Option Addr) (n1 c1 : Nat) (A2 : Option Addr) (n2 c2 : Nat) (addr : Nat) (ha : addr < 65536) (h : a.arg < 4294967296) (w : World) : Calls Tryz.prog 63 #[.agg (actCells a (.slice A1 n1 c1) (.slice A2 n2 c2)), .int .u16 (addr : Nat)] w fun e w' => e = .returned (.int .u32 (argN a addr : Nat)) ∧ Below w.heap.size w w' := by
  obtain ⟨blk, idx, arg, mine, bad, fill, data, front, up⟩ := a
  simp only [actCells, argN] at *
  have HB : Hid (Below w.heap.size w (w.alloc (.cells #[.bool blk, .int .i64 idx, .int .u32 (arg : Nat), .bool mine, .bool bad, .int .u8 (fill : Nat), .slice A1 n1 c1, .slice A2 n2 c2, .bool up] 76))) := by unfold Hid; (repeat (first | (with_reducible refine Below.drew ?_) | (with_reducible refine below_drewN0 ?_ _) | ((with_reducible refine Below.setCell ?_ ?_ _); rotate_left; focus (first | omega | (simp; done) | (simp; omega) | (simp at *; omega))) | ((with_reducible refine Below.alloc ?_ ?_ _); rotate_left; focus (first | omega | (simp; done) | (simp; omega) | (simp at *; omega))) | (with_reducible exact Below.refl _ _)))
  cases mine with
  | false =>
    go_enter Tryz.func63, Tryz.ntmps63
    go_wp2
    go_ret
    exact ⟨rfl, HB.out⟩
  | true =>
    have e1 : bits .and .u32 (arg : Int) 65535 = ((arg % 65536 : Nat) : Int) := u32_and arg 65535 16 h rfl (by omega)
    have e2 : bits .or .u32 ((arg : Int) % 65536) ((addr : Int) * 65536) = ((arg % 65536 ||| addr * 65536 : Nat) : Int) := by
      have := u32_or (arg % 65536) (addr * 65536) (by omega) (by omega)
      rw [show ((arg : Int) % 65536) = ((arg % 65536 : Nat) : Int) by omega, show ((addr : Int) * 65536) = ((addr * 65536 : Nat) : Int) by omega]
      exact this
    rw [show ((arg % 65536 : Nat) : Int) = (arg : Int) % 65536 by omega] at e1
    go_enter Tryz.func63, Tryz.ntmps63
    go_wp2
    go_ret
    exact ⟨rfl, HB.out⟩
/-- What the operations around the two commands read. -/
structure RdS (w1 : World) (M E Z : Nat) (Us : List Nat) (cs : Array Value) where
  u : World
  h : Turns w1 u Us
  c0 : u.cell? ⟨M, 0, none⟩ = some (.pointer (some ⟨E, 0, none⟩))
  rz : Row u Z 76 cs
section
variable {w0 w w' : World} {b : Bn} {T F : List Nat} {r : Rn} {U G : List Nat} {c : Cf} {S S' : Ab} {v : Value} {an : An}
theorem Two.below (h : Two w0 w b T F r U G c S) (hb : Below w.heap.size w w') : Two w0 w' b T F r U G c S :=
  ⟨h.m.below hb, h.r.below hb, h.d1, h.d2, h.lo, h.bel.trans (hb.mono h.bel.size)⟩
/-- A command of the program's card alone. -/
theorem Two.left (h : Two w0 w b T F r U G c S) (hn : NxA w w' b T F c S' v an) : ∃ b' T' F', AbIs w' b' T' F' c S' ∧ RcIs w' r U G c S ∧ b'.E = b.E ∧ b'.n = b.n ∧ (∀ k ∈ T', k ∉ U ∧ k ∉ G) ∧ (∀ k ∈ F', k ∉ U) ∧ (∀ k ∈ T', w0.heap.size ≤ k) ∧ Below w0.heap.size w0 w' ∧ AnIs w' w.heap.size T' v an ∧ Turns w w' T := by
  obtain ⟨b', T', F', h1, h2, h3, h4, h5, h6, h7, h8⟩ := hn
  have hs := h.bel.size
  refine ⟨b', T', F', h1, h.r.turns h4 (fun k hk => h.d1 k hk), h2, h3, fun k hk => ?_, fun k hk => ?_, fun k hk => ?_, ?_, h8, h4⟩
  · rcases h6 k hk with hk | hk
    · exact h.d1 k hk
    · exact ⟨fun hm => by have := h.r.Tlt k hm; omega, fun hm => by have := h.r.Flt k hm; omega⟩
  · rcases h7 k hk with hk | hk
    · exact h.d2 k hk
    · exact fun hm => by have := h.r.Tlt k hm; omega
  · rcases h6 k hk with hk | hk
    · exact h.lo.1 k hk
    · omega
  · exact h4.below h.bel hs h.lo.1
/-- What is done behind an act: both cards are so. -/
def Done (w0 w' : World) (b : Bn) (r : Rn) (c : Cf) (S' : Ab) : Prop := ∃ b' T' F' r' U' G', Two w0 w' b' T' F' r' U' G' c S' ∧ b'.E = b.E ∧ b'.n = b.n ∧ r'.M = r.M
set_option maxHeartbeats 1000000 in
theorem step_of (h : Two w0 w b T F r U G c S) (a : Act) (hb : a.blk = false) (hu : a.up = false) (harg : a.arg < 4294967296) (A1 : Option Addr) (n1 c1 : Nat) (A2 : Option Addr) (n2 c2 : Nat) (hbl : an.bl.length ≤ 1000)
    (HP : ∀ W, AbIs W b T F c S → Calls Tryz.prog 23 #[.pointer (some ⟨b.E, 0, none⟩), .agg #[.int .i64 a.idx, .int .u32 (argN a S.addr : Nat)], .bool (!a.bad)] W fun e w' => ∃ v, e = .returned v ∧ NxA W w' b T F c S' v an)
    (HR : ∀ W, RcIs W r U G c S → Calls Tryz.prog 64 #[.pointer (some ⟨r.M, 0, none⟩), .agg #[.int .i64 a.idx, .int .u32 (argN a S.addr : Nat)], .bool (!a.bad)] W fun e w' => ∃ v, e = .returned v ∧ RxA W w' r U G c S' v an) :
    Calls Tryz.prog 21 #[.pointer (some ⟨b.n.M, 0, none⟩), .pointer (some ⟨r.M, 0, none⟩), .agg (actCells a (.slice A1 n1 c1) (.slice A2 n2 c2))] w fun e w' => e = .returned (.bool true) ∧ Done w0 w' b r c S' := by
  have HAr := fun W => Lib.hid (Argument_any a A1 n1 c1 A2 n2 c2 S.addr h.m.ok.addr harg W)
  obtain ⟨x, hx⟩ : ∃ x, x = argN a S.addr := ⟨_, rfl⟩
  simp only [← hx] at HAr HP HR
  have HPc := fun W H => Lib.hid (HP W H)
  have HRc := fun W H => Lib.hid (HR W H)
  have HBl := Lib.hid hbl
  clear hx hbl harg HP HR
  obtain ⟨blk, idx, arg, mine, bad, fill, data, front, up⟩ := a
  simp only [actCells] at *
  subst hb
  subst hu
  obtain ⟨Z, hZ⟩ : ∃ Z, Z = w.heap.size := ⟨_, rfl⟩
  obtain ⟨W, hW⟩ : ∃ W, W = w.alloc (.cells #[.bool false, .int .i64 idx, .int .u32 (arg : Nat), .bool mine, .bool bad, .int .u8 (fill : Nat), .slice A1 n1 c1, .slice A2 n2 c2, .bool false] 76) := ⟨_, rfl⟩
  have hBW : Below w.heap.size w W := by rw [hW]; (repeat (first | (with_reducible refine Below.drew ?_) | (with_reducible refine below_drewN0 ?_ _) | ((with_reducible refine Below.setCell ?_ ?_ _); rotate_left; focus (first | omega | (simp; done) | (simp; omega) | (simp at *; omega))) | ((with_reducible refine Below.alloc ?_ ?_ _); rotate_left; focus (first | omega | (simp; done) | (simp; omega) | (simp at *; omega))) | (with_reducible exact Below.refl _ _)))
  have HZ : Hid (Row W Z 76 #[.bool false, .int .i64 idx, .int .u32 (arg : Nat), .bool mine, .bool bad, .int .u8 (fill : Nat), .slice A1 n1 c1, .slice A2 n2 c2, .bool false]) := by unfold Hid; rw [hW, hZ]; exact Row.fresh _ _ _
  have HT := Lib.hid (h.below hBW)
  obtain ⟨x0, hx0, _⟩ := HT.out.r.card
  have z8 : W.cell? ⟨Z, 8, none⟩ = some (.bool false) := by rw [HZ.out.cell]; rfl
  have z0 : W.cell? ⟨Z, 0, none⟩ = some (.bool false) := by rw [HZ.out.cell]; rfl
  have hKZ : ∀ t : Kept W [], Row t.u Z 76 #[.bool false, .int .i64 idx, .int .u32 (arg : Nat), .bool mine, .bool bad, .int .u8 (fill : Nat), .slice A1 n1 c1, .slice A2 n2 c2, .bool false] := fun t => t.h.row HZ.out (by simp)
  have q0 : ∀ t : Kept W [], t.u.cell? ⟨Z, 0, none⟩ = some (.bool false) := fun t => by rw [(hKZ t).cell]; rfl
  have q1 : ∀ t : Kept W [], t.u.cell? ⟨Z, 1, none⟩ = some (.int .i64 idx) := fun t => by rw [(hKZ t).cell]; rfl
  have q2 : ∀ t : Kept W [], t.u.cell? ⟨Z, 2, none⟩ = some (.int .u32 (arg : Nat)) := fun t => by rw [(hKZ t).cell]; rfl
  have q3 : ∀ t : Kept W [], t.u.cell? ⟨Z, 3, none⟩ = some (.bool mine) := fun t => by rw [(hKZ t).cell]; rfl
  have q4 : ∀ t : Kept W [], t.u.cell? ⟨Z, 4, none⟩ = some (.bool bad) := fun t => by rw [(hKZ t).cell]; rfl
  have q5 : ∀ t : Kept W [], t.u.cell? ⟨Z, 5, none⟩ = some (.int .u8 (fill : Nat)) := fun t => by rw [(hKZ t).cell]; rfl
  have q6 : ∀ t : Kept W [], t.u.cell? ⟨Z, 6, none⟩ = some (.slice A1 n1 c1) := fun t => by rw [(hKZ t).cell]; rfl
  have q7 : ∀ t : Kept W [], t.u.cell? ⟨Z, 7, none⟩ = some (.slice A2 n2 c2) := fun t => by rw [(hKZ t).cell]; rfl
  have q8 : ∀ t : Kept W [], t.u.cell? ⟨Z, 8, none⟩ = some (.bool false) := fun t => by rw [(hKZ t).cell]; rfl
  have p9 : ∀ t : Kept W [], t.u.cell? ⟨r.M, 9, none⟩ = some (.pointer (some ⟨r.P, 0, none⟩)) := fun t => t.h.cell (p := ⟨r.M, 9, none⟩) (rcell hx0 9 _ rfl) (by simp)
  have p2 : ∀ t : Kept W [], t.u.cell? ⟨r.P, 2, none⟩ = some (.int .u16 (S.addr : Nat)) := fun t => t.h.cell (p := ⟨r.P, 2, none⟩) (by rw [HT.out.r.ph.cell]; rfl) (by simp)
  have HTl := Lib.hid (And.intro h.m.Tlt (And.intro h.r.Tlt (And.intro h.m.Flt h.r.Flt)))
  have HZw := Lib.hid hZ
  clear hKZ h hx0 hBW
  go_enter Tryz.func21, Tryz.ntmps21
  go_upto_region 1 with fail
  rw [← hZ]
  rw [← hW]
  clear hW hZ
  go_wp2_with fail
  (refine wp_region_noPanic ?_; refine region_treeW (fun u => ∃ t : Kept W [], u = t.u) (Tn.takes [0, 1, 2, 3, 4, 5, 6, 7] (.one 8 (Tn.takes [9] .nil))) (by kernel_rfl) (by kernel_rfl) (fun _ _ _ _ _ h => h) ⟨⟨_, Turns.of_below (Below.refl _ _).drew _⟩, rfl⟩ ?_; simp only [Tn.takes])
  (repeat ((with_reducible refine wpTree_take (by with_unfolding_all exact rfl) ?_); (with_reducible (show wpQuiet _ _ _ _ (_ :: _) _)); go_big_quiet_step (fail); (with_reducible refine wpQuiet_nil ?_)))
  clear q0 q1 q2 q3 q4 q5 q6 q7 q8 p9 p2
  (with_reducible refine wpTree_one (by with_unfolding_all exact rfl) ?_)
  gi_wp2_with fail
  (first | refine ⟨trivial, ((callsIn_wide (n := 8)).2 ((HAr _).out)).mono ?_⟩ | refine ((callsIn_wide (n := 8)).2 ((HAr _).out)).mono ?_)
  rintro e w1 ⟨rfl, hb⟩
  have hb1 : Below W.heap.size W w1 := (Below.refl _ _).drew.trans hb
  have HB1 := Lib.hid hb1
  have HT1 := Lib.hid (HT.out.below hb1)
  have HZ1 := Lib.hid (HZ.out.below hb1 HZ.out.lt)
  clear hb hb1 HAr HT HZ z8 z0
  gi_wp2_with fail
  ((with_reducible refine outQ_normal ?_ ?_); exact ⟨⟨_, Turns.of_below HB1.out _⟩, rfl⟩)
  (repeat ((with_reducible refine wpTree_take (by with_unfolding_all exact rfl) ?_); (with_reducible (show wpQuiet _ _ _ _ (_ :: _) _)); go_big_quiet_step (fail); (with_reducible refine wpQuiet_nil ?_)))
  with_reducible refine wpTree_nil ?_
  refine NoPanic.normal ?_
  have m0 : w1.drew.cell? ⟨b.n.M, 0, none⟩ = some (.pointer (some ⟨b.E, 0, none⟩)) := by have := HT1.out.m.drew.rM.cell 0; simpa using this
  haveI hne : Nonempty (RdS w1 b.n.M b.E Z (T ++ U) #[.bool false, .int .i64 idx, .int .u32 (arg : Nat), .bool mine, .bool bad, .int .u8 (fill : Nat), .slice A1 n1 c1, .slice A2 n2 c2, .bool false]) := ⟨⟨w1.drew, (Turns.refl _ _).drew, m0, HZ1.out.drewN 1⟩⟩
  have q0 : ∀ t : RdS w1 b.n.M b.E Z (T ++ U) #[.bool false, .int .i64 idx, .int .u32 (arg : Nat), .bool mine, .bool bad, .int .u8 (fill : Nat), .slice A1 n1 c1, .slice A2 n2 c2, .bool false], t.u.cell? ⟨b.n.M, 0, none⟩ = some (.pointer (some ⟨b.E, 0, none⟩)) := fun t => t.c0
  have q1 : ∀ t : RdS w1 b.n.M b.E Z (T ++ U) #[.bool false, .int .i64 idx, .int .u32 (arg : Nat), .bool mine, .bool bad, .int .u8 (fill : Nat), .slice A1 n1 c1, .slice A2 n2 c2, .bool false], t.u.cell? ⟨Z, 1, none⟩ = some (.int .i64 idx) := fun t => by rw [t.rz.cell]; rfl
  have q4 : ∀ t : RdS w1 b.n.M b.E Z (T ++ U) #[.bool false, .int .i64 idx, .int .u32 (arg : Nat), .bool mine, .bool bad, .int .u8 (fill : Nat), .slice A1 n1 c1, .slice A2 n2 c2, .bool false], t.u.cell? ⟨Z, 4, none⟩ = some (.bool bad) := fun t => by rw [t.rz.cell]; rfl
  have HM0 := Lib.hid m0
  clear m0
  go_wp2_with fail
  refine wp_region_noPanic ?_
  refine region_treeW (fun u => ∃ t : RdS w1 b.n.M b.E Z (T ++ U) #[.bool false, .int .i64 idx, .int .u32 (arg : Nat), .bool mine, .bool bad, .int .u8 (fill : Nat), .slice A1 n1 c1, .slice A2 n2 c2, .bool false], u = t.u) (Tn.takes [0,1,2,3,4,5,6,7,8,9,10,12,13,14,15,16,17,18,19] (.one 11 (.one 20 (.one 21 (Tn.takes [22] .nil))))) (by kernel_rfl) (by kernel_rfl) (fun _ _ _ _ _ h => h) ⟨⟨w1.drew, (Turns.refl _ _).drew, HM0.out, HZ1.out.drewN 1⟩, rfl⟩ ?_
  simp only [Tn.takes]
  (repeat ((with_reducible refine wpTree_take (by with_unfolding_all exact rfl) ?_); (with_reducible (show wpQuiet _ _ _ _ (_ :: _) _)); go_big_quiet_step (fail); (with_reducible refine wpQuiet_nil ?_)))
  clear q0 q1 q4
  (with_reducible refine wpTree_one (by with_unfolding_all exact rfl) ?_)
  gi_wp2_with fail
  (first | refine ⟨trivial, ((callsIn_wide (n := 8)).2 ((HPc _ HT1.out.m.drew).out)).mono ?_⟩ | refine ((callsIn_wide (n := 8)).2 ((HPc _ HT1.out.m.drew).out)).mono ?_)
  rintro e w2 ⟨v1, rfl, hx⟩
  have ht12 : Turns w1 w2 T := (Turns.refl w1 T).drew.trans hx.turns (fun k hk => .inl hk)
  obtain ⟨b', T', F', hA2, hR2, hE2, hn2, hd1, hd2, hlo, hbel, hAn, _⟩ := (HT1.out.below ((Below.refl _ _).drew)).left hx
  have HA2 := Lib.hid hA2
  have HR2 := Lib.hid hR2
  have HAn1 := Lib.hid hAn
  have HX2 := Lib.hid (And.intro hE2 (And.intro hn2 (And.intro hd1 (And.intro hd2 (And.intro hlo hbel)))))
  have HT12 := Lib.hid ht12
  have hZT : Z ∉ T := fun hm => by have := HTl.out.1 _ hm; have := HZw.out; omega
  have HZ2 := Lib.hid (ht12.row HZ1.out hZT)
  have hM2 : w2.cell? ⟨b.n.M, 0, none⟩ = some (.pointer (some ⟨b.E, 0, none⟩)) := by have := hA2.rM.cell 0; rw [hn2, hE2] at this; simpa using this
  have HM2 := Lib.hid hM2
  clear ht12 hx hA2 hR2 hE2 hn2 hd1 hd2 hlo hbel hAn hM2 hZT HPc
  obtain ⟨ak, B1, m1, d1, an0, B2, m2, d2, hv⟩ : ∃ (k : Bool) (A1 : Option Addr) (n1 c1 : Nat) (n : Int) (A2 : Option Addr) (n2 c2 : Nat), v1 = .agg #[.bool k, .slice A1 n1 c1, .int .u32 n, .slice A2 n2 c2] := by
    obtain ⟨lv, bv, e, ⟨A1, n1, e1, _⟩, ⟨A2, cb, us, e2, _⟩⟩ := HAn1.out
    subst e1; subst e2
    exact ⟨_, _, _, _, _, _, _, _, e⟩
  subst hv
  gi_wp2_with fail
  (with_reducible refine outQ_normal ?_ ?_); exact ⟨⟨_, HT12.out.mono (fun k hk => List.mem_append.2 (.inl hk)), HM2.out, HZ2.out⟩, rfl⟩
  (with_reducible refine wpTree_one (by with_unfolding_all exact rfl) ?_)
  gi_wp2_with fail
  (first | refine ⟨trivial, ((callsIn_wide (n := 8)).2 ((HRc _ HR2.out).out)).mono ?_⟩ | refine ((callsIn_wide (n := 8)).2 ((HRc _ HR2.out).out)).mono ?_)
  rintro e w3 ⟨v2, rfl, hx⟩
  obtain ⟨r', U', G', hR3, hE3, hP3, ht3, hUU, hUn, hGn, hAn3⟩ := hx
  obtain ⟨hE2, hn2, hd1, hd2, hlo, hbel⟩ := HX2.out
  have hs2 := HT12.out.size
  have hwl : w.heap.size ≤ w1.heap.size := by have := HZ1.out.lt; have := HZw.out; omega
  have hA3 : AbIs w3 b' T' F' c S' := HA2.out.turns ht3 (fun k hk => ⟨fun hm => (hd1 k hm).1 hk, fun hm => hd2 k hm hk⟩)
  have hAn13 : AnIs w3 w1.drew.heap.size T' _ an := HAn1.out.far ht3 (fun k hk => .inr (by have := HTl.out.2.1 k hk; show k < w1.heap.size; omega))
  have HF : Hid (Two w0 w3 b' T' F' r' U' G' c S') := by
    have hbs := hbel.size
    refine ⟨hA3, hR3, fun k hk => ⟨fun hm => ?_, fun hm => ?_⟩, fun k hk hm => ?_, ⟨hlo, fun k hk => ?_⟩, ht3.below hbel hbs HT1.out.lo.2⟩
    · rcases hUn k hm with hm | hm
      · exact (hd1 k hk).1 hm
      · have := HA2.out.Tlt k hk; omega
    · rcases hGn k hm with hm | hm
      · exact (hd1 k hk).2 hm
      · have := HA2.out.Tlt k hk; omega
    · rcases hUn k hm with hm | hm
      · exact hd2 k hk hm
      · have := HA2.out.Flt k hk; omega
    · rcases hUn k hk with hk | hk
      · exact HT1.out.lo.2 k hk
      · omega
  have HFE : Hid (b'.E = b.E ∧ b'.n = b.n ∧ r'.M = r.M) := ⟨hE2, hn2, hE3⟩
  have HT23 : Hid (Turns w1 w3 (T ++ U)) := (HT12.out.mono (fun k hk => List.mem_append.2 (.inl hk))).trans ht3 (fun k hk => .inl (List.mem_append.2 (.inr hk)))
  have hZT : Z ∉ T ++ U := fun hm => by
    have h0 := HZw.out
    rcases List.mem_append.1 hm with hm | hm
    · have := HTl.out.1 _ hm; omega
    · have := HTl.out.2.1 _ hm; omega
  have HZ3 := Lib.hid (HT23.out.row HZ1.out hZT)
  have HM3 : Hid (w3.cell? ⟨b.n.M, 0, none⟩ = some (.pointer (some ⟨b.E, 0, none⟩))) := by have := hA3.rM.cell 0; rw [hn2, hE2] at this; unfold Hid; simpa using this
  have HSm := Lib.hid (Same_yes hAn13 hAn3 HBl.out)
  obtain ⟨ak2, C1, l1, f1, an2, C2, l2, f2, hv2⟩ : ∃ (k : Bool) (A1 : Option Addr) (n1 c1 : Nat) (n : Int) (A2 : Option Addr) (n2 c2 : Nat), v2 = .agg #[.bool k, .slice A1 n1 c1, .int .u32 n, .slice A2 n2 c2] := by
    obtain ⟨lv, bv, e, ⟨A1, n1, e1, _⟩, ⟨A2, cb, us, e2, _⟩⟩ := hAn3
    subst e1; subst e2
    exact ⟨_, _, _, _, _, _, _, _, e⟩
  subst hv2
  clear hR3 hE3 hP3 ht3 hUU hUn hGn hAn3 hE2 hn2 hd1 hd2 hlo hbel hs2 hwl hA3 hAn13 hZT HRc HX2 HA2 HR2 HAn1 HM2 HT12 HZ2 HT1 HBl
  gi_wp2_with fail
  (with_reducible refine outQ_normal ?_ ?_); exact ⟨⟨_, HT23.out, HM3.out, HZ3.out⟩, rfl⟩
  (with_reducible refine wpTree_one (by with_unfolding_all exact rfl) ?_)
  gi_wp2_with fail
  (first | refine ⟨trivial, ((callsIn_wide (n := 8)).2 (HSm.out)).mono ?_⟩ | refine ((callsIn_wide (n := 8)).2 (HSm.out)).mono ?_)
  rintro e w4 ⟨rfl, hb⟩
  have HF4 := Lib.hid (HF.out.below hb)
  have HT24 := Lib.hid (HT23.out.then_below hb)
  have HM4 := Lib.hid (keep_below hb _ _ HM3.out)
  have HZ4 := Lib.hid (HZ3.out.below hb HZ3.out.lt)
  clear hb HF HT23 HM3 HZ3 HSm
  gi_wp2_with fail
  (with_reducible refine outQ_normal ?_ ?_); exact ⟨⟨_, HT24.out, HM4.out, HZ4.out⟩, rfl⟩
  (repeat ((with_reducible refine wpTree_take (by with_unfolding_all exact rfl) ?_); (with_reducible (show wpQuiet _ _ _ _ (_ :: _) _)); go_big_quiet_step (fail); (with_reducible refine wpQuiet_nil ?_)))
  with_reducible refine wpTree_nil ?_
  refine NoPanic.normal ?_
  go_wp2
  go_ret
  exact ⟨rfl, _, _, _, _, _, _, HF4.out, HFE.out.1, HFE.out.2.1, HFE.out.2.2⟩
end
end Go.Proofs.YtclhhdodebdmjaaGreat

namespace Go.Proofs.YtclhhdodebdmjaaGreat
open Go.RowKit Go.MapKept Go.ChangeMaps
set_option linter.unusedVariables false
set_option linter.unusedSimpArgs false
set_option maxRecDepth 100000

/-- A command of the program's card is done so; one of the document's. -/
def CmdOk (c : Cf) (S : Ab) (i : Int) (arg : Nat) (S' : Ab) (an : An) : Prop := ∀ W b T F, AbIs W b T F c S → Calls Tryz.prog 23 #[.pointer (some ⟨b.E, 0, none⟩), .agg #[.int .i64 i, .int .u32 arg], .bool true] W fun e w' => ∃ v, e = .returned v ∧ NxA W w' b T F c S' v an
def RcmdOk (c : Cf) (S : Ab) (i : Int) (arg : Nat) (S' : Ab) (an : An) : Prop := ∀ W r U G, RcIs W r U G c S → AbOk c S → Calls Tryz.prog 64 #[.pointer (some ⟨r.M, 0, none⟩), .agg #[.int .i64 i, .int .u32 arg], .bool true] W fun e w' => ∃ v, e = .returned v ∧ RxA W w' r U G c S' v an
section
variable {c : Cf} {S S' : Ab} {an : An}
theorem cmdOk_of (i : Int) (hi : W64 i) (arg : Nat) (harg : arg < 4294967296) (hleg : (nextV S.s i (ownB S.addr arg)).2 = true) (hans : answersB i (ownB S.addr arg) = true)
    (H : ∀ W b T F, AbIs W b T F c (S.taken i arg) → Calls Tryz.prog 71 #[.pointer (some ⟨b.E, 0, none⟩), .agg #[.int .i64 i, .int .u32 arg]] W fun e w' => ∃ v, e = .returned v ∧ NxA W w' b T F c S' v an) : CmdOk c S i arg S' an := fun W b T F h =>
  cmd_do h i hi arg harg hleg hans (fun W' b' hE hn hA => by rw [← hE]; exact H W' b' T F hA)
end
/-- The card in a state without more than its registers, its guards, what lasts, the bits that are up, where an erase is from and to. -/
def gS (s : Int) (l : Int) (V : Rv) (G : List Nat) (has : Nat → Option (List Nat)) (up : Nat) (f t : Option Nat) (nx : List Nat) : Ab := ⟨s, 0, l, V, G, .none, .none, .new, [], 0, has, fun _ => Option.none, ⟨up, 0, false, false, f, t, 0, 0, false⟩, nx⟩
section
variable {V : Rv} {G : List Nat} {has : Nat → Option (List Nat)} {up : Nat} {f t : Option Nat}
theorem gS_1 : (gS 0 0 V G has up f t []).taken 1 0 = gS 1 0 V G has up Option.none Option.none [] := by rfl
theorem gS_2 : (gS 1 0 V G has up f t []).taken 2 0 = gS 2 0 V G has up Option.none Option.none [] := by rfl
theorem gS_3 : (gS 2 0 V G has up f t []).taken 3 0 = gS 3 0 V G has up Option.none Option.none [] := by rfl
theorem gS_7 : (gS 3 0 V G has up f t []).taken 7 0 = gS 4 0 V G has up Option.none Option.none [] := by rfl
/-- A command of the state of work that forgets where an erase is from. -/
theorem gS_work (i : Int) (hi : i = 6 ∨ i = 17 ∨ i = 28 ∨ i = 29) (arg : Nat) : (gS 4 0 V G has up f t []).taken i arg = gS 4 0 V G has up Option.none Option.none [] ∧ (nextV 4 i (ownB 0 arg)) = (4, true) ∧ answersB i (ownB 0 arg) = true := by
  rcases hi with rfl | rfl | rfl | rfl <;> cases h : ownB 0 arg <;> simp [gS, Ab.taken, Ab.go, Ab.forget, Ab.calm, nextV, waysV, transL, writeL, addrTo, leftTo, answersB, h]
theorem gS_erase (i : Int) (hi : i = 35 ∨ i = 36 ∨ i = 38) (arg : Nat) : (gS 4 0 V G has up f t []).taken i arg = gS 4 0 V G has up f t [] ∧ (nextV 4 i (ownB 0 arg)) = (4, true) ∧ answersB i (ownB 0 arg) = true := by
  rcases hi with rfl | rfl | rfl <;> cases h : ownB 0 arg <;> simp [gS, Ab.taken, Ab.go, Ab.forget, Ab.calm, nextV, waysV, transL, writeL, addrTo, leftTo, answersB, h]
theorem gS_write (arg : Nat) : (gS 4 0 V G has up f t []).taken 24 arg = gS 6 1 V G has up Option.none Option.none [] ∧ (nextV 4 24 (ownB 0 arg)) = (6, true) ∧ answersB 24 (ownB 0 arg) = true := by
  cases h : ownB 0 arg <;> simp [gS, Ab.taken, Ab.go, Ab.forget, Ab.calm, nextV, waysV, transL, writeL, addrTo, leftTo, answersB, h]
end
end Go.Proofs.YtclhhdodebdmjaaGreat

namespace Go.Proofs.YtclhhdodebdmjaaGreat
open Go.RowKit Go.MapKept Go.ChangeMaps
set_option linter.unusedVariables false
set_option linter.unusedSimpArgs false
set_option maxRecDepth 100000

theorem w64 {a : Int} (h : -1000 ≤ a ∧ a ≤ 1000) : W64 a := (W64.iff a).2 (by omega)
section
variable {c : Cf} {V : Rv} {G : List Nat} {has : Nat → Option (List Nat)} {up : Nat} {f t : Option Nat}
/-- The word in the state of work. -/
def wordG (s : Int) (up : Nat) : Nat := (s.toNat * 512 ||| 256) ||| up
theorem g1 : CmdOk c (gS 0 0 V G has up f t []) 1 0 (gS 1 0 V G has up Option.none Option.none []) ⟨false, [], 2164228224, []⟩ := by
  rw [← gS_1 (f := f) (t := t)]
  exact cmdOk_of 1 (w64 (by omega)) 0 (by omega) rfl rfl (fun W b T F hA => do_opcond hA 0)
theorem g2 : CmdOk c (gS 1 0 V G has up f t []) 2 0 (gS 2 0 V G has up Option.none Option.none []) ⟨false, cidL, 0, []⟩ := by
  rw [← gS_2 (f := f) (t := t)]
  exact cmdOk_of 2 (w64 (by omega)) 0 (by omega) rfl rfl (fun W b T F hA => do_allcid hA 0)
theorem g3 : CmdOk c (gS 2 0 V G has up f t []) 3 0 (gS 3 0 V G has 0 Option.none Option.none []) ⟨false, [], wordG 3 up, []⟩ :=
  cmdOk_of 3 (w64 (by omega)) 0 (by omega) rfl rfl (fun W b T F hA => by rw [gS_3] at hA; exact do_else3 hA 0)
theorem g7 : CmdOk c (gS 3 0 V G has up f t []) 7 0 (gS 4 0 V G has 0 Option.none Option.none []) ⟨false, [], wordG 4 up, []⟩ :=
  cmdOk_of 7 (w64 (by omega)) 0 (by omega) rfl rfl (fun W b T F hA => by rw [gS_7] at hA; exact do_else7 hA 0)
theorem r1 : RcmdOk c (gS 0 0 V G has up f t []) 1 0 (gS 1 0 V G has up Option.none Option.none []) ⟨false, [], 2164228224, []⟩ := fun W r U GG h hok => by
  rw [← gS_1 (f := f) (t := t)]
  exact rcmd_opcond h hok 0 (by omega) rfl
theorem r2 : RcmdOk c (gS 1 0 V G has up f t []) 2 0 (gS 2 0 V G has up Option.none Option.none []) ⟨false, cidL, 0, []⟩ := fun W r U GG h hok => by
  rw [← gS_2 (f := f) (t := t)]
  exact rcmd_allcid h hok 0 (by omega) rfl
theorem r3 : RcmdOk c (gS 2 0 V G has up f t []) 3 0 (gS 3 0 V G has 0 Option.none Option.none []) ⟨false, [], wordG 3 up, []⟩ := fun W r U GG h hok => by
  have := rcmd_else3 h hok 0 (by omega) rfl
  rw [gS_3] at this
  exact this
theorem r7 : RcmdOk c (gS 3 0 V G has up f t []) 7 0 (gS 4 0 V G has 0 Option.none Option.none []) ⟨false, [], wordG 4 up, []⟩ := fun W r U GG h hok => by
  have := rcmd_else7 h hok 0 (by omega) rfl rfl
  rw [gS_7] at this
  exact this
theorem gsw (arg v : Nat) (harg : arg < 4294967296) (hn : nextW V arg = .tuple #[.int .i64 5, .int .u8 v, .int .i64 0]) (hv : v < 256) (hw : writeE V 5 v = 0) : CmdOk c (gS 4 0 V G has up f t []) 6 arg (gS 4 0 (writeV V 5 v) G has 0 Option.none Option.none []) ⟨false, [], wordG 4 up, []⟩ := by
  obtain ⟨h1, h2, h3⟩ := gS_work (V := V) (G := G) (has := has) (up := up) (f := f) (t := t) 6 (.inl rfl) arg
  exact cmdOk_of 6 (w64 (by omega)) arg harg (congrArg Prod.snd h2) h3 (fun W b T F hA => by
    rw [h1] at hA
    exact do_change hA arg (fun W' hA' => change_5 hA' arg v harg hn hv hw))
def insN (c : Cf) (a : Int) (fr n : Nat) : Bool := decide ((n : Int) ≤ sizeI c .none a ∧ (fr : Int) ≤ sizeI c .none a - n)
theorem gset (arg p : Nat) (harg : arg < 4294967296) (hV : V 0 = 0) (hin : insN c 0 arg 1 = true) (hp : placeI c .none 0 (arg : Int) = some (p : Int)) : CmdOk c (gS 4 0 V G has up f t []) 28 arg (gS 4 0 V (Grd.setK G ((p : Int) / c.group) (lvl (V 5))) has 0 Option.none Option.none []) ⟨false, [], wordG 4 up, []⟩ := by
  obtain ⟨h1, h2, h3⟩ := gS_work (V := V) (G := G) (has := has) (up := up) (f := f) (t := t) 28 (by omega) arg
  exact cmdOk_of 28 (w64 (by omega)) arg harg (congrArg Prod.snd h2) h3 (fun W b T F hA => by
    rw [h1] at hA
    refine do_prot28 hA arg (fun W' hA' => ?_)
    have h := prot_set hA' arg p harg (.inl hV) (by show insN c ((V 0 : Nat) : Int) arg 1 = true; rw [hV]; exact hin) (by show placeI c .none ((V 0 : Nat) : Int) arg = some (p : Int); rw [hV]; exact hp)
    exact h.mono fun e w' ⟨e1, e2⟩ => ⟨_, e1, NxA.word e2 false _⟩)
/-- The guards, and the bits that are up, behind ClrGuard. -/
def clrG (G : List Nat) (g : Int) : List Nat := Grd.clearK G g
def clrU (G : List Nat) (g : Int) (up : Nat) : Nat := if Grd.clearR G g = 0 then up else up ||| 67108864
theorem gclr (arg p : Nat) (harg : arg < 4294967296) (hV : V 0 = 0) (hin : insN c 0 arg 1 = true) (hp : placeI c .none 0 (arg : Int) = some (p : Int)) : CmdOk c (gS 4 0 V G has up f t []) 29 arg (gS 4 0 V (Grd.clearK G ((p : Int) / c.group)) has 0 Option.none Option.none []) ⟨false, [], wordG 4 (clrU G ((p : Int) / c.group) up), []⟩ := by
  obtain ⟨h1, h2, h3⟩ := gS_work (V := V) (G := G) (has := has) (up := up) (f := f) (t := t) 29 (by omega) arg
  have hcl : (gS 4 0 V G has up Option.none Option.none []).clearG ((p : Int) / c.group) = gS 4 0 V (Grd.clearK G ((p : Int) / c.group)) has (clrU G ((p : Int) / c.group) up) Option.none Option.none [] := by
    unfold Ab.clearG clrU
    show (if Grd.clearR G ((p : Int) / c.group) = 0 then _ else _) = _
    split <;> rfl
  exact cmdOk_of 29 (w64 (by omega)) arg harg (congrArg Prod.snd h2) h3 (fun W b T F hA => by
    rw [h1] at hA
    refine do_prot29 hA arg (fun W' hA' => ?_)
    have h := prot_clr hA' arg p harg (.inl hV) (by show insN c ((V 0 : Nat) : Int) arg 1 = true; rw [hV]; exact hin) (by show placeI c .none ((V 0 : Nat) : Int) arg = some (p : Int); rw [hV]; exact hp)
    rw [hcl] at h
    exact h.mono fun e w' ⟨e1, e2⟩ => ⟨_, e1, NxA.word e2 false _⟩)
theorem gwr (arg : Nat) (harg : arg < 4294967296) (hV : V 0 = 0) (hin : insN c 0 arg 1 = true) : CmdOk c (gS 4 0 V G has up f t []) 24 arg (gS 6 1 V G has 0 Option.none Option.none [arg]) ⟨false, [], wordG 6 up, []⟩ := by
  obtain ⟨h1, h2, h3⟩ := gS_write (V := V) (G := G) (has := has) (up := up) (f := f) (t := t) arg
  have hw : (gS 6 1 V G has up Option.none Option.none []).write c 24 arg = gS 6 1 V G has up Option.none Option.none [arg] := by
    have hb : (gS 6 1 V G has up Option.none Option.none []).badW c 24 arg = false := by
      unfold Ab.badW
      rw [show ((gS 6 1 V G has up Option.none Option.none []).many 24).e.pack = false from rfl, if_neg (by simp)]
      rw [show (gS 6 1 V G has up Option.none Option.none []).V 0 = V 0 from rfl, hV, if_neg (by omega)]
      show (!insN c ((0 : Nat) : Int) arg 1) = false
      rw [show (((0 : Nat) : Int)) = 0 from rfl, hin]; rfl
    unfold Ab.write
    rw [hb]
    rw [if_neg (by simp), if_neg (by rw [show ((gS 6 1 V G has up Option.none Option.none []).many 24).e.pack = false from rfl]; simp)]
    simp [Ab.wr0, Ab.many, Ab.one, Ab.manyN, gS, hV]
  exact cmdOk_of 24 (w64 (by omega)) arg harg (congrArg Prod.snd h2) h3 (fun W b T F hA => by
    rw [h1] at hA
    refine do_write24 (S' := gS 6 1 V G has up Option.none Option.none [arg]) hA arg (fun W' hA' => ?_)
    have h := write_any hA' rfl 24 arg harg
    rw [hw] at h
    exact h)
theorem gfrom (arg : Nat) (harg : arg < 4294967296) (hV : V 0 = 0) (hin : insN c 0 arg 1 = true) : CmdOk c (gS 4 0 V G has up f t []) 35 arg (gS 4 0 V G has 0 (some arg) Option.none []) ⟨false, [], wordG 4 up, []⟩ := by
  obtain ⟨h1, h2, h3⟩ := gS_erase (V := V) (G := G) (has := has) (up := up) (f := f) (t := t) 35 (by omega) arg
  exact cmdOk_of 35 (w64 (by omega)) arg harg (congrArg Prod.snd h2) h3 (fun W b T F hA => by
    rw [h1] at hA
    exact do_erase35 hA arg (fun W' hA' => erase_from hA' arg harg (by show V 0 ≠ 3; omega) (by show insN c ((V 0 : Nat) : Int) arg 1 = true; rw [hV]; exact hin)))
theorem gto (arg : Nat) (harg : arg < 4294967296) (hV : V 0 = 0) (hin : insN c 0 arg 1 = true) : CmdOk c (gS 4 0 V G has up (some arg) t []) 36 arg (gS 4 0 V G has 0 (some arg) (some arg) []) ⟨false, [], wordG 4 up, []⟩ := by
  obtain ⟨h1, h2, h3⟩ := gS_erase (V := V) (G := G) (has := has) (up := up) (f := some arg) (t := t) 36 (by omega) arg
  exact cmdOk_of 36 (w64 (by omega)) arg harg (congrArg Prod.snd h2) h3 (fun W b T F hA => by
    rw [h1] at hA
    exact do_erase36 hA arg (fun W' hA' => erase_to hA' arg arg harg (by show V 0 ≠ 3; omega) (by show insN c ((V 0 : Nat) : Int) arg 1 = true; rw [hV]; exact hin) rfl (Nat.le_refl _)))
def grdN (c : Cf) (G : List Nat) (p : Nat) : Bool := !(decide ((0 ≤ (p : Int) / c.group ∧ (p : Int) / c.group < G.length) ∧ G.getD ((p : Int) / c.group).toNat 0 = 0))
theorem gera (s p : Nat) (hs : s ≤ 20000) (hV : V 0 = 0) (hin : insN c 0 0 1 = true) (hp : placeI c .none 0 (s : Int) = some (p : Int)) (hg : grdN c G p = true) : CmdOk c (gS 4 0 V G has up (some s) (some s) []) 38 0 (gS 4 0 V G has 0 Option.none Option.none []) ⟨false, [], wordG 4 (up ||| 67108864), []⟩ := by
  obtain ⟨h1, h2, h3⟩ := gS_erase (V := V) (G := G) (has := has) (up := up) (f := some s) (t := some s) 38 (by omega) 0
  exact cmdOk_of 38 (w64 (by omega)) 0 (by omega) (congrArg Prod.snd h2) h3 (fun W b T F hA => by
    rw [h1] at hA
    exact do_erase38 hA 0 (fun W' hA' => erase_guarded hA' 0 s p rfl (by show V 0 ≠ 3; omega) (by show insN c ((V 0 : Nat) : Int) 0 1 = true; rw [hV]; exact hin) rfl rfl hs (by show placeI c .none ((V 0 : Nat) : Int) (s : Int) = some (p : Int); rw [hV]; exact hp) (by show guardedB c (gS 4 0 V G has up (some s) (some s) []) ((V 0 : Nat) : Int) p = true; rw [hV]; exact hg)))
end
end Go.Proofs.YtclhhdodebdmjaaGreat

namespace Go.Proofs.YtclhhdodebdmjaaGreat
open Go.RowKit Go.MapKept Go.ChangeMaps
set_option linter.unusedVariables false
set_option linter.unusedSimpArgs false
set_option maxRecDepth 100000

section
variable {w w' : World} {b : Bn} {T F : List Nat} {c : Cf} {S S' : Ab} {v : Value} {an : An} {V : Rv} {G : List Nat} {has : Nat → Option (List Nat)} {up : Nat} {f t : Option Nat}
theorem cmd_of (h : AbIs w b T F c S) (i : Int) (arg : Nat) (H : CmdOk c S i arg S' an) : Calls Tryz.prog 15 #[.pointer (some ⟨b.n.M, 0, none⟩), .int .i64 i, .int .u32 arg] w fun e w' => ∃ v, e = .returned v ∧ NxA w w' b T F c S' v an := by
  obtain ⟨W, hW⟩ : ∃ W, W = w.alloc (.cells nilAn 56) := ⟨_, rfl⟩
  obtain ⟨Z, hZ⟩ : ∃ Z, Z = w.heap.size := ⟨_, rfl⟩
  have HBW : Hid (Below w.heap.size w W) := by unfold Hid; rw [hW]; (repeat (first | (with_reducible refine Below.drew ?_) | (with_reducible refine below_drewN0 ?_ _) | ((with_reducible refine Below.setCell ?_ ?_ _); rotate_left; focus (first | omega | (simp; done) | (simp; omega) | (simp at *; omega))) | ((with_reducible refine Below.alloc ?_ ?_ _); rotate_left; focus (first | omega | (simp; done) | (simp; omega) | (simp at *; omega))) | (with_reducible exact Below.refl _ _)))
  have HRr : Hid (Row W Z 56 nilAn) := by unfold Hid; rw [hW, hZ]; exact Row.fresh _ _ _
  have hA0 := h.below HBW.out
  have HTl := Lib.hid (And.intro h.Tlt h.Flt)
  have HZl : Hid (w.heap.size = Z ∧ Z < W.heap.size) := ⟨hZ.symm, HRr.out.lt⟩
  have m0 : W.cell? ⟨b.n.M, 0, none⟩ = some (.pointer (some ⟨b.E, 0, none⟩)) := by have := hA0.rM.cell 0; simpa using this
  have HC := Lib.hid (H W b T F hA0)
  unfold nilAn at hW
  clear h hA0 H
  go_enter Tryz.func15, Tryz.ntmps15
  go_upto_region 1 with fail
  rw [← hZ]
  rw [← hW]
  clear hW hZ
  go_wp2_with fail
  refine HC.out.mono ?_
  rintro e w2 ⟨v, rfl, hx⟩
  have HX := Lib.hid hx
  clear hx HC m0
  have HR2 : Hid (Row w2 (Z) 56 nilAn) := HX.out.turns.row HRr.out (fun hm => by have := HTl.out.1 _ hm; have := HZl.out; omega)
  have m0 : w2.cell? ⟨Z, 0, none⟩ = some (.bool false) := by rw [HR2.out.cell]; rfl
  have m1 : w2.cell? ⟨Z, 1, none⟩ = some (.slice none 0 0) := by rw [HR2.out.cell]; rfl
  have m2 : w2.cell? ⟨Z, 2, none⟩ = some (.int .u32 0) := by rw [HR2.out.cell]; rfl
  have m3 : w2.cell? ⟨Z, 3, none⟩ = some (.slice none 0 0) := by rw [HR2.out.cell]; rfl
  have g0 := HR2.out.frozen 0
  have g1 := HR2.out.frozen 1
  have g2 := HR2.out.frozen 2
  have g3 := HR2.out.frozen 3
  obtain ⟨ak, A1, n1, c1, an0, A2, n2, c2, hv⟩ := HX.out.shape
  have hT9 : Turns w2 ((((w2.setCell ⟨Z, 0, none⟩ (.bool ak)).setCell ⟨Z, 1, none⟩ (.slice A1 n1 c1)).setCell ⟨Z, 2, none⟩ (.int .u32 an0)).setCell ⟨Z, 3, none⟩ (.slice A2 n2 c2)) [Z] := ((((Turns.refl _ _).setCell (by simp) _).setCell (by simp) _).setCell (by simp) _).setCell (by simp) _
  have HZ9 : Hid (Row ((((w2.setCell ⟨Z, 0, none⟩ (.bool ak)).setCell ⟨Z, 1, none⟩ (.slice A1 n1 c1)).setCell ⟨Z, 2, none⟩ (.int .u32 an0)).setCell ⟨Z, 3, none⟩ (.slice A2 n2 c2)) (Z) 56 #[.bool ak, .slice A1 n1 c1, .int .u32 an0, .slice A2 n2 c2]) := by
    have := (((HR2.out.put 0 (.bool ak)).put 1 (.slice A1 n1 c1)).put 2 (.int .u32 an0)).put 3 (.slice A2 n2 c2)
    unfold Hid; simpa [nilAn] using this
  have HX9 := Lib.hid (HX.out.out HBW.out hT9 (fun k hk => by obtain rfl := List.mem_singleton.1 hk; have := HZl.out; omega) HTl.out.1 HTl.out.2)
  subst hv
  clear hT9 HR2 HX
  go_wp2
  exact bodyPost_ret (v := .agg #[.bool ak, .slice A1 n1 c1, .int .u32 an0, .slice A2 n2 c2]) (results_cell_row rfl _ _ Z 56 _ (0, 0) _ rfl HZ9.out Tryz.underlying56 rfl (by kernel_rfl)) rfl ⟨_, rfl, HX9.out⟩
/-- A block of the program's card is taken so. -/
def DataOk (c : Cf) (S : Ab) (l : List Nat) (tk : Nat) (S' : Ab) : Prop := ∀ W b T F A0 nb, AbIs W b T F c S → (∀ W', Turns W W' T → Src W' 1 A0 l.length (intsV .u8 l)) → Calls Tryz.prog 17 #[.pointer (some ⟨b.E, 0, none⟩), .slice A0 l.length nb, .bool true] W fun e w' => e = .returned (.int .u8 (tk : Nat)) ∧ Nx W w' b T F c S'
theorem gput (s p : Nat) (hV0 : V 0 = 0) (hV1 : V 1 ≠ 1) (hp : placeI c .none 0 (s : Int) = some (p : Int)) (l : List Nat) (hl : (l.length : Int) = c.sector) (h256 : ∀ x ∈ l, x < 256) (hs : s ≤ 20000) :
    DataOk c (gS 6 1 V G has up Option.none Option.none [s]) l (if grdN c G p then 237 else 229) (if grdN c G p then gS 4 0 V G has (up ||| 67108864) Option.none Option.none [] else gS 4 0 V G (fun q => if q = p then some l else has q) up Option.none Option.none []) := fun W b T F A0 nb hA hsrc => by
  have h := data_put hA rfl rfl (by show (0 : Int) ≠ 3; decide) s p [] rfl hp hV1 A0 nb l hl h256 hsrc hs
  have hg : guardedB c ((gS 6 1 V G has up Option.none Option.none [s]).gotN []) 0 p = grdN c G p := rfl
  have e1 : ((gS 6 1 V G has up Option.none Option.none [s]).gotN []).putT c p = if grdN c G p then 237 else 229 := by unfold Ab.putT; exact congrArg (fun x => if x = true then 237 else 229) hg
  have e2 : ((gS 6 1 V G has up Option.none Option.none [s]).gotN []).putS c s p l = if grdN c G p then gS 4 0 V G has (up ||| 67108864) Option.none Option.none [] else gS 4 0 V G (fun q => if q = p then some l else has q) up Option.none Option.none [] := by
    unfold Ab.putS
    rw [show ((gS 6 1 V G has up Option.none Option.none [s]).gotN []).e.area = 0 from rfl, hg]
    split
    · rfl
    · simp [gS, Ab.gotN, Ab.last, Ab.drop, gotS]
  rw [e1, e2] at h
  exact h
theorem gread (arg p : Nat) (harg : arg < 4294967296) (hV : V 0 = 0) (hin : insN c 0 arg 1 = true) (hp : placeI c .none 0 (arg : Int) = some (p : Int)) : CmdOk c (gS 4 0 V G has up f t []) 17 arg (gS 4 0 V G has 0 Option.none Option.none []) ⟨false, [], wordG 4 up, [(has p).getD (List.replicate c.sector.toNat 0)]⟩ := by
  obtain ⟨h1, h2, h3⟩ := gS_work (V := V) (G := G) (has := has) (up := up) (f := f) (t := t) 17 (by omega) arg
  exact cmdOk_of 17 (w64 (by omega)) arg harg (congrArg Prod.snd h2) h3 (fun W b T F hA => by
    rw [h1] at hA
    refine do_read17 hA arg (fun W' hA' => ?_)
    have h := read_in hA' 17 arg harg (by show V 0 ≠ 3; omega) (by show insN c ((V 0 : Nat) : Int) arg 1 = true; rw [hV]; exact hin)
    have e : ((List.range ((gS 4 0 V G has up Option.none Option.none []).manyN 17)).map fun k => secL c (gS 4 0 V G has up Option.none Option.none []) (((gS 4 0 V G has up Option.none Option.none []).V 0 : Nat) : Int) ((arg + k : Nat) : Int)) = [(has p).getD (List.replicate c.sector.toNat 0)] := by
      have hm : (gS 4 0 V G has up Option.none Option.none []).manyN 17 = 1 := rfl
      rw [hm, show (gS 4 0 V G has up Option.none Option.none []).V 0 = V 0 from rfl, hV]
      simp only [List.range_one, List.map_cons, List.map_nil, Nat.add_zero]
      unfold secL
      rw [show placeI c (gS 4 0 V G has up Option.none Option.none []).now ((0 : Nat) : Int) (arg : Int) = some (p : Int) from hp]
      simp only [Int.toNat_natCast]
      rfl
    rw [e] at h
    exact h)
end
end Go.Proofs.YtclhhdodebdmjaaGreat

namespace Go.Proofs.YtclhhdodebdmjaaGreat
open Go.RowKit Go.MapKept Go.ChangeMaps
set_option linter.unusedVariables false
set_option linter.unusedSimpArgs false
set_option maxRecDepth 100000

/-- The program's card in memory that was not there in w0. -/
structure Solo (w0 w : World) (b : Bn) (T F : List Nat) (c : Cf) (S : Ab) : Prop where
  m : AbIs w b T F c S
  lo : ∀ k ∈ T, w0.heap.size ≤ k
  bel : Below w0.heap.size w0 w
section
variable {w0 w w' : World} {b : Bn} {T F : List Nat} {c : Cf} {S S' : Ab} {v : Value} {an : An}
theorem Solo.below (h : Solo w0 w b T F c S) (hb : Below w.heap.size w w') : Solo w0 w' b T F c S := ⟨h.m.below hb, h.lo, h.bel.trans (hb.mono h.bel.size)⟩
/-- What a step of the card keeps: rows that are not the card's, each slice in them. -/
theorem Solo.step (h : Solo w0 w b T F c S) (hn : Nx w w' b T F c S') : ∃ b' T' F', Solo w0 w' b' T' F' c S' ∧ b'.E = b.E ∧ b'.n = b.n ∧ Turns w w' T ∧ ∀ k, k < w.heap.size → k ∉ T → k ∉ T' := by
  obtain ⟨b', T', F', h1, h2, h3, h4, h5, h6, h7⟩ := hn
  have hs := h.bel.size
  refine ⟨b', T', F', ⟨h1, fun k hk => ?_, h4.below h.bel hs h.lo⟩, h2, h3, h4, fun k hk hT hm => ?_⟩
  · rcases h6 k hk with hk | hk
    · exact h.lo k hk
    · omega
  · rcases h6 k hm with hm | hm
    · exact hT hm
    · omega
theorem Solo.ans (h : Solo w0 w b T F c S) (hn : NxA w w' b T F c S' v an) : ∃ b' T' F', Solo w0 w' b' T' F' c S' ∧ b'.E = b.E ∧ b'.n = b.n ∧ Turns w w' T ∧ (∀ k, k < w.heap.size → k ∉ T → k ∉ T') ∧ AnIs w' w.heap.size T' v an := by
  obtain ⟨b', T', F', h1, h2, h3, h4, h5, h6, h7, h8⟩ := hn
  have hs := h.bel.size
  refine ⟨b', T', F', ⟨h1, fun k hk => ?_, h4.below h.bel hs h.lo⟩, h2, h3, h4, fun k hk hT hm => ?_, h8⟩
  · rcases h6 k hk with hk | hk
    · exact h.lo k hk
    · omega
  · rcases h6 k hm with hm | hm
    · exact hT hm
    · omega
theorem Solo.E0 (h : Solo w0 w b T F c S) : w.cell? ⟨b.n.M, 0, none⟩ = some (.pointer (some ⟨b.E, 0, none⟩)) := by have := h.m.rM.cell 0; simpa using this
end
def shp : Cf := ⟨70, 16, 128, 256, 8, 8, 16, 8, 2⟩
theorem shp_ok : OkC shp := by
  refine ⟨⟨by decide, by decide, by decide, by decide, by decide, by decide, by decide, by decide, by decide, by decide, by decide, by decide, by decide⟩, ?_⟩
  decide
theorem Shape_any (w : World) : Calls Tryz.prog 33 #[] w fun e w' => e = .returned (.agg shp.l.toArray) ∧ Below w.heap.size w w' := by
  go_enter Tryz.func33, Tryz.ntmps33
  go_wp2
  refine bodyPost_ret (v := .agg shp.l.toArray) (results_cell_row rfl _ _ w.heap.size 23 _ (0, 0) _ rfl (Row.fresh _ _ _) Tryz.underlying23 rfl (by kernel_rfl)) rfl ⟨rfl, (Below.refl _ _).alloc (Nat.le_refl _) _⟩
end Go.Proofs.YtclhhdodebdmjaaGreat

namespace Go.Proofs.YtclhhdodebdmjaaGreat
open Go.RowKit Go.MapKept Go.ChangeMaps
set_option linter.unusedVariables false
set_option linter.unusedSimpArgs false
set_option maxRecDepth 100000

def ks (k : Nat) : Ab := gS k 0 (fun _ => 0) (List.replicate 16 0) (fun _ => Option.none) 0 Option.none Option.none []
theorem ks_cmd (k : Nat) (hk : k < 4) : ∃ an, CmdOk shp (ks k) (if k = 3 then 7 else (k : Int) + 1) 0 (ks (k + 1)) an := by
  rcases (by omega : k = 0 ∨ k = 1 ∨ k = 2 ∨ k = 3) with rfl | rfl | rfl | rfl
  · exact ⟨_, g1⟩
  · exact ⟨_, g2⟩
  · exact ⟨_, g3⟩
  · exact ⟨_, g7⟩
/-- A slice of bytes of noughts, but for the first. -/
def oneL (n x : Nat) : List Nat := (List.replicate n 0).set 0 x
theorem oneL_length (n x : Nat) : (oneL n x).length = n := by simp [oneL]
theorem oneL_lt {n x : Nat} (hx : x < 256) : ∀ y ∈ oneL n x, y < 256 := fun y hy => by
  unfold oneL at hy
  rcases List.mem_or_eq_of_mem_set hy with h | h
  · rw [List.eq_of_mem_replicate h]; decide
  · omega
theorem own_first {w : World} {B L n : Nat} (h : w.ownsRow B 5 1 (.slice (some ⟨L, 0, none⟩) n n) n (intsV .u8 (List.replicate n 0))) (hn : 0 < n) (x : Nat) : (w.setCell ⟨L, 0, none⟩ (.int .u8 (x : Nat))).ownsRow B 5 1 (.slice (some ⟨L, 0, none⟩) n n) n (intsV .u8 (oneL n x)) := by
  have h' : w.ownsRow B 5 1 (.slice (some ⟨L, 0, none⟩) (List.replicate n 0).length n) (List.replicate n 0).length (intsV .u8 (List.replicate n 0)) := by simpa using h
  have := own_put h' 0 x (by simpa using hn)
  simpa [oneL] using this
end Go.Proofs.YtclhhdodebdmjaaGreat

namespace Go.Proofs.YtclhhdodebdmjaaGreat
open Go.RowKit Go.MapKept Go.ChangeMaps
set_option linter.unusedVariables false
set_option linter.unusedSimpArgs false
set_option maxRecDepth 100000

set_option maxHeartbeats 2000000 in
theorem known_any (w : World) : Calls Tryz.prog 9 #[] w fun e w' => e = .returned (.bool true) ∧ Below w.heap.size w w' := by
  have HSh := Lib.hid (Shape_any w)
  have HN := fun W => Lib.hid (New_ok shp shp_ok W)
  obtain ⟨sv, hsv⟩ : ∃ sv, sv = shp.l.toArray := ⟨_, rfl⟩
  rw [← hsv] at HSh
  simp only [← hsv] at HN
  have HSv := Lib.hid hsv
  clear hsv
  go_enter Tryz.func9, Tryz.ntmps9
  go_wp2_with fail
  refine HSh.out.mono ?_
  rintro e w1 ⟨rfl, hb1⟩
  have HB1 := Lib.hid hb1
  clear hb1 HSh
  go_wp2_with fail
  refine (HN _).out.mono ?_
  rintro e w2 ⟨b, T, F, rfl, hA, hb2, hTl, _⟩
  have HS2 : Hid (Solo w w2 b T F shp (ks 0)) := ⟨hA, fun k hk => Nat.le_trans HB1.out.size (hTl k hk), HB1.out.trans (hb2.mono HB1.out.size)⟩
  clear hA hb2 hTl HN HB1
  obtain ⟨L, hL⟩ : ∃ L, L = w2.heap.size := ⟨_, rfl⟩
  obtain ⟨w3, hw3⟩ : ∃ w3, w3 = w2.alloc (.cells #[.int .i64 1, .int .i64 2, .int .i64 3, .int .i64 7] 3) := ⟨_, rfl⟩
  have hb3 : Below w2.heap.size w2 w3 := by rw [hw3]; exact (Below.refl _ _).alloc (Nat.le_refl _) _
  have HS3 := Lib.hid (HS2.out.below hb3)
  have HL3 : Hid (Row w3 L 3 #[.int .i64 1, .int .i64 2, .int .i64 3, .int .i64 7]) := by unfold Hid; rw [hw3, hL]; exact Row.fresh _ _ _
  have HLT : Hid (L ∉ T) := fun hm => by have := HS2.out.m.Tlt _ hm; omega
  clear hb3 HS2
  go_wp2_with fail
  rw [← hL]
  rw [hL, ← hw3, ← hL]
  clear hw3 hL
  go_loopw [22] (fun i9 wr => ∃ (k : Nat) (b' : Bn) (T' F' : List Nat), k ≤ 4 ∧ i9 = .int .i64 k ∧ Solo w wr b' T' F' shp (ks k) ∧ b'.E = b.E ∧ b'.n = b.n ∧ Row wr L 3 #[.int .i64 1, .int .i64 2, .int .i64 3, .int .i64 7] ∧ L ∉ T') (fun i9 _ => 4 - (intOf i9).toNat)
  case atStart => exact ⟨0, b, T, F, by omega, rfl, HS3.out, rfl, rfl, HL3.out, HLT.out⟩
  case round =>
    obtain ⟨k, b', T', F', hk, rfl, h1, h2, h3, h4, h5⟩ := hrel
    have HS := Lib.hid h1
    have HE := Lib.hid (And.intro h2 h3)
    have HLr := Lib.hid h4
    have HLt := Lib.hid h5
    have m0 : wr.cell? ⟨b.n.M, 0, none⟩ = some (.pointer (some ⟨b.E, 0, none⟩)) := by have := h1.E0; rw [h2, h3] at this; exact this
    clear h1 h2 h3 h4 h5 HS3 HL3 HLT
    by_cases hk4 : k < 4
    · obtain ⟨i, hi⟩ : ∃ i : Int, i = if k = 3 then 7 else (k : Int) + 1 := ⟨_, rfl⟩
      obtain ⟨an, hc⟩ := ks_cmd k hk4
      rw [← hi] at hc
      have HC : Hid (Calls Tryz.prog 23 #[.pointer (some ⟨b.E, 0, none⟩), .agg #[.int .i64 i, .int .u32 0], .bool true] wr fun e w' => ∃ v, e = .returned v ∧ NxA wr w' b' T' F' shp (ks (k + 1)) v an) := by
        have h := hc wr b' T' F' HS.out.m
        rw [HE.out.1] at h
        exact h
      have c0 : wr.cell? ⟨L, k, none⟩ = some (.int .i64 i) := by
        rw [HLr.out.cell, hi]
        rcases (by omega : k = 0 ∨ k = 1 ∨ k = 2 ∨ k = 3) with rfl | rfl | rfl | rfl <;> rfl
      clear hc hi
      go_wp2_with fail
      refine HC.out.mono ?_
      rintro e w4 ⟨v, rfl, hx⟩
      obtain ⟨b4, T4, F4, h1, h2, h3, h4, h5, _⟩ := HS.out.ans hx
      have HX : Hid (Solo w w4 b4 T4 F4 shp (ks (k + 1)) ∧ b4.E = b.E ∧ b4.n = b.n ∧ Row w4 L 3 #[.int .i64 1, .int .i64 2, .int .i64 3, .int .i64 7] ∧ L ∉ T4) := ⟨h1, h2.trans HE.out.1, h3.trans HE.out.2, h4.row HLr.out HLt.out, h5 L HLr.out.lt HLt.out⟩
      clear h1 h2 h3 h4 h5 hx HC HS HLr HLt m0 c0
      go_wp2
      go_roundw
      case rel => exact ⟨k + 1, b4, T4, F4, by omega, by go_num, HX.out.1, HX.out.2.1, HX.out.2.2.1, HX.out.2.2.2.1, HX.out.2.2.2.2⟩
      case measure => simp [intOf]; omega
    · obtain rfl : k = 4 := by omega
      have HC : Hid (Calls Tryz.prog 23 #[.pointer (some ⟨b.E, 0, none⟩), .agg #[.int .i64 24, .int .u32 3], .bool true] wr fun e w' => ∃ v, e = .returned v ∧ NxA wr w' b' T' F' shp (gS 6 1 (fun _ => 0) (List.replicate 16 0) (fun _ => Option.none) 0 Option.none Option.none [3]) v ⟨false, [], 3328, []⟩) := by
        have h := gwr (c := shp) (V := fun _ => 0) (G := List.replicate 16 0) (has := fun _ => Option.none) (up := 0) (f := Option.none) (t := Option.none) 3 (by omega) rfl (by decide) wr b' T' F' HS.out.m
        rw [HE.out.1] at h
        exact h
      obtain ⟨xs, hxs⟩ : ∃ xs, xs = (intsV .u8 (List.replicate 128 0)).toArray := ⟨_, rfl⟩
      have HXs := Lib.hid hxs
      have HMk : ∀ v : World, Hid ((Instr.makeSlice 53 (.int .i64 128) (.int .i64 128)).run Tryz.prog v = .ok (.slice (some ⟨v.heap.size, 0, none⟩) 128 128) (v.alloc (.cells xs 5))) := fun v => by rw [hxs]; exact make_bytes 128 (by omega) v
      clear hxs HLr HLt
      go_wp2_with fail
      refine HC.out.mono ?_
      rintro e w4 ⟨v, rfl, hx⟩
      obtain ⟨b4, T4, F4, h1, h2, h3, h4, h5, lv, bv, rfl, ⟨A1, n1, rfl, _⟩, ⟨A2, c2, us, rfl, _⟩⟩ := HS.out.ans hx
      simp only [List.length_nil] at *
      obtain ⟨Y, hY⟩ : ∃ Y, Y = w4.heap.size := ⟨_, rfl⟩
      obtain ⟨w5, hw5⟩ : ∃ w5, w5 = w4.alloc (.cells #[.bool false, .slice A1 0 n1, .int .u32 3328, .slice A2 0 c2] 56) := ⟨_, rfl⟩
      have hb5 : Below w4.heap.size w4 w5 := by rw [hw5]; exact (Below.refl _ _).alloc (Nat.le_refl _) _
      have HS5 : Hid (Solo w w5 b4 T4 F4 shp (gS 6 1 (fun _ => 0) (List.replicate 16 0) (fun _ => Option.none) 0 Option.none Option.none [3])) := h1.below hb5
      have HE5 : Hid (b4.E = b.E ∧ b4.n = b.n) := ⟨h2.trans HE.out.1, h3.trans HE.out.2⟩
      have HY5 : Hid (Row w5 Y 56 #[.bool false, .slice A1 0 n1, .int .u32 3328, .slice A2 0 c2]) := by unfold Hid; rw [hw5, hY]; exact Row.fresh _ _ _
      have HYT : Hid (Y ∉ T4) := fun hm => by have := h1.m.Tlt _ hm; omega
      clear h1 h2 h3 h4 h5 hx HC HS HE m0 hb5
      go_upto_region 10 with fail
      rw [← hY]
      rw [hY, ← hw5, ← hY]
      clear hw5 hY
      obtain ⟨L5, hL5⟩ : ∃ L5, L5 = w5.heap.size := ⟨_, rfl⟩
      obtain ⟨w6, hw6⟩ : ∃ w6, w6 = w5.alloc (.cells xs 5) := ⟨_, rfl⟩
      have hb6 : Below w5.heap.size w5 w6 := by rw [hw6]; exact (Below.refl _ _).alloc (Nat.le_refl _) _
      have hO6 : w6.ownsRow w5.heap.size 5 1 (.slice (some ⟨L5, 0, none⟩) 128 128) 128 (intsV .u8 (List.replicate 128 0)) := by rw [hw6, hL5, HXs.out]; exact own_zeros w5 128 (by unfold maxLen; omega)
      have HO6 := Lib.hid hO6
      have HS6 := Lib.hid (HS5.out.below hb6)
      have HY6 := Lib.hid (HY5.out.below hb6 HY5.out.lt)
      have HLT : Hid (L5 ∉ T4 ∧ L5 ≠ Y ∧ L5 ∉ F4) := ⟨fun hm => by have := HS5.out.m.Tlt _ hm; omega, by have := HY5.out.lt; omega, fun hm => by have := HS5.out.m.Flt _ hm; omega⟩
      have hmk := (HMk w5).out
      have HWl : Hid (w.heap.size ≤ w5.heap.size) := HS5.out.bel.size
      clear hb6 hO6 HS5 HY5
      go_upto_region 11 with fail
      rw [← hL5]
      rw [← hw6]
      clear hw6 hL5 hmk HMk
      obtain ⟨w7, hw7⟩ : ∃ w7, w7 = w6.setCell ⟨L5, 0, none⟩ (.int .u8 9) := ⟨_, rfl⟩
      have hT7 : Turns w6 w7 [L5] := by rw [hw7]; exact (Turns.refl _ _).setCell (by simp) _
      have HO7 : Hid (w7.ownsRow w5.heap.size 5 1 (.slice (some ⟨L5, 0, none⟩) 128 128) 128 (intsV .u8 (oneL 128 9))) := by unfold Hid; rw [hw7]; exact own_first HO6.out (by omega) 9
      have hLlo : w.heap.size ≤ L5 := by have h1 := (Vca.own_blk HO6.out L5 (by simp [Vca.blk])).1; have h2 := HS6.out.bel.size; have h3 := HY6.out.lt; have h4 := HWl.out; omega
      have HS7 : Hid (Solo w w7 b4 T4 F4 shp (gS 6 1 (fun _ => 0) (List.replicate 16 0) (fun _ => Option.none) 0 Option.none Option.none [3])) := ⟨HS6.out.m.turns hT7 (fun k hk => by obtain rfl := List.mem_singleton.1 hk; exact ⟨HLT.out.1, HLT.out.2.2⟩), HS6.out.lo, hT7.below HS6.out.bel HS6.out.bel.size (fun k hk => by obtain rfl := List.mem_singleton.1 hk; exact hLlo)⟩
      have HY7 := Lib.hid (hT7.row HY6.out (by simp; exact fun h => HLT.out.2.1 h.symm))
      have l0 : w6.cell? ⟨L5, 0, none⟩ = some (.int .u8 0) := by
        obtain ⟨g, u, e, hu, hc, _⟩ := own_at1 HO6.out 0 (by omega)
        injection e with e; injection e with e; subst e
        rw [hc]; injection hu with hu; exact congrArg some hu.symm
      have f0 := Vca.own_thaw4 HO6.out 0
      clear hT7 hLlo HS6 HO6 HY6
      go_upto_region 12 with fail
      rw [← hw7]
      clear hw7 l0 f0
      have m0 : w7.cell? ⟨b.n.M, 0, none⟩ = some (.pointer (some ⟨b.E, 0, none⟩)) := by have := HS7.out.E0; rw [HE5.out.1, HE5.out.2] at this; exact this
      have HD : Hid (Calls Tryz.prog 17 #[.pointer (some ⟨b.E, 0, none⟩), .slice (some ⟨L5, 0, none⟩) 128 128, .bool true] w7 fun e w' => e = .returned (.int .u8 229) ∧ Nx w7 w' b4 T4 F4 shp (gS 4 0 (fun _ => 0) (List.replicate 16 0) (fun q => if q = 3 then some (oneL 128 9) else Option.none) 0 Option.none Option.none [])) := by
        have h := gput (c := shp) (V := fun _ => 0) (G := List.replicate 16 0) (has := fun _ => Option.none) (up := 0) 3 3 rfl (by decide) (by decide) (oneL 128 9) (by rw [oneL_length]; rfl) (oneL_lt (by omega)) (by omega) w7 b4 T4 F4 (some ⟨L5, 0, none⟩) 128 HS7.out.m (fun W' hW' => by
          rw [oneL_length]
          exact Src.of_own (hW'.own HO7.out (fun g hg hm => by
            have : L5 = g := by simpa [Value.ownBlock] using hg
            exact HLT.out.1 (this ▸ hm))))
        rw [HE5.out.1, oneL_length] at h
        exact h
      go_wp2_with fail
      refine HD.out.mono ?_
      rintro e w8 ⟨rfl, hx⟩
      obtain ⟨b8, T8, F8, h1, h2, h3, h4, h5⟩ := HS7.out.step hx
      have HS8 := Lib.hid h1
      have HE8 : Hid (b8.E = b.E ∧ b8.n = b.n) := ⟨h2.trans HE5.out.1, h3.trans HE5.out.2⟩
      have HY8 := Lib.hid (h4.row HY7.out HYT.out)
      have HYT8 := Lib.hid (h5 Y HY7.out.lt HYT.out)
      have m0 : w8.cell? ⟨b.n.M, 0, none⟩ = some (.pointer (some ⟨b.E, 0, none⟩)) := by have := h1.E0; rw [HE8.out.1, HE8.out.2] at this; exact this
      have HR : Hid (Calls Tryz.prog 23 #[.pointer (some ⟨b.E, 0, none⟩), .agg #[.int .i64 17, .int .u32 3], .bool true] w8 fun e w' => ∃ v, e = .returned v ∧ NxA w8 w' b8 T8 F8 shp (gS 4 0 (fun _ => 0) (List.replicate 16 0) (fun q => if q = 3 then some (oneL 128 9) else Option.none) 0 Option.none Option.none []) v ⟨false, [], 2304, [oneL 128 9]⟩) := by
        have h := gread (c := shp) (V := fun _ => 0) (G := List.replicate 16 0) (has := fun q => if q = 3 then some (oneL 128 9) else Option.none) (up := 0) (f := Option.none) (t := Option.none) 3 3 (by omega) rfl (by decide) (by decide) w8 b8 T8 F8 h1.m
        rw [HE8.out.1] at h
        exact h
      clear h1 h2 h3 h4 h5 hx HD HS7 HE5 HO7 HLT HY7 HYT
      go_wp2_with fail
      refine HR.out.mono ?_
      rintro e w9 ⟨v, rfl, hx⟩
      obtain ⟨b9, T9, F9, h1, h2, h3, h4, h5, lv, bv, rfl, ⟨A3, n3, rfl, _⟩, ⟨A4, c4, us4, rfl, ho4, _, hi4⟩⟩ := HS8.out.ans hx
      obtain ⟨u, hu, A5, n5, rfl, ho5, _⟩ := hi4 0 (by simp)
      obtain ⟨g4, u4, rfl, hu4, hc4, hle4⟩ := own_at1 ho4 0 (by simp)
      rw [hu] at hu4
      injection hu4 with hu4
      subst hu4
      have hl5 : ([oneL 128 9].getD 0 []).length = 128 := by simp [oneL_length]
      rw [hl5] at ho5 hc4
      obtain ⟨g5, u5, rfl, hu5, hc5, hle5⟩ := own_at1 ho5 0 (by omega)
      have h9 : u5 = .int .u8 9 := by
        have e : (intsV .u8 ([oneL 128 9].getD 0 []))[0]? = some (.int .u8 9) := by rfl
        rw [e] at hu5; injection hu5 with hu5; exact hu5.symm
      subst h9
      simp only [List.length_nil, List.length_cons, Nat.zero_add] at *
      have HBf := Lib.hid h1.bel
      have HY9 := Lib.hid (h4.row HY8.out HYT8.out)
      obtain ⟨Z, hZ⟩ : ∃ Z, Z = w9.heap.size := ⟨_, rfl⟩
      obtain ⟨wa, hwa⟩ : ∃ wa, wa = w9.alloc (.cells #[.bool false, .slice A3 0 n3, .int .u32 2304, .slice (some ⟨g4, 0, none⟩) 1 c4] 56) := ⟨_, rfl⟩
      have hba : Below w9.heap.size w9 wa := by rw [hwa]; exact (Below.refl _ _).alloc (Nat.le_refl _) _
      have hZr : Row wa Z 56 #[.bool false, .slice A3 0 n3, .int .u32 2304, .slice (some ⟨g4, 0, none⟩) 1 c4] := by rw [hwa, hZ]; exact Row.fresh _ _ _
      have y2 : wa.cell? ⟨Y, 2, none⟩ = some (.int .u32 3328) := keep_below hba _ _ (by rw [HY9.out.cell]; rfl)
      have z2 : wa.cell? ⟨Z, 2, none⟩ = some (.int .u32 2304) := by rw [hZr.cell]; rfl
      have z3 : wa.cell? ⟨Z, 3, none⟩ = some (.slice (some ⟨g4, 0, none⟩) 1 c4) := by rw [hZr.cell]; rfl
      have x4 := keep_below hba _ _ hc4
      have x5 := keep_below hba _ _ hc5
      have HBf2 : Hid (Below w.heap.size w wa) := HBf.out.trans (hba.mono HBf.out.size)
      clear h1 h2 h3 h4 h5 hx HR HS8 HE8 HY8 HYT8 hba hZr hc4 hc5 ho4 hi4 ho5 hu hu5 HY9 HBf
      go_upto_region 14 with fail
      rw [← hZ]
      rw [hZ, ← hwa, ← hZ]
      clear hwa hZ
      go_wp2
      go_ret
      exact ⟨rfl, HBf2.out⟩
end Go.Proofs.YtclhhdodebdmjaaGreat

namespace Go.Proofs.YtclhhdodebdmjaaGreat
open Go.RowKit Go.MapKept Go.ChangeMaps
set_option linter.unusedVariables false
set_option linter.unusedSimpArgs false
set_option maxRecDepth 100000

noncomputable def smallB (c : Cf) : Bool := checkV c == 0 && decide (c.user ≤ 400) && decide (c.blocks ≤ 300)
theorem smallB_ok {c : Cf} (h : smallB c = true) : OkC c ∧ c.user ≤ 400 ∧ c.blocks ≤ 300 := by
  unfold smallB at h
  simp only [Bool.and_eq_true, beq_iff_eq, decide_eq_true_eq] at h
  refine ⟨?_, h.1.2, h.2⟩
  have h1 := h.1.1
  unfold checkV at h1
  split at h1
  · assumption
  · omega
theorem Small_any (c : Cf) (w : World) : Calls Tryz.prog 11 #[.agg c.l.toArray] w fun e w' => e = .returned (.bool (smallB c)) ∧ Below w.heap.size w w' := by
  have HC := fun W => Lib.hid (rCheck_any c W)
  have HS : Hid (smallB c = (checkV c == 0 && decide (c.user ≤ 400) && decide (c.blocks ≤ 300))) := rfl
  obtain ⟨k, hk⟩ : ∃ k, k = checkV c := ⟨_, rfl⟩
  rw [← hk] at HS
  simp only [← hk] at HC
  clear hk
  generalize smallB c = r at *
  obtain ⟨cb, cp, cs, cu, co, cr, cg, ca, cz⟩ := c
  simp only [Cf.l] at HC HS ⊢
  have hR := fun o => Lib.hid (Row.fresh w 23 o)
  have HB1 : ∀ o, Hid (Below w.heap.size w (w.alloc o)) := fun o => (Below.refl _ _).alloc (Nat.le_refl _) _
  go_enter Tryz.func11, Tryz.ntmps11
  go_wp2_with fail
  refine (HC _).out.mono ?_
  rintro e w1 ⟨rfl, hb⟩
  have HB2 : Hid (Below w.heap.size w w1) := (HB1 _).out.trans (hb.mono (by simp))
  have HR2 := Lib.hid ((hR _).out.below hb (hR _).out.lt)
  clear hb HB1 hR HC
  have q0 : w1.cell? ⟨w.heap.size, 0, none⟩ = some (.int .i64 cb) := by rw [HR2.out.cell]; rfl
  have q3 : w1.cell? ⟨w.heap.size, 3, none⟩ = some (.int .i64 cu) := by rw [HR2.out.cell]; rfl
  by_cases h1 : k = 0
  · by_cases h2 : cu ≤ 400
    · by_cases h3 : cb ≤ 300
      · have HE : Hid (r = true) := by unfold Hid; rw [HS.out]; simp [h1, h2, h3]
        clear HS
        subst h1
        go_wp2
        go_ret
        exact ⟨by rw [HE.out]; rfl, HB2.out⟩
      · have HE : Hid (r = false) := by unfold Hid; rw [HS.out]; simp [h3]
        have h3' : decide (cb ≤ 300) = false := by simp [h3]
        clear HS h3
        subst h1
        go_wp2
        go_ret
        exact ⟨by rw [HE.out]; rfl, HB2.out⟩
    · have HE : Hid (r = false) := by unfold Hid; rw [HS.out]; simp [h2]
      have h2' : decide (cu ≤ 400) = false := by simp [h2]
      clear HS h2
      subst h1
      go_wp2
      go_ret
      exact ⟨by rw [HE.out]; rfl, HB2.out⟩
  · have HE : Hid (r = false) := by unfold Hid; rw [HS.out]; simp [h1]
    have h1' : (k == 0) = false := by simpa using h1
    clear HS h1
    go_wp2
    go_ret
    exact ⟨by rw [HE.out]; rfl, HB2.out⟩
/-- An act in memory. -/
def ActAt (w : World) (L o : Nat) (a : Act) : Prop := ∃ A1 c1 A2 c2, (∀ j u, (actCells a (.slice A1 a.data.length c1) (.slice A2 a.front.length c2))[j]? = some u → w.cell? ⟨L, o + j, none⟩ = some u) ∧ Src w 1 A1 a.data.length (intsV .u8 a.data) ∧ Src w 1 A2 a.front.length (intsV .u8 a.front)
def ActsAt (w : World) (A : Option Addr) (al : List Act) : Prop := ∀ i a, al[i]? = some a → ∃ L o, A = some ⟨L, o, none⟩ ∧ ActAt w L (o + i * 9) a
/-- An act is done on both cards so. -/
def StepOk (c : Cf) (S : Ab) (a : Act) (S' : Ab) : Prop := ∀ w0 w b T F r U G A1 c1 A2 c2, Two w0 w b T F r U G c S → (∀ W, Below w0.heap.size w0 W → Src W 1 A1 a.data.length (intsV .u8 a.data)) → (∀ W, Below w0.heap.size w0 W → Src W 1 A2 a.front.length (intsV .u8 a.front)) →
  Calls Tryz.prog 21 #[.pointer (some ⟨b.n.M, 0, none⟩), .pointer (some ⟨r.M, 0, none⟩), .agg (actCells a (.slice A1 a.data.length c1) (.slice A2 a.front.length c2))] w fun e w' => e = .returned (.bool true) ∧ Done w0 w' b r c S'
/-- An act that is a command. -/
theorem stepOk_cmd {c : Cf} {S S' : Ab} {an : An} (a : Act) (hb : a.blk = false) (hu : a.up = false) (hbad : a.bad = false) (harg : a.arg < 4294967296) (hbl : an.bl.length ≤ 1000) (HP : CmdOk c S a.idx (argN a S.addr) S' an) (HR : RcmdOk c S a.idx (argN a S.addr) S' an) : StepOk c S a S' := fun w0 w b T F r U G A1 c1 A2 c2 h _ _ =>
  step_of h a hb hu harg A1 _ c1 A2 _ c2 hbl (fun W hA => by rw [hbad]; exact HP W b T F hA) (fun W hR => by rw [hbad]; exact HR W r U G hR h.m.ok)
set_option maxHeartbeats 1000000 in
theorem begun_of (c : Cf) (h : OkC c) (w : World) (A : Option Addr) (n cc : Nat) (al : List Act) (hn : n = al.length) (hn2 : n ≤ 1000) (hA : ActsAt w A al) (hcap : n ≤ cc) (S : Nat → Ab) (h0 : S 0 = Ab.new c) (hs : ∀ i a, al[i]? = some a → StepOk c (S i) a (S (i + 1))) :
    Calls Tryz.prog 12 #[.agg c.l.toArray, .slice A n cc] w fun e w' => ∃ b T F r U G, e = .returned (.tuple #[.pointer (some ⟨b.n.M, 0, none⟩), .pointer (some ⟨r.M, 0, none⟩)]) ∧ Two w w' b T F r U G c (S n) := by
  have HN := fun W => Lib.hid (New_ok c h W)
  have HRN := fun W => Lib.hid (rcNew_ok c h W)
  have HAl := Lib.hid (And.intro hn (And.intro hA (And.intro h0 hs)))
  have hR := fun o => Lib.hid (Row.fresh w 23 o)
  have HB1 : ∀ o, Hid (Below w.heap.size w (w.alloc o)) := fun o => (Below.refl _ _).alloc (Nat.le_refl _) _
  have HC : Hid (c.l.toArray = c.l.toArray) := rfl
  clear hn hA h0 hs h
  obtain ⟨cb, cp, cs, cu, co, cr, cg, ca, cz⟩ := c
  simp only [Cf.l] at HN HRN ⊢
  go_enter Tryz.func12, Tryz.ntmps12
  go_wp2_with fail
  refine (HN _).out.mono ?_
  rintro e w2 ⟨b, T, F, rfl, hA, hb, hTl, hF⟩
  have HB2 : Hid (Below w.heap.size w w2) := (HB1 _).out.trans (hb.mono (by simp))
  have HR2 := Lib.hid ((hR _).out.below hb (hR _).out.lt)
  have HA2 := Lib.hid hA
  have HT2 : Hid (∀ k ∈ T, w.heap.size ≤ k) := fun k hk => by have := hTl k hk; simp at this; omega
  have HF2 := Lib.hid hF
  clear hb hTl hF hA HB1 hR HN
  have q0 : w2.cell? ⟨w.heap.size, 0, none⟩ = some (.int .i64 cb) := by rw [HR2.out.cell]; rfl
  have q1 : w2.cell? ⟨w.heap.size, 1, none⟩ = some (.int .i64 cp) := by rw [HR2.out.cell]; rfl
  have q2 : w2.cell? ⟨w.heap.size, 2, none⟩ = some (.int .i64 cs) := by rw [HR2.out.cell]; rfl
  have q3 : w2.cell? ⟨w.heap.size, 3, none⟩ = some (.int .i64 cu) := by rw [HR2.out.cell]; rfl
  have q4 : w2.cell? ⟨w.heap.size, 4, none⟩ = some (.int .i64 co) := by rw [HR2.out.cell]; rfl
  have q5 : w2.cell? ⟨w.heap.size, 5, none⟩ = some (.int .i64 cr) := by rw [HR2.out.cell]; rfl
  have q6 : w2.cell? ⟨w.heap.size, 6, none⟩ = some (.int .i64 cg) := by rw [HR2.out.cell]; rfl
  have q7 : w2.cell? ⟨w.heap.size, 7, none⟩ = some (.int .i64 ca) := by rw [HR2.out.cell]; rfl
  have q8 : w2.cell? ⟨w.heap.size, 8, none⟩ = some (.int .i64 cz) := by rw [HR2.out.cell]; rfl
  go_wp2_with fail
  refine (HRN _).out.mono ?_
  rintro e w3 ⟨r, U, rfl, hR, hb, hUl⟩
  have HT3 : Hid (Two w w3 b T F r U [] ⟨cb, cp, cs, cu, co, cr, cg, ca, cz⟩ (S 0)) := by
    rw [HAl.out.2.2.1]
    have hs2 := HB2.out.size
    exact ⟨HA2.out.below hb, hR, fun k hk => ⟨fun hm => by have := HA2.out.Tlt k hk; have := hUl k hm; omega, by simp⟩, fun k hk hm => by have := HA2.out.Flt k hk; have := hUl k hm; omega, ⟨HT2.out, fun k hk => by have := hUl k hk; omega⟩, HB2.out.trans (hb.mono hs2)⟩
  clear hR hb hUl HRN HA2 HT2 HF2 HB2 HR2 q0 q1 q2 q3 q4 q5 q6 q7 q8
  go_wp2_with fail
  go_loopw [10] (fun i9 wr => ∃ (k : Nat) (b' : Bn) (T' F' : List Nat) (r' : Rn) (U' G' : List Nat), k ≤ n ∧ i9 = .int .i64 k ∧ Two w wr b' T' F' r' U' G' ⟨cb, cp, cs, cu, co, cr, cg, ca, cz⟩ (S k) ∧ b'.E = b.E ∧ b'.n = b.n ∧ r'.M = r.M) (fun i9 _ => n - (intOf i9).toNat)
  case atStart => exact ⟨0, b, T, F, r, U, [], Nat.zero_le _, rfl, HT3.out, rfl, rfl, rfl⟩
  case round =>
    obtain ⟨k, b', T', F', r', U', G', hk, rfl, h1, h2, h3, h4⟩ := hrel
    have HT := Lib.hid h1
    have HE := Lib.hid (And.intro h2 (And.intro h3 h4))
    clear h1 h2 h3 h4 HT3
    by_cases hkn : k < n
    · obtain ⟨a, ha⟩ : ∃ a, al[k]? = some a := ⟨_, List.getElem?_eq_getElem (by rw [← HAl.out.1]; exact hkn)⟩
      obtain ⟨L, o, hAe, A1, c1, A2, c2, hcs, hd1, hd2⟩ := HAl.out.2.1 k a ha
      subst hAe
      have hst := HAl.out.2.2.2 k a ha w wr b' T' F' r' U' G' A1 c1 A2 c2 HT.out (fun W hW => hd1.keep (fun p v h => keep_below hW _ _ h)) (fun W hW => hd2.keep (fun p v h => keep_below hW _ _ h))
      rw [HE.out.2.1, HE.out.2.2] at hst
      have hcs2 : ∀ j u, (actCells a (.slice A1 a.data.length c1) (.slice A2 a.front.length c2))[j]? = some u → wr.cell? ⟨L, o + k * 9 + j, none⟩ = some u := fun j u hu => keep_below HT.out.bel _ _ (hcs j u hu)
      obtain ⟨blk, idx, arg, mine, bad, fill, data, front, up⟩ := a
      simp only [actCells] at hst hcs2
      have HSt := Lib.hid hst
      have a0 := hcs2 0 _ rfl
      have a1 := hcs2 1 _ rfl
      have a2 := hcs2 2 _ rfl
      have a3 := hcs2 3 _ rfl
      have a4 := hcs2 4 _ rfl
      have a5 := hcs2 5 _ rfl
      have a6 := hcs2 6 _ rfl
      have a7 := hcs2 7 _ rfl
      have a8 := hcs2 8 _ rfl
      rw [Nat.add_zero] at a0
      clear ha hcs hd1 hd2 hst hcs2
      go_wp2_with fail
      refine HSt.out.mono ?_
      rintro e w4 ⟨rfl, b4, T4, F4, r4, U4, G4, h1, h2, h3, h4⟩
      have HX : Hid (Two w w4 b4 T4 F4 r4 U4 G4 ⟨cb, cp, cs, cu, co, cr, cg, ca, cz⟩ (S (k + 1)) ∧ b4.E = b.E ∧ b4.n = b.n ∧ r4.M = r.M) := ⟨h1, h2.trans HE.out.1, h3.trans HE.out.2.1, h4.trans HE.out.2.2⟩
      clear h1 h2 h3 h4 HSt HT HE a0 a1 a2 a3 a4 a5 a6 a7 a8
      go_wp2
      go_roundw
      case rel => exact ⟨k + 1, b4, T4, F4, r4, U4, G4, by omega, by go_num, HX.out.1, HX.out.2.1, HX.out.2.2.1, HX.out.2.2.2⟩
      case measure => simp [intOf]; omega
    · obtain rfl : k = n := by omega
      have HX : Hid (∃ b2 T2 F2 r2 U2 G2, b2.n = b.n ∧ r2.M = r.M ∧ Two w wr b2 T2 F2 r2 U2 G2 ⟨cb, cp, cs, cu, co, cr, cg, ca, cz⟩ (S k)) := ⟨b', T', F', r', U', G', HE.out.2.1, HE.out.2.2, HT.out⟩
      go_wp2
      go_ret2
      obtain ⟨b2, T2, F2, r2, U2, G2, e1, e2, h⟩ := HX.out
      exact ⟨b2, T2, F2, r2, U2, G2, by rw [e1, e2]; rfl, h⟩
end Go.Proofs.YtclhhdodebdmjaaGreat
