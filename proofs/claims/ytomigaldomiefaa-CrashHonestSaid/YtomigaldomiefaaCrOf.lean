/- crash: of, its closure: what it hands on. -/
import Derived.Test.YtomigaldomiefaaCrDurable
import Derived.Test.YtomigaldomiefaaOwnSeq
import Derived.Test.YtomigaldomiefaaLaterRound
import Derived.RangeFuncNested
import Derived.RangeFuncBound
import Derived.RangeFuncCalls
import Derived.RangeFuncLeaves
import Derived.Shelf.Abstract
import Derived.Shelf.RegionOpen
import Derived.OwnWalkIn
import Derived.TacticsInMore
import Derived.LoopNIn
import Derived.LoopIn
namespace Go.Proofs.Ytomigaldomiefaa
open Go.RowKit Go.Shelf
theorem wide_fn (f : FuncId) : Fence.wide.fn f := trivial
attribute [local go_sem] Oper.semAt_some
attribute [local simp, local go_sem] wide_fn
set_option linter.unusedVariables false
set_option linter.unusedSimpArgs false

/-- The blocks before K are as they were, but for some. -/
structure KpS (K : Nat) (S : List Nat) (W W' : World) : Prop where
  size : W.heap.size ≤ W'.heap.size
  block : ∀ k, k < K → k ∉ S → W'.heap[k]? = W.heap[k]?
theorem KpS.refl (K : Nat) (S : List Nat) (W : World) : KpS K S W W := ⟨Nat.le_refl _, fun _ _ _ => rfl⟩
theorem KpS.trans {K : Nat} {S : List Nat} {A B C : World} (h : KpS K S A B) (h' : KpS K S B C) : KpS K S A C := ⟨Nat.le_trans h.size h'.size, fun k hk hn => (h'.block k hk hn).trans (h.block k hk hn)⟩
theorem KpS.of_below {K : Nat} {S : List Nat} {W W' : World} (h : Below W.heap.size W W') (hK : K ≤ W.heap.size) : KpS K S W W' := ⟨h.size, fun k hk _ => h.block k (by omega)⟩
theorem KpS.row {K : Nat} {S : List Nat} {W W' : World} (h : KpS K S W W') {g : Nat} {t : TypeId} {cs : Array Value} (hr : Row W g t cs) (hK : g < K) (hn : g ∉ S) : Row W' g t cs := (h.block g hK hn).trans hr
theorem KpS.cell {K : Nat} {S : List Nat} {W W' : World} (h : KpS K S W W') {p : Addr} {v : Value} (hc : W.cell? p = some v) (hK : p.block < K) (hn : p.block ∉ S) : W'.cell? p = some v := (World.cell?_of_block (h.block p.block hK hn)).trans hc
theorem KpS.mono {K K' : Nat} {S S' : List Nat} {W W' : World} (h : KpS K S W W') (hK : K' ≤ K) (hS : ∀ k ∈ S, k < K' → k ∈ S') : KpS K' S' W W' := ⟨h.size, fun k hk hn => h.block k (by omega) (fun hm => hn (hS k hm hk))⟩
def notLoop : Obj → Bool | .loop _ => false | _ => true
/-- All is as it was but for some blocks, and for the records of loops. -/
structure KpC (T : List Nat) (W W' : World) : Prop where
  size : W.heap.size ≤ W'.heap.size
  same : ∀ (k : Nat) (o : Obj), k ∉ T → W.heap[k]? = some o → notLoop o = true → W'.heap[k]? = some o
section
variable {T T' : List Nat} {W W' : World}
theorem KpC.trans {X Y Z : World} (h : KpC T X Y) (h' : KpC T Y Z) : KpC T X Z := ⟨Nat.le_trans h.size h'.size, fun k o hn hk ho => h'.same k o hn (h.same k o hn hk ho) ho⟩
theorem KpC.of_below (h : Below W.heap.size W W') : KpC T W W' := ⟨h.size, fun k o _ hk _ => (h.block k (Array.getElem?_eq_some_iff.1 hk).1).trans hk⟩
theorem KpC.of_turns {S : List Nat} (h : Turns W W' S) (hS : ∀ k ∈ S, k ∈ T) : KpC T W W' := ⟨h.size, fun k o hn hk _ => (h.block k (Array.getElem?_eq_some_iff.1 hk).1 (fun hm => hn (hS k hm))).trans hk⟩
theorem KpC.row (h : KpC T W W') {g : Nat} {t : TypeId} {cs : Array Value} (hr : Row W g t cs) (hn : g ∉ T) : Row W' g t cs := h.same g _ hn hr rfl
theorem KpC.mono (h : KpC T W W') (hT : ∀ k ∈ T, k < W.heap.size → k ∈ T') : KpC T' W W' := ⟨h.size, fun k o hn hk ho => h.same k o (fun hm => hn (hT k hm (Array.getElem?_eq_some_iff.1 hk).1)) hk ho⟩
theorem KpC.put {l : Nat} {r : Loop} {o' : Obj} (hl : W.heap[l]? = some (.loop r)) : KpC T W (W.putObj l o') := ⟨by simp, fun k o2 _ hk ho => by
  by_cases e : k = l
  · subst e
    rw [hl] at hk; injection hk with hk; subst hk
    cases ho
  · exact (World.putObj_heap_other e).trans hk⟩
theorem KpC.cell (h : KpC T W W') {p : Addr} {v : Value} (hc : W.cell? p = some v) (hn : p.block ∉ T) : W'.cell? p = some v := by
  have hlt := World.block_lt_of_cell? W p hc
  obtain ⟨o, ho⟩ : ∃ o, W.heap[p.block]? = some o := ⟨_, Array.getElem?_eq_getElem hlt⟩
  have hcell : notLoop o = true := by
    unfold World.cell? at hc
    rw [ho] at hc
    cases o <;> simp [notLoop] at hc ⊢
  exact (World.cell?_of_block ((h.same _ o hn ho hcell).trans ho.symm)).trans hc
end
abbrev encT (x : List Nat) : Array Value := #[.string (textOf x)]
theorem ofP_take (l : List Wr) (p k q : Nat) (d : List Nat) (h : l[k]? = some (q, d)) : ofP (l.take (k + 1)) p = ofP (l.take k) p ++ (if q = p then [d] else []) := by
  have e : l.take (k + 1) = l.take k ++ [(q, d)] := by rw [List.take_add_one, h]; rfl
  unfold ofP; rw [e, List.filterMap_append]
  by_cases hq : q = p <;> simp [hq]
theorem ofP_le (l : List Wr) (p : Nat) : (ofP l p).length ≤ l.length := List.length_filterMap_le _ _
/-- What of's closure reads. -/
structure OfAt (W : World) (Z1 Z2 c p : Nat) (A : Option Addr) (l : List Wr) : Prop where
  z1 : W.cell? ⟨Z1, 0, none⟩ = some (.slice A l.length c)
  z2 : W.cell? ⟨Z2, 0, none⟩ = some (.int .i64 p)
  at0 : ∀ (k : Nat) (x : Wr), l[k]? = some x → ∃ g A1 c1, A = some ⟨g, 0, none⟩ ∧ W.cell? ⟨g, k * 3, none⟩ = some (.int .i64 0) ∧ W.cell? ⟨g, k * 3 + 1, none⟩ = some (.int .i64 x.1) ∧ W.cell? ⟨g, k * 3 + 2, none⟩ = some (.slice A1 x.2.length c1) ∧ Cells8 W A1 x.2
set_option maxRecDepth 100000 in
set_option maxHeartbeats 2000000 in
theorem of1_own (n : Nat) (hn : 2 ≤ n) (Z1 Z2 c p : Nat) (A : Option Addr) (l : List Wr) (hlen : l.length ≤ 3518437208883) (w : World) {Kp : World → World → Prop} (hKb : ∀ W W' : World, Below W.heap.size W W' → Kp W W') (hKt : ∀ {X Y Z : World}, Kp X Y → Kp Y Z → Kp X Z) (hc : ∀ W, Kp w W → OfAt W Z1 Z2 c p A l) :
    SeqOwn Fence.wide n Try.prog 70 #[.pointer (some ⟨Z1, 0, none⟩), .pointer (some ⟨Z2, 0, none⟩)] encT Kp (fun x _ => x ∈ ofP l p) (fun xs => xs = ofP l p) (fun pre => ∃ k, k ≤ l.length ∧ pre = ofP (l.take k) p) (ofP l p).length w := by
  intro lb J Jx W hW hJ hJx hY h0
  obtain ⟨len, hl⟩ : ∃ len, len = l.length := ⟨_, rfl⟩
  have HL := Lib.hid hl
  have HC := Lib.hid hc
  have HY := Lib.hid hY
  have HJ := Lib.hid hJ
  have hW0 : Kp w W := hKb _ _ hW
  have HKb := Lib.hid hKb
  have HKt : Hid (∀ {X Y Z : World}, Kp X Y → Kp Y Z → Kp X Z) := hKt
  rw [← hl] at hlen ⊢
  have hz0 : W.cell? ⟨Z1, 0, none⟩ = some (.slice A len c) := by rw [hl]; exact (hc W hW0).z1
  clear hc hY hl hJ hJx hW hKb hKt
  refine callsIn_of_wp Try.func70 rfl trivial ?_ rfl
  simp only [Try.ntmps70, List.size_toArray, List.length_cons, List.length_nil, Nat.reduceAdd, Nat.reduceSub, Array.replicate_succ, Array.replicate_zero, List.push_toArray, List.append_toArray, List.nil_append, List.cons_append]
  gi_wp2
  gi_loopw [5, 8] (fun bp i wr => ∃ k : Nat, k ≤ len ∧ i = .int .i64 k ∧ J (ofP (l.take k) p) wr ∧ Kp w wr) (fun _ i _ => len - (intOf i).toNat)
  case atStart => exact ⟨0, by omega, rfl, h0, hW0⟩
  case round =>
    clear hz0 h0 hW0
    obtain ⟨k, hk, rfl, hjs, hkp⟩ := hrel
    by_cases hkn : k < len
    · obtain ⟨⟨q, d⟩, hx⟩ : ∃ x, l[k]? = some x := ⟨_, List.getElem?_eq_getElem (by rw [← HL.out]; exact hkn)⟩
      have hof := HC.out wr hkp
      obtain ⟨g, A1, c1, rfl, q0, q1, q2, hd⟩ := hof.at0 k (q, d) hx
      have hz2 := hof.z2
      have HSt := Lib.hid (ofP_take l p k q d hx)
      obtain ⟨wz, hwz⟩ : ∃ wz, wz = wr.alloc (.cells #[.int .i64 0, .int .i64 q, .slice A1 d.length c1] 30) := ⟨_, rfl⟩
      have HBz : Hid (Below wr.heap.size wr wz) := by unfold Hid; rw [hwz]; (repeat (first | (with_reducible refine Below.drew ?_) | (with_reducible refine below_drewN0 ?_ _) | ((with_reducible refine Below.setCell ?_ ?_ _); rotate_left; focus (first | omega | (simp; done) | (simp; omega) | (simp at *; omega))) | ((with_reducible refine Below.alloc ?_ ?_ _); rotate_left; focus (first | omega | (simp; done) | (simp; omega) | (simp at *; omega))) | (with_reducible exact Below.refl _ _)))
      have HRz : Hid (Row wz wr.heap.size 30 #[.int .i64 0, .int .i64 q, .slice A1 d.length c1]) := by unfold Hid; rw [hwz]; exact Row.fresh _ _ _
      have HJz : Hid (J (ofP (l.take k) p) wz) := HJ.out _ wr wz none hjs ⟨HBz.out.os, HBz.out.tape, HBz.out.output, HBz.out.size, fun k hk _ => HBz.out.block k hk⟩ (fun r e => by cases e)
      have HKz : Hid (Kp w wz) := HKt.out hkp (HKb.out _ _ HBz.out)
      have z2 : wz.cell? ⟨Z2, 0, none⟩ = some (.int .i64 p) := keep_below HBz.out _ _ hz2
      have kc : (convert 22 9 (.slice A1 d.length c1)).run Try.prog wz = .ok (.string (textOf d)) wz := conv_text (hd.keep (keep_below HBz.out))
      have r1 := HRz.out.cell 1
      have r2 := HRz.out.cell 2
      simp only [List.getElem?_toArray, List.getElem?_cons_zero, List.getElem?_cons_succ] at r1 r2
      have HMm : Hid (q = p → d ∈ ofP l p) := fun e => mem_ofP.2 (by rw [← e]; exact List.mem_of_getElem? hx)
      have HPl : Hid (q = p → (ofP (l.take k) p).length < (ofP l p).length) := fun e => by
        have h1 := HSt.out
        rw [if_pos e] at h1
        have h2 := (List.Sublist.filterMap (fun x : Wr => if x.1 = p then some x.2 else none) (List.take_sublist (k + 1) l)).length_le
        have h3 : (ofP (l.take (k + 1)) p).length ≤ (ofP l p).length := h2
        rw [h1, List.length_append] at h3
        simp at h3; omega
      clear hjs hkp hof hd hx hz2
      generalize d.length = dl at *
      by_cases hqp : q = p
      · rw [if_pos hqp] at HSt
        subst hqp
        obtain ⟨fn, tmps, assign, body, hy, hR⟩ := HY.out _ d wz (HMm.out rfl) HJz.out (HPl.out rfl)
        rw [← HSt.out] at hR
        try dsimp only [encT] at hy
        have HR := Lib.hid hR
        clear hR r1 r2
        subst hwz
        gi_wp2
        refine ⟨fun _ => by omega, HR.out.mono ?_⟩
        rintro e W3 (⟨rfl, hJ3, hk3, _⟩ | ⟨rfl, hJx3, _, _⟩)
        · have HJ3 := Lib.hid hJ3
          have HK3 := Lib.hid hk3
          clear hJ3 hk3 hy z2 kc
          gi_wp2
          go_roundw
          case rel => exact ⟨k + 1, by omega, by go_num, HJ3.out, HKt.out HKz.out HK3.out⟩
          case measure => simp [intOf]; omega
        · have HX := Lib.hid hJx3
          clear hJx3 hy z2 kc
          gi_wp2
          refine bodyPost_ret (results_none rfl _ _ _) rfl ?_
          exact ⟨⟨_, rfl⟩, .inr ⟨_, ⟨k + 1, by omega, rfl⟩, HX.out⟩⟩
      · have hqi : ¬ (q : Int) = p := by omega
        rw [if_neg hqp, List.append_nil] at HSt
        clear hqp kc r1 r2
        subst hwz
        gi_wp2
        clear z2
        go_roundw
        case rel => exact ⟨k + 1, by omega, by go_num, by rw [HSt.out]; exact HJz.out, HKz.out⟩
        case measure => simp [intOf]; omega
    · obtain rfl : k = len := by omega
      have hall : l.take k = l := by rw [HL.out]; exact List.take_length
      rw [hall] at hjs
      have HJs := Lib.hid hjs
      clear HY HJ hjs
      gi_wp2
      go_end0
      exact ⟨⟨_, rfl⟩, .inl ⟨_, rfl, HJs.out⟩⟩
end Go.Proofs.Ytomigaldomiefaa
