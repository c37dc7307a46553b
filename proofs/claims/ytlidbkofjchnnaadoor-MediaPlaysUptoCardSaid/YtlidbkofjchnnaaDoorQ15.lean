/- What follows is laid together from several texts of mine, in their order. -/
import Derived.Test.YtlidbkofjchnnaaDoorQ14
import Derived.Test.YtlidbkofjchnnaaDoorQ11
import Derived.Test.YtlidbkofjchnnaaDoorQ7

namespace Go.Proofs.YtlidbkofjchnnaaDoor
open Go.RowKit
set_option linter.unusedVariables false
set_option linter.unusedSimpArgs false

/-- What stands at a: these ints. -/
def CellsI (w : World) (a : Option Addr) (l : List Int) : Prop := ∀ i (h : i < l.length), ∃ b off, a = some ⟨b, off, none⟩ ∧ w.cell? ⟨b, off + i, none⟩ = some (.int .i64 (l.getD i 0))
theorem CellsI.addr {w : World} {a : Option Addr} {l : List Int} (h : CellsI w a l) (hl : l ≠ []) : ∃ b off, a = some ⟨b, off, none⟩ := by
  cases l with
  | nil => exact absurd rfl hl
  | cons x l => obtain ⟨b, off, e, _⟩ := h 0 (by simp); exact ⟨b, off, e⟩
theorem CellsI.at0 {w : World} {b off : Nat} {l : List Int} (h : CellsI w (some ⟨b, off, none⟩) l) (i : Nat) (hi : i < l.length) : w.cell? ⟨b, off + i, none⟩ = some (.int .i64 (l.getD i 0)) := by
  obtain ⟨b', off', e, hc⟩ := h i hi
  injection e with e
  injection e with e1 e2
  subst e1; subst e2; exact hc
theorem CellsI.keep {w w' : World} {a : Option Addr} {l : List Int} (h : CellsI w a l) (hk : ∀ p v, w.cell? p = some v → w'.cell? p = some v) : CellsI w' a l := fun i hi => by
  obtain ⟨b, off, e, hc⟩ := h i hi
  exact ⟨b, off, e, hk _ _ hc⟩
/-- No block of so many. -/
def outI (nb : Nat) (x : Int) : Bool := decide (x < 0 ∨ (nb : Int) ≤ x)
theorem New1_any (nb : Nat) (x : Int) (g : Nat) (w : World) (hg : w.cell? ⟨g, 0, none⟩ = some (.int .i64 nb)) : Calls Tryd.prog 35 #[.int .i64 x, .pointer (some ⟨g, 0, none⟩)] w fun e w' => e = .returned (.bool (outI nb x)) ∧ w = w' := by
  have key : x < 0 ∨ (¬ x < 0 ∧ x ≥ (nb : Int)) ∨ (¬ x < 0 ∧ ¬ x ≥ (nb : Int)) := by omega
  have e1 : x < 0 → outI nb x = true := fun h => decide_eq_true (.inl h)
  have e2 : x ≥ (nb : Int) → outI nb x = true := fun h => decide_eq_true (.inr h)
  have e3 : ¬ x < 0 → ¬ x ≥ (nb : Int) → outI nb x = false := fun h h' => decide_eq_false (by omega)
  rcases key with h | ⟨h, h'⟩ | ⟨h, h'⟩
  · rw [e1 h]
    clear e1 e2 e3
    go_enter Tryd.func35, Tryd.ntmps35
    go_wp2
    go_ret
    exact ⟨rfl, rfl⟩
  · rw [e2 h']
    clear e1 e2 e3
    go_enter Tryd.func35, Tryd.ntmps35
    go_wp2
    go_ret
    exact ⟨by simp, rfl⟩
  · rw [e3 h h']
    clear e1 e2 e3
    go_enter Tryd.func35, Tryd.ntmps35
    go_wp2
    go_ret
    exact ⟨by simp, rfl⟩
theorem any_takeI (f : Int → Bool) (l : List Int) (k : Nat) (h : k < l.length) : (l.take (k + 1)).any f = ((l.take k).any f || f (l.getD k 0)) := by
  have e : l.take (k + 1) = l.take k ++ [l.getD k 0] := by
    rw [List.take_add_one, List.getElem?_eq_getElem h, List.getD_eq_getElem?_getD, List.getElem?_eq_getElem h]; rfl
  rw [e]; simp
theorem getI_mem (l : List Int) (k : Nat) (h : k < l.length) : l.getD k 0 ∈ l := by
  rw [List.getD_eq_getElem?_getD, List.getElem?_eq_getElem h]; exact List.getElem_mem h
set_option maxHeartbeats 400000 in
theorem IndexI_any (nb g : Nat) (a : Option Addr) (l : List Int) (c : Nat) (hl : l.length ≤ 1000) (w : World) (hc : CellsI w a l) (hg : w.cell? ⟨g, 0, none⟩ = some (.int .i64 nb)) :
    Calls Tryd.prog 52 #[.slice a l.length c, .func (.func 35) #[] #[.pointer (some ⟨g, 0, none⟩)]] w fun e w' => (∃ i : Int, e = .returned (.int .i64 i) ∧ decide (0 ≤ i) = l.any (outI nb)) ∧ w = w' := by
  have HC := Lib.hid hc
  have HG := Lib.hid hg
  clear hc hg
  go_enter Tryd.func52, Tryd.ntmps52
  go_wp2
  go_loop [8] (fun i => ∃ k : Nat, k ≤ l.length ∧ i = .int .i64 k ∧ (l.take k).any (outI nb) = false) (fun i => l.length - (intOf i).toNat)
  case atStart => exact ⟨0, by omega, rfl, by simp⟩
  case round =>
    obtain ⟨k, hk, rfl, hb⟩ := hrel
    by_cases hkl : k < l.length
    · obtain ⟨b, off, rfl⟩ := HC.out.addr (by intro e; simp [e] at hkl)
      have hcc := HC.out.at0 k hkl
      have HT := Lib.hid (any_takeI (outI nb) l k hkl)
      rw [hb] at HT
      have HM : Hid (outI nb (l.getD k 0) = true → l.any (outI nb) = true) := fun h => List.any_eq_true.2 ⟨_, getI_mem _ _ hkl, h⟩
      have HL1 := Lib.hid (New1_any nb (l.getD k 0) g w HG.out)
      clear HC hb
      cases hx : outI nb (l.getD k 0) with
      | true =>
        rw [hx] at HL1
        have HM2 := Lib.hid (HM.out hx)
        clear HM HT hx
        generalize l.getD k 0 = x at *
        go_wp2_with fail
        refine HL1.out.mono ?_
        rintro e w' ⟨rfl, rfl⟩
        go_wp2
        go_ret
        exact ⟨⟨k, rfl, by rw [HM2.out]; simp⟩, rfl⟩
      | false =>
        rw [hx] at HL1 HT
        clear HM hx
        generalize l.getD k 0 = x at *
        go_wp2_with fail
        refine HL1.out.mono ?_
        rintro e w' ⟨rfl, rfl⟩
        go_wp2
        go_round
        case rel => exact ⟨k + 1, by omega, by go_num, by rw [HT.out]; rfl⟩
        case measure => simp [intOf]; omega
    · obtain rfl : k = l.length := by omega
      rw [List.take_length] at hb
      have HB := Lib.hid hb
      clear hb HC
      go_wp2
      go_ret
      exact ⟨⟨-1, rfl, by rw [HB.out]; rfl⟩, rfl⟩
theorem ContainsI_any (nb g : Nat) (a : Option Addr) (l : List Int) (c : Nat) (hl : l.length ≤ 1000) (w : World) (hc : CellsI w a l) (hg : w.cell? ⟨g, 0, none⟩ = some (.int .i64 nb)) :
    Calls Tryd.prog 34 #[.slice a l.length c, .func (.func 35) #[] #[.pointer (some ⟨g, 0, none⟩)]] w fun e w' => e = .returned (.bool (l.any (outI nb))) ∧ w = w' := by
  have HI := Lib.hid (IndexI_any nb g a l c hl w hc hg)
  clear hc hg
  generalize l.any (outI nb) = β at *
  generalize l.length = n at *
  go_enter Tryd.func34, Tryd.ntmps34
  go_wp2_with fail
  refine HI.out.mono ?_
  rintro e w' ⟨⟨i, rfl, hi⟩, rfl⟩
  have HI2 := Lib.hid hi
  clear hi HI
  go_wp2
  go_ret
  exact ⟨by rw [← HI2.out]; rfl, rfl⟩
end Go.Proofs.YtlidbkofjchnnaaDoor
namespace Go.Proofs.YtlidbkofjchnnaaDoor
open Go.RowKit
set_option linter.unusedVariables false
set_option linter.unusedSimpArgs false

def inL (l : List Int) (j : Nat) : Bool := l.any (fun x => x == (j : Int))
section
variable {w w' : World} {B M Q F L n : Nat} {P : Nat → Nat} {S : Fl} {bad : Nat → Bool} {md : Int}
theorem BadIs.no_cell {nb : Nat} (h : BadIs w Q nb bad) (o : Nat) (sp : Option Nat) (v : Value) : w.cell? ⟨Q, o, sp⟩ ≠ some v := by
  obtain ⟨m, f, ⟨es, clock, hb, _⟩, _⟩ := h
  simp [World.cell?, hb]
theorem CellsI.map {l : List Int} {A : Option Addr} {nb : Nat} (h : CellsI w A l) (hb : BadIs w Q nb bad) (ht : Turns w w' [Q]) : CellsI w' A l := fun i hi => by
  obtain ⟨b, off, e, hc⟩ := h i hi
  refine ⟨b, off, e, ht.cell hc (fun hm => ?_)⟩
  have : b = Q := by simpa using hm
  subst this
  exact hb.no_cell _ _ _ hc
theorem New_small (h : FlIs w B F L P S) (n : Int) (hn : n < 1) (A : Option Addr) (m c : Nat) : Calls Tryd.prog 16 #[.pointer (some ⟨F, 0, none⟩), .int .i64 n, .slice A m c] w fun e w' => e = .returned (.tuple #[.pointer none, .int .i64 1]) ∧ Below w.heap.size w w' := by
  have HS := Lib.hid (Shape_any h)
  generalize S.nb = nb at *
  generalize S.pages = pages at *
  generalize S.chunks = ch at *
  clear h
  go_enter Tryd.func16, Tryd.ntmps16
  go_wp2_with fail
  refine HS.out.mono ?_
  rintro e w1 ⟨rfl, k0, hw1⟩
  have HB1 : Hid (Below w.heap.size w w1) := by rw [hw1]; exact below_drewN0 (Below.refl _ _) k0
  have HW1 := Lib.hid hw1
  clear HS hw1
  go_wp2
  refine bodyPost_ret (v := .tuple #[.pointer none, .int .i64 1]) (by simp [results, Tryd.results16, go_sem]) rfl ⟨rfl, ?_⟩
  exact HB1.out.alloc HB1.out.size _
theorem New_large (h : FlIs w B F L P S) (n : Int) (hn : ((64 * S.chunks : Nat) : Int) < n) (A : Option Addr) (m c : Nat) : Calls Tryd.prog 16 #[.pointer (some ⟨F, 0, none⟩), .int .i64 n, .slice A m c] w fun e w' => e = .returned (.tuple #[.pointer none, .int .i64 1]) ∧ Below w.heap.size w w' := by
  have HS := Lib.hid (Shape_any h)
  have hch := h.ok.chunks
  generalize S.nb = nb at *
  generalize S.pages = pages at *
  generalize S.chunks = ch at *
  have h1 : ¬ n < 1 := by omega
  have h2 : IntKind.i64.wrap ((ch : Int) * 64) = ((64 * ch : Nat) : Int) := by rw [IntKind.wrap_i64]; omega
  have h3 : n > ((64 * ch : Nat) : Int) := hn
  clear h hch
  go_enter Tryd.func16, Tryd.ntmps16
  go_wp2_with fail
  refine HS.out.mono ?_
  rintro e w1 ⟨rfl, k0, hw1⟩
  have HB1 : Hid (Below w.heap.size w w1) := by rw [hw1]; exact below_drewN0 (Below.refl _ _) k0
  have HW1 := Lib.hid hw1
  clear HS hw1
  go_wp2
  refine bodyPost_ret (v := .tuple #[.pointer none, .int .i64 1]) (by simp [results, Tryd.results16, go_sem]) rfl ⟨rfl, ?_⟩
  exact HB1.out.alloc HB1.out.size _
theorem alloc_at (w : World) (v : Value) (t : TypeId) : (w.alloc (.cells #[v] t)).cell? ⟨w.heap.size, 0, none⟩ = some v := (Row.fresh w t #[v]).cell 0
set_option maxRecDepth 100000 in
theorem New_out (h : FlIs w B F L P S) (n : Nat) (hn : 1 ≤ n ∧ n ≤ 64 * S.chunks) (A : Option Addr) (l : List Int) (hl : l.length ≤ 1000) (c : Nat) (hc : CellsI w A l) (hb : l.any (outI S.nb) = true) : Calls Tryd.prog 16 #[.pointer (some ⟨F, 0, none⟩), .int .i64 n, .slice A l.length c] w fun e w' => e = .returned (.tuple #[.pointer none, .int .i64 1]) ∧ Below w.heap.size w w' := by
  have HS := Lib.hid (Shape_any h)
  have hch := h.ok.chunks
  generalize S.nb = nb at *
  generalize S.pages = pages at *
  generalize S.chunks = ch at *
  have HCn : Hid (∀ w1, Below w.heap.size w w1 → Calls Tryd.prog 34 #[.slice A l.length c, .func (.func 35) #[] #[.pointer (some ⟨w1.heap.size, 0, none⟩)]] (w1.alloc (.cells #[.int .i64 nb] 3)) fun e w' => e = .returned (.bool true) ∧ w1.alloc (.cells #[.int .i64 nb] 3) = w') := fun w1 hb1 => by
    have := ContainsI_any nb w1.heap.size A l c hl (w1.alloc (.cells #[.int .i64 nb] 3)) (hc.keep (keep_below (hb1.alloc hb1.size _))) (alloc_at _ _ _)
    rw [hb] at this
    exact this
  have h1 : ¬ (n : Int) < 1 := by omega
  have h2 : IntKind.i64.wrap ((ch : Int) * 64) = ((64 * ch : Nat) : Int) := by rw [IntKind.wrap_i64]; omega
  have h3 : ¬ (n : Int) > ((64 * ch : Nat) : Int) := by omega
  generalize l.length = ln at *
  clear h hch hn hb hc
  go_enter Tryd.func16, Tryd.ntmps16
  go_wp2_with fail
  refine HS.out.mono ?_
  rintro e w1 ⟨rfl, k0, hw1⟩
  have HB1 : Hid (Below w.heap.size w w1) := by rw [hw1]; exact below_drewN0 (Below.refl _ _) k0
  have HW1 := Lib.hid hw1
  clear HS hw1
  go_wp2_with fail
  refine (HCn.out w1 HB1.out).mono ?_
  rintro e w2 ⟨rfl, rfl⟩
  clear HCn
  go_wp2
  refine bodyPost_ret (v := .tuple #[.pointer none, .int .i64 1]) (by simp [results, Tryd.results16, go_sem]) rfl ⟨rfl, ?_⟩
  exact HB1.out.alloc HB1.out.size _
theorem inL_take (l : List Int) (k : Nat) (h : k < l.length) (j : Nat) (hj : l.getD k 0 = (j : Int)) : inL (l.take (k + 1)) = setBad (inL (l.take k)) j := by
  funext i
  unfold inL
  rw [any_takeI _ l k h, hj]
  unfold setBad
  rw [Bool.or_comm]
  congr 1
  by_cases e : i = j
  · subst e; simp
  · have h1 : ¬ ((j : Int) = (i : Int)) := by omega
    rw [show (i == j) = false from by simpa using e, show ((j : Int) == (i : Int)) = false from by simpa using h1]
set_option maxRecDepth 100000 in
set_option maxHeartbeats 1000000 in
theorem New_yes (h : FlIs w B F L P S) (hB : 1 ≤ B) (hT : Tab w) (n : Nat) (hn : 1 ≤ n ∧ n ≤ 64 * S.chunks) (A : Option Addr) (l : List Int) (hl : l.length ≤ 1000) (c : Nat) (hc : CellsI w A l) (hlc : l.length ≤ c) (hb : l.any (outI S.nb) = false) : Calls Tryd.prog 16 #[.pointer (some ⟨F, 0, none⟩), .int .i64 n, .slice A l.length c] w fun e w' => ∃ M Q, e = .returned (.tuple #[.pointer (some ⟨M, 0, none⟩), .int .i64 0]) ∧ MedIs w' B M Q F L P S n (inL l) 0 ∧ Below w.heap.size w w' ∧ w.heap.size ≤ M ∧ w.heap.size ≤ Q := by
  have HS := Lib.hid (Shape_any h)
  have hch := h.ok.chunks
  have hBw : B ≤ w.heap.size := by
    obtain ⟨cs, hr⟩ := h.rowF
    have := hr.lt; have := h.hF; omega
  have HMed : Hid (∀ w2, Below w.heap.size w w2 → MedIs ((w2.alloc (.map #[] 0)).alloc (.cells (mcells F n w2.heap.size 0) 78)) B (w2.alloc (.map #[] 0)).heap.size w2.heap.size F L P S n (fun _ => false) 0) := fun w2 hb2 => by
    have ht : Turns w ((w2.alloc (.map #[] 0)).alloc (.cells (mcells F n w2.heap.size 0) 78)) [] := ((Turns.of_below hb2 []).alloc _).alloc _
    have hsz := hb2.size
    refine ⟨hB, by simp; omega, by omega, h.keep ht, Row.fresh _ _ _, ?_, hn, hT.turns ht (by simp)⟩
    refine (BadIs.fresh w2 S.nb).turns ((Turns.refl _ []).alloc _) (by simp)
  have HIn : Hid (∀ x ∈ l, ∃ j : Nat, j < S.nb ∧ x = j) := fun x hx => by
    have := List.any_eq_false.1 hb x hx
    unfold outI at this
    rw [decide_eq_true_iff] at this
    exact ⟨x.toNat, by omega, by omega⟩
  have hnb : 1 ≤ S.nb ∧ S.nb ≤ 1024 := h.ok.nb
  have hC : ∀ w1, Below w.heap.size w w1 → CellsI w1 A l := fun w1 hb1 => hc.keep (keep_below hb1)
  have HC := Lib.hid hC
  obtain ⟨nb, hnB⟩ : ∃ nb, nb = S.nb := ⟨_, rfl⟩
  obtain ⟨ch, hcH⟩ : ∃ ch, ch = S.chunks := ⟨_, rfl⟩
  have HNB := Lib.hid hnB
  rw [← hnB] at HS hb hnb HIn
  rw [← hcH] at HS hch hn
  generalize S.pages = pages at *
  have HCn : Hid (∀ w1, Below w.heap.size w w1 → Calls Tryd.prog 34 #[.slice A l.length c, .func (.func 35) #[] #[.pointer (some ⟨w1.heap.size, 0, none⟩)]] (w1.alloc (.cells #[.int .i64 nb] 3)) fun e w' => e = .returned (.bool false) ∧ w1.alloc (.cells #[.int .i64 nb] 3) = w') := fun w1 hb1 => by
    have := ContainsI_any nb w1.heap.size A l c hl (w1.alloc (.cells #[.int .i64 nb] 3)) (hC _ (hb1.alloc hb1.size _)) (alloc_at _ _ _)
    rw [hb] at this
    exact this
  have h1 : ¬ (n : Int) < 1 := by omega
  have h2 : IntKind.i64.wrap ((ch : Int) * 64) = ((64 * ch : Nat) : Int) := by rw [IntKind.wrap_i64]; omega
  have h3 : ¬ (n : Int) > ((64 * ch : Nat) : Int) := by omega
  clear h hch hn hb hc hT hB hC hnB hcH hBw
  go_enter Tryd.func16, Tryd.ntmps16
  go_wp2_with fail
  refine HS.out.mono ?_
  rintro e w1 ⟨rfl, k0, hw1⟩
  have HB1 : Hid (Below w.heap.size w w1) := by rw [hw1]; exact below_drewN0 (Below.refl _ _) k0
  have HW1 := Lib.hid hw1
  clear HS hw1
  go_wp2_with fail
  refine (HCn.out w1 HB1.out).mono ?_
  rintro e w2 ⟨rfl, hw2⟩
  have HB2 : Hid (Below w.heap.size w w2) := by rw [← hw2]; exact HB1.out.alloc HB1.out.size _
  have HM2 := Lib.hid (HMed.out w2 HB2.out)
  clear HCn hw2 HW1 HMed
  have hmm := @run_makeMap Tryd.prog
  go_wp2
  have HBv : Hid (Below w.heap.size w ((w2.alloc (.map #[] 0)).alloc (.cells #[.iface 25 (.pointer (some ⟨F, 0, none⟩)), .pointer (some ⟨F, 0, none⟩), .int .i64 n, .map (some w2.heap.size), .int .i64 0] 78))) := (HB2.out.alloc HB2.out.size _).alloc (HB2.out.alloc HB2.out.size _).size _
  have HM3 : Hid (MedIs ((w2.alloc (.map #[] 0)).alloc (.cells #[.iface 25 (.pointer (some ⟨F, 0, none⟩)), .pointer (some ⟨F, 0, none⟩), .int .i64 n, .map (some w2.heap.size), .int .i64 0] 78)) B (w2.heap.size + 1) w2.heap.size F L P S n (inL (l.take 0)) 0) := by
    have e : (w2.alloc (.map #[] 0)).heap.size = w2.heap.size + 1 := by simp
    have e2 : inL (l.take 0) = fun _ => false := by funext j; simp [inL]
    rw [← e, e2]
    exact HM2.out
  have HQ : Hid (w.heap.size ≤ w2.heap.size) := HB2.out.size
  clear HM2 HB2 hmm HB1
  generalize ((w2.alloc (.map #[] 0)).alloc (.cells #[.iface 25 (.pointer (some ⟨F, 0, none⟩)), .pointer (some ⟨F, 0, none⟩), .int .i64 n, .map (some w2.heap.size), .int .i64 0] 78)) = wv at *
  generalize w2.heap.size = Q at *
  go_loopw [42] (fun iv wr => ∃ k : Nat, iv = .int .i64 k ∧ k ≤ l.length ∧ MedIs wr B (Q + 1) Q F L P S n (inL (l.take k)) 0 ∧ Below w.heap.size w wr) (fun i _ => l.length - (intOf i).toNat)
  case atStart => exact ⟨0, rfl, by omega, HM3.out, HBv.out⟩
  case round =>
    obtain ⟨k, rfl, hk, hm, hbw⟩ := hrel
    have HMr := Lib.hid hm
    have HBr := Lib.hid hbw
    clear HM3 HBv hm hbw
    by_cases hkl : k < l.length
    · have hcw := HC.out wr HBr.out
      obtain ⟨b, off, rfl⟩ := hcw.addr (by intro e; simp [e] at hkl)
      have hcc := hcw.at0 k hkl
      obtain ⟨j, hj, hx⟩ := HIn.out _ (getI_mem l k hkl)
      have hT := inL_take l k hkl j hx
      rw [hx] at hcc
      obtain ⟨w', hr, hm', ht'⟩ := HMr.out.markBad (k := j) (by rw [← HNB.out]; exact hj)
      rw [← hT] at hm'
      have HM' := Lib.hid hm'
      have HB' : Hid (Below w.heap.size w w') := ht'.below HBr.out HBr.out.size (fun g hg => by rw [List.mem_singleton.1 hg]; exact HQ.out)
      have c3 := HMr.out.cells.2.2.1
      clear hcw hx hT hm' ht' HMr HBr hj HIn
      go_wp2
      go_roundw
      case rel => exact ⟨k + 1, by go_num, by omega, HM'.out, HB'.out⟩
      case measure => simp [intOf]; omega
    · obtain rfl : k = l.length := by omega
      go_wp2
      refine bodyPost_ret (v := .tuple #[.pointer (some ⟨Q + 1, 0, none⟩), .int .i64 0]) (by simp [results, Tryd.results16, go_sem]) rfl ⟨Q + 1, Q, rfl, ?_, HBr.out, by have := HQ.out; omega, HQ.out⟩
      have := HMr.out
      rw [List.take_length] at this
      exact this
end
end Go.Proofs.YtlidbkofjchnnaaDoor

namespace Go.Proofs.YtlidbkofjchnnaaDoor
open Go.RowKit
set_option linter.unusedVariables false
set_option linter.unusedSimpArgs false

theorem chk_512 : chk 512 = 28 := by
  rw [chk_step 512 (by decide), show (512 : Nat) &&& (512 - 1) = 0 by decide, chk_zero]
  decide +kernel
theorem mend_0 : mend 0 0 = (0, 0, 0) := by unfold mend; rw [chk_zero]; rfl
theorem mend_512 : mend 512 0 = (0, 0, 1) := by unfold mend; rw [chk_512]; decide +kernel
theorem chks_0 : chks (List.replicate 64 0) 8 = List.replicate 8 0 := by
  have h : ∀ i, i < 8 → gw ((List.replicate 64 0).drop (8 * i)) 8 = 0 := by decide +kernel
  unfold chks
  rw [List.map_congr_left (g := fun _ => 0) (fun i hi => by rw [h i (List.mem_range.1 hi), chk_zero])]
  rfl
def zs : List Nat := List.replicate 100 0
theorem laid_zs : laid zs 2 = List.replicate 146 0 := by
  have h1 : pad zs 2 = List.replicate 128 0 := by decide +kernel
  have h2 : blk (List.replicate 128 0) 0 = List.replicate 64 0 := by decide +kernel
  have h3 : blk (List.replicate 128 0) 1 = List.replicate 64 0 := by decide +kernel
  unfold laid
  rw [h1]
  simp only [lay, h2, h3, chks_0]
  decide +kernel
/-- The page with its bit turned. -/
def kr : List Nat := (List.replicate 146 0).set 1 2
theorem kr_eq : flipBit (laid zs 2) 9 = kr := by rw [laid_zs]; decide +kernel
theorem kr_state : stateOf kr 2 = 2 := by decide +kernel
theorem kr_w0 : ∀ i, i < 8 → gw ((cd kr 0).drop (8 * i)) 8 = (if i = 0 then 512 else 0) ∧ (cc kr 0).getD i 0 = 0 := by decide +kernel
theorem kr_w1 : ∀ i, i < 8 → gw ((cd kr 1).drop (8 * i)) 8 = 0 ∧ (cc kr 1).getD i 0 = 0 := by decide +kernel
theorem kr_m0 : mw (cd kr 0) (cc kr 0) 0 = (0, 0, 1) := by unfold mw; rw [(kr_w0 0 (by decide)).1, (kr_w0 0 (by decide)).2, if_pos rfl, mend_512]
theorem kr_m (i : Nat) (hi : i < 8) (h0 : i ≠ 0) : mw (cd kr 0) (cc kr 0) i = (0, 0, 0) := by unfold mw; rw [(kr_w0 i hi).1, (kr_w0 i hi).2, if_neg h0, mend_0]
theorem kr_n (i : Nat) (hi : i < 8) : mw (cd kr 1) (cc kr 1) i = (0, 0, 0) := by unfold mw; rw [(kr_w1 i hi).1, (kr_w1 i hi).2, mend_0]
theorem kr_bad : rBad kr 2 = false := rBad_none _ _ fun k hk => by
  have : k = 0 ∨ k = 1 := by omega
  rcases this with rfl | rfl
  · refine mBad_none _ _ fun i hi => ?_
    by_cases h : i = 0
    · subst h; rw [kr_m0]; simp
    · rw [kr_m i hi h]; simp
  · exact mBad_none _ _ fun i hi => by rw [kr_n i hi]; simp
theorem kr_cnt : rCnt kr 2 = 1 := by
  simp only [rCnt, mCnt, kr_m0, kr_m 1 (by decide) (by decide), kr_m 2 (by decide) (by decide), kr_m 3 (by decide) (by decide), kr_m 4 (by decide) (by decide), kr_m 5 (by decide) (by decide), kr_m 6 (by decide) (by decide), kr_m 7 (by decide) (by decide), kr_n 0 (by decide), kr_n 1 (by decide), kr_n 2 (by decide), kr_n 3 (by decide), kr_n 4 (by decide), kr_n 5 (by decide), kr_n 6 (by decide), kr_n 7 (by decide)]
  decide
theorem kr_bytes : (rBytes kr 2).take 100 = zs := by
  simp only [rBytes, mBytes, kr_m0, kr_m 1 (by decide) (by decide), kr_m 2 (by decide) (by decide), kr_m 3 (by decide) (by decide), kr_m 4 (by decide) (by decide), kr_m 5 (by decide) (by decide), kr_m 6 (by decide) (by decide), kr_m 7 (by decide) (by decide), kr_n 0 (by decide), kr_n 1 (by decide), kr_n 2 (by decide), kr_n 3 (by decide), kr_n 4 (by decide), kr_n 5 (by decide), kr_n 6 (by decide), kr_n 7 (by decide)]
  decide +kernel
theorem kr_how : howOf kr 2 = 2 := by unfold howOf; rw [if_pos kr_state, kr_bad]; rfl
theorem kr_cntOf : cntOf kr 2 = 1 := by unfold cntOf; rw [if_pos ⟨kr_state, kr_bad⟩, kr_cnt]
end Go.Proofs.YtlidbkofjchnnaaDoor
