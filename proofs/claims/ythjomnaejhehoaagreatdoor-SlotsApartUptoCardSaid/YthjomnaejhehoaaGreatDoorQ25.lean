/- What follows is laid together from several texts of mine, in their order. -/
import Derived.Test.YthjomnaejhehoaaGreatDoorQ24
import Derived.Test.YthjomnaejhehoaaGreatDoorQ9
import Derived.Test.YthjomnaejhehoaaGreatDoorRows

namespace Go.Proofs.YthjomnaejhehoaaGreatDoor
open Go.RowKit Go.MapKept Go.ChangeMaps
set_option linter.unusedVariables false
set_option linter.unusedSimpArgs false

section
variable {w : World} {B B' M Q F L n : Nat} {P : Nat → Nat} {S : Fl} {bad : Nat → Bool} {md : Int}
theorem FlIs.low (h : FlIs w B F L P S) (hb : B' ≤ B) : FlIs w B' F L P S := ⟨Nat.le_trans hb h.hF, Nat.le_trans hb h.hL, fun i hi => Nat.le_trans hb (h.hP i hi), h.row, h.bl, h.pg, h.inj, h.ok⟩
theorem MedIs.low (h : MedIs w B M Q F L P S n bad md) (h1 : 1 ≤ B') (hb : B' ≤ B) : MedIs w B' M Q F L P S n bad md := ⟨h1, Nat.le_trans hb h.hM, Nat.le_trans hb h.hQ, h.fl.low hb, h.row, h.bad, h.bytes, h.tab⟩
end
/-- A World as begun makes it. -/
structure New9 (A : Ad) (x : X9) : Prop where
  V : x.V = fun _ => none
  U : x.U = fun _ => none
  q : x.q = 1
  op : x.op = false
  fail : x.fail = 0
  off : x.S.off = false
  armed : x.S.armed = 0
  nb : x.S.nb = 6
def BegunPost (w0 : World) (Al : Option Addr) (cl : Nat) (vs : List Int) (e : Ending) (w' : World) : Prop :=
  ∃ A x, e = .returned (.pointer (some ⟨A.W, 0, none⟩)) ∧ W9 w0 w' A x ∧ New9 A x ∧ A.vs = vs ∧ A.A = Al ∧ A.cl = cl
theorem nfail_none {S : Fl} {vs : List Int} (h : ∀ k, (S.b k).failed = false) : nfail S vs = 0 := by
  unfold nfail
  rw [List.length_eq_zero_iff, List.filter_eq_nil_iff]
  intro k _
  simp [h k]
set_option maxRecDepth 100000 in
set_option maxHeartbeats 4000000 in
theorem begun_any (w0 w : World) (hbel : Below w0.heap.size w0 w) (hT : Tab w0) (Al : Option Addr) (cl : Nat) (vs : List Int) (hls : CellsI w Al vs) (hA : ∀ g o, Al = some ⟨g, o, none⟩ → g < w0.heap.size ∨ ∃ cs, Row w g 3 cs) (hok : okOn 6 vs) (hlen : vs.length ≤ 1024) :
    Calls Tryz.prog 9 #[.slice Al vs.length cl] w (BegunPost w0 Al cl vs) := by
  have HN := Lib.hid (New_any 6 8 3 (by omega) (by omega) (by omega) w)
  have H0 := Lib.hid hbel
  have HTw : Hid (Tab w) := hT.keep (keep_below hbel)
  have HT0 := Lib.hid hT
  have HLs := Lib.hid (And.intro hls (And.intro hA (And.intro hok hlen)))
  obtain ⟨m, hm⟩ : ∃ m, m = vs.length := ⟨_, rfl⟩
  have HM := Lib.hid hm
  rw [← hm]
  clear hbel hT hls hA hok hlen hm
  go_enter Tryz.func9, Tryz.ntmps9
  go_wp2_with fail
  refine HN.out.mono ?_
  rintro e w1 ⟨F, L, P, rfl, hf, hb⟩
  have HB1 := Lib.hid hb
  have HT1 : Hid (Tab w1) := HTw.out.keep (keep_below hb)
  have HM1 := Lib.hid (New_yes hf HTw.out.lt HT1.out 192 (by decide) none [] (by decide) 0 (fun i h => absurd h (by simp)) (by decide) rfl)
  clear hf hb HN
  go_wp2_with fail
  refine HM1.out.mono ?_
  rintro e w2 ⟨M, Q, rfl, hm, hb, _, _⟩
  have HB2 : Hid (Below w.heap.size w w2) := HB1.out.trans (hb.mono HB1.out.size)
  have HM2 : Hid (MedIs w2 w0.heap.size M Q F L P (Fl.new 6 8 3) 192 (inL []) 0) := hm.low (by have := HT0.out.lt; omega) H0.out.size
  have HFo : Hid (Calls Tryz.prog 21 #[.pointer (some ⟨M, 0, none⟩), .slice Al m cl] w2 fun e w' => ∃ (St Bk Vb c' k : Nat) (S' : Fl) (md' : Int) (bad' : Nat → Bool) (G : Nat → Option (Nat × Vals)),
      e = .returned (.tuple #[.pointer (some ⟨St, 0, none⟩), .nilIface]) ∧ MedIs w' w0.heap.size M Q F L P S' 192 bad' md' ∧ StIs w' w0.heap.size St Bk Vb M (natsI vs) c' (k : Nat) 1 (fun _ => none) ∧ Vb ≠ Q ∧ w2.heap.size ≤ St ∧ Sl S' 192 bad' (natsI vs) k 1 (fun _ => none) G ∧
      S'.off = false ∧ S'.armed = 0 ∧ S'.nb = 6 ∧ (∀ i, (S'.b i).failed = false) ∧ (∀ i, i ∉ natsI vs → (S'.b i).next = 0 ∧ (S'.b i).half = false) ∧ Turns w2 w' (medT M Q F L P 6)) := by
    rw [HM.out]
    refine (Format_ok HM2.out Al cl vs HLs.out.2.2.2 (HLs.out.1.below' HB2.out) HLs.out.2.2.1 rfl rfl (fun k => by simp [inL]) (fun k => rfl) (by omega)).mono ?_
    rintro e w' ⟨St, Bk, Vb, c', k, S', md', bad', G, h1, h2, h3, h4, h5, h6, h7, h8, h9, -, -, h12, h13, h14⟩
    exact ⟨St, Bk, Vb, c', k, S', md', bad', G, h1, h2, h3, h4, h5, h6, h7, h8, h9, h12, fun i hi => by rw [h13 i hi]; exact ⟨rfl, rfl⟩, h14⟩
  have HMg : Hid (∀ g ∈ medT M Q F L P 6, w.heap.size ≤ g) := hm.at_least
  clear hm hb HM1 HB1 HT1
  go_wp2_with fail
  refine HFo.out.mono ?_
  rintro e w3 ⟨St, Bk, Vb, c', k, S', md', bad', G, rfl, h2, h3, h4, h5, h6, h7, h8, h9, h12, h13, h14⟩
  have hm23 : ∀ g ∈ medT M Q F L P 6, w.heap.size ≤ g := HMg.out
  have HB3 : Hid (Below w.heap.size w w3) := h14.below HB2.out HB2.out.size hm23
  obtain ⟨W, hW⟩ : ∃ W, W = w3.heap.size + 1 := ⟨_, rfl⟩
  obtain ⟨w4, hw4⟩ : ∃ w4, w4 = (w3.alloc (.map #[] 0)).alloc (.cells #[.pointer (some ⟨F, 0, none⟩), .pointer (some ⟨M, 0, none⟩), .pointer (some ⟨St, 0, none⟩), .slice Al m cl, .map (some w3.heap.size), .map none, .bool false, .int .i64 0] 36) := ⟨_, rfl⟩
  have hb4 : Below w3.heap.size w3 w4 := by rw [hw4]; exact ((Below.refl _ _).alloc (Nat.le_refl _) _).alloc (by simp) _
  have HB4 : Hid (Below w.heap.size w w4) := HB3.out.trans (hb4.mono HB3.out.size)
  have hz : w0.heap.size ≤ w3.heap.size := Nat.le_trans H0.out.size HB3.out.size
  have HW9 : Hid (W9 w0 w4 ⟨W, St, Bk, Vb, M, Q, F, L, w3.heap.size, P, Al, cl, c', vs, none⟩ ⟨S', bad', md', k, 1, fun _ => none, G, fun _ => none, .map none, false, 0⟩) := by
    refine ⟨h2.below hb4, h3.below hb4, h4, h6, ?_, ⟨by have := h2.bad.lt; dsimp only; omega, hz⟩, ⟨OkV.none, fit_none 192 (by omega)⟩, ?_, by dsimp only; omega, HLs.out.1.below' HB4.out, fun g o e => ?_, by dsimp only; rw [h9]; exact HLs.out.2.2.1, HLs.out.2.2.2, ⟨nfail_none h12, by have := HLs.out.2.2.1.1; dsimp only; omega⟩, h13, H0.out.trans (HB4.out.mono H0.out.size), fun _ _ e => by cases e⟩
    · dsimp only
      rw [hw4]
      exact (HasIs.fresh w3).below ((Below.refl _ _).alloc (Nat.le_refl _) _)
    · have := Row.fresh (w3.alloc (.map #[] 0)) 36 #[.pointer (some ⟨F, 0, none⟩), .pointer (some ⟨M, 0, none⟩), .pointer (some ⟨St, 0, none⟩), .slice Al m cl, .map (some w3.heap.size), .map none, .bool false, .int .i64 0]
      rw [World.size_alloc, ← hw4] at this
      dsimp only
      unfold w9cells
      rw [hW]
      dsimp only
      rw [← HM.out]
      exact this
    · rcases HLs.out.2.1 g o e with h | ⟨cs, hr⟩
      · exact .inl h
      · exact .inr ⟨cs, hr.below HB4.out hr.lt⟩
  have HNw : Hid (New9 ⟨W, St, Bk, Vb, M, Q, F, L, w3.heap.size, P, Al, cl, c', vs, none⟩ ⟨S', bad', md', k, 1, fun _ => none, G, fun _ => none, .map none, false, 0⟩) := ⟨rfl, rfl, rfl, rfl, rfl, h7, h8, h9⟩
  have HE := Lib.hid hw4
  have HFin : Hid (BegunPost w0 Al cl vs (.returned (.pointer (some ⟨w3.heap.size + 1, 0, none⟩))) w4) := ⟨⟨W, St, Bk, Vb, M, Q, F, L, w3.heap.size, P, Al, cl, c', vs, none⟩, ⟨S', bad', md', k, 1, fun _ => none, G, fun _ => none, .map none, false, 0⟩, by rw [hW], HW9.out, HNw.out, rfl, rfl, rfl⟩
  have hmm := @run_makeMap Tryz.prog
  clear h2 h3 h4 h5 h6 h7 h8 h9 h12 h13 h14 hm23 hb4 hz hw4 hW HFo
  go_wp2
  go_ret
  rw [← HE.out]
  exact HFin.out
end Go.Proofs.YthjomnaejhehoaaGreatDoor

namespace Go.Proofs.YthjomnaejhehoaaGreatDoor
open Go.RowKit Go.MapKept Go.ChangeMaps
set_option linter.unusedVariables false
set_option linter.unusedSimpArgs false

theorem cells3 {w w' : World} {g : Nat} {x y z : Int} (h : Row w g 3 #[.int .i64 x, .int .i64 y, .int .i64 z]) : CellsI w (some ⟨g, 0, none⟩) [x, y, z] := fun i hi => ⟨g, 0, rfl, by
  have h3 : i = 0 ∨ i = 1 ∨ i = 2 := by simp at hi; omega
  rw [Nat.zero_add]
  rcases h3 with rfl | rfl | rfl
  · exact h.cell 0
  · exact h.cell 1
  · exact h.cell 2⟩
set_option maxRecDepth 100000 in
set_option maxHeartbeats 4000000 in
theorem known_any (w : World) (hT : Tab w) : Calls Tryz.prog 8 #[] w fun e w' => e = .returned (.bool true) ∧ Below w.heap.size w w' := by
  obtain ⟨w1, hw1⟩ : ∃ w1, w1 = w.alloc (.cells #[.int .i64 1, .int .i64 3, .int .i64 4] 3) := ⟨_, rfl⟩
  have HB1 : Hid (Below w.heap.size w w1) := by unfold Hid; rw [hw1]; (repeat (first | (with_reducible refine Below.drew ?_) | (with_reducible refine below_drewN0 ?_ _) | ((with_reducible refine Below.setCell ?_ ?_ _); rotate_left; focus (first | omega | (simp; done) | (simp; omega) | (simp at *; omega))) | ((with_reducible refine Below.alloc ?_ ?_ _); rotate_left; focus (first | omega | (simp; done) | (simp; omega) | (simp at *; omega))) | (with_reducible exact Below.refl _ _)))
  have hr1 : Row w1 w.heap.size 3 #[.int .i64 1, .int .i64 3, .int .i64 4] := by rw [hw1]; exact Row.fresh _ _ _
  have hok1 : okOn 6 [1, 3, 4] := ⟨by simp, by decide, by decide⟩
  have HBe := Lib.hid (begun_any w w1 HB1.out hT (some ⟨w.heap.size, 0, none⟩) 3 [1, 3, 4] (cells3 (w' := w1) hr1) (fun g o e => .inr ⟨_, by injection e with e; injection e with e _ _; subst e; exact hr1⟩) hok1 (by simp))
  have HE1 := Lib.hid hw1
  have HT := Lib.hid hT
  have HOk1 := Lib.hid hok1
  simp only [List.length_cons, List.length_nil, Nat.zero_add, Nat.reduceAdd] at HBe
  clear hT hw1 hr1 hok1
  go_enter Tryz.func8, Tryz.ntmps8
  go_wp2_with fail
  rw [← HE1.out]
  refine HBe.out.mono ?_
  rintro e w2 ⟨A, x, rfl, h2, hn, hvs, -, -⟩
  obtain ⟨w3, hw3⟩ : ∃ w3, w3 = w2.alloc (.cells #[.int .u8 97, .int .u8 98, .int .u8 99] 5 (3, 4)) := ⟨_, rfl⟩
  have HB3 : Hid (Below w2.heap.size w2 w3) := by unfold Hid; rw [hw3]; (repeat (first | (with_reducible refine Below.drew ?_) | (with_reducible refine below_drewN0 ?_ _) | ((with_reducible refine Below.setCell ?_ ?_ _); rotate_left; focus (first | omega | (simp; done) | (simp; omega) | (simp at *; omega))) | ((with_reducible refine Below.alloc ?_ ?_ _); rotate_left; focus (first | omega | (simp; done) | (simp; omega) | (simp at *; omega))) | (with_reducible exact Below.refl _ _)))
  have h3 := h2.below HB3.out
  have hr3 : w3.heap[w2.heap.size]? = some (.cells #[.int .u8 97, .int .u8 98, .int .u8 99] 5 (3, 4)) := by rw [hw3]; exact World.alloc_heap_new _ _
  have HPu := Lib.hid (h3.put1 hn.off (by rw [hn.q]; omega) 5 (some ⟨w2.heap.size, 0, none⟩) 3 [97, 98, 99] (fun i hi => ⟨_, 0, rfl, by
    have h3' : i = 0 ∨ i = 1 ∨ i = 2 := by simp at hi; omega
    rw [Nat.zero_add]
    rcases h3' with rfl | rfl | rfl
    · simp [World.cell?, hr3]
    · simp [World.cell?, hr3]
    · simp [World.cell?, hr3]⟩) ⟨by decide, by simp⟩)
  simp only [List.length_cons, List.length_nil, Nat.zero_add, Nat.reduceAdd] at HPu
  have HN := Lib.hid (And.intro hn hvs)
  have H3 := Lib.hid h3
  have HE3 := Lib.hid hw3
  obtain ⟨-, -, c2, -, -, -, -, -⟩ := h2.cells
  clear HBe h2 hn hvs h3 hr3 hw3
  have hcc := conv_const w2 #[.int .u8 97, .int .u8 98, .int .u8 99] 3 3
  simp only [List.size_toArray, List.length_cons, List.length_nil, Nat.zero_add, Nat.reduceAdd] at hcc
  rw [HN.out.2] at HPu
  have HF : Hid (okKs [5] [[97, 98, 99]].length ∧ FitV 192 (putV x.V [5] [[97, 98, 99]] [(5 : Int)].length)) := by
    rw [HN.out.1.V]
    refine ⟨⟨rfl, fun t ht => ?_, fun t ht s hs => ?_⟩, by unfold FitV; decide +kernel⟩
    · obtain rfl : t = 0 := by simp at ht; omega
      exact ⟨by decide, by decide⟩
    · simp at ht; omega
  go_wp2_with fail
  rw [← HE3.out]
  refine HPu.out.mono ?_
  rintro e w4 hp
  obtain ⟨wq, Nb, hbq, hNb, hNq, md', bad', hbad', ht', hcase⟩ := hp.2.2 HF.out.1 HF.out.2
  have hq := H3.out.below hbq
  rw [← HN.out.2] at hcase
  rcases hcase with ⟨k9, S', hkl, rfl, hm, hst, hkp, hoff', hnew, hprog, -⟩ | ⟨k9, S', har, -⟩ | ⟨-, -, -, hx⟩
  · obtain ⟨G', h4⟩ := hq.putok ht' hkl hm hst hNq hkp hbad' hnew (putV_ok (by rw [HN.out.1.V]; exact OkV.none) (fun y hy => by rw [List.mem_singleton.1 hy]; decide) 1 HF.out.1.2) HF.out.2 (by rw [HN.out.1.q]; omega)
    have H4 := Lib.hid h4
    have HCu := Lib.hid h4.cut
    obtain ⟨d0, -, -, -, -, -, -, -⟩ := h4.cells
    have HNb : Hid (S'.nb = 6) := hkp.nb.trans HN.out.1.nb
    dsimp only at d0 HCu
    clear hp hbq hNb hNq hbad' ht' hkl hm hst hkp hoff' hnew hprog h4 hq HPu hcc c2
    go_wp2_with fail
    refine HCu.out.mono ?_
    rintro e w5 ⟨rfl, h5, -⟩
    have HOn := Lib.hid h5.on
    obtain ⟨d0, -, -, -, -, -, -, -⟩ := h5.cells
    dsimp only at d0 HOn
    clear HCu h5
    go_wp2_with fail
    refine HOn.out.mono ?_
    rintro e w6 ⟨rfl, h6, -⟩
    obtain ⟨S6, hS6⟩ : ∃ S6, S6 = ({ ({ S' with off := true, armed := 0 } : Fl) with off := false } : Fl) := ⟨_, rfl⟩
    have HS6 : Hid (S6.off = false ∧ S6.nb = 6) := by rw [hS6]; exact ⟨rfl, HNb.out⟩
    dsimp only at h6 hS6
    rw [← hS6] at h6
    obtain ⟨w7, hw7⟩ : ∃ w7, w7 = w6.alloc (.cells #[.int .i64 1, .int .i64 3, .int .i64 4] 3) := ⟨_, rfl⟩
    have HB7 : Hid (Below w6.heap.size w6 w7) := by unfold Hid; rw [hw7]; (repeat (first | (with_reducible refine Below.drew ?_) | (with_reducible refine below_drewN0 ?_ _) | ((with_reducible refine Below.setCell ?_ ?_ _); rotate_left; focus (first | omega | (simp; done) | (simp; omega) | (simp at *; omega))) | ((with_reducible refine Below.alloc ?_ ?_ _); rotate_left; focus (first | omega | (simp; done) | (simp; omega) | (simp at *; omega))) | (with_reducible exact Below.refl _ _)))
    have hr7 : Row w7 w6.heap.size 3 #[.int .i64 1, .int .i64 3, .int .i64 4] := by rw [hw7]; exact Row.fresh _ _ _
    have h7 := h6.below HB7.out
    have HSl : Hid (Sl S6 192 bad' (natsI [1, 3, 4]) k9 (x.q + 1) (putV x.V [5] [[97, 98, 99]] [(5 : Int)].length) G') := by rw [← HN.out.2]; exact h7.sl
    have HOp := Lib.hid (Open_any h7.med (some ⟨w6.heap.size, 0, none⟩) 3 [1, 3, 4] (by simp) (cells3 (w' := w7) hr7) (by dsimp only; rw [HS6.out.2]; exact HOk1.out) HS6.out.1 G' HSl.out.new)
    simp only [List.length_cons, List.length_nil, Nat.zero_add, Nat.reduceAdd] at HOp
    obtain ⟨-, d1, -, -, -, -, -, -⟩ := h6.cells
    dsimp only at d1 HOp
    have H7 := Lib.hid h7
    have HE7 := Lib.hid hw7
    clear HOn h6 h7 hr7 hw7 hS6 d0
    go_wp2_with fail
    rw [← HE7.out]
    refine HOp.out.mono ?_
    rintro e w8 ⟨St, Bk, Vb, c', a', q', V', md8, hm8, hst8, hv8, hS8, hop8, ht8, he1, -⟩
    obtain ⟨rfl, rfl, rfl⟩ := hop8.found' HSl.out (natsI_length _)
    obtain rfl := he1 (by omega)
    have hVl : valOf (putV x.V [5] [[97, 98, 99]] [(5 : Int)].length) 5 = [97, 98, 99] := by simp [valOf, putV, updV]
    have hVs : (putV x.V [5] [[97, 98, 99]] [(5 : Int)].length 5).isSome = true := by simp [putV, updV]
    have HGe := Lib.hid (Get_in hst8 5 (by omega) (fun l hl => by have := congrArg (fun o => o.getD []) hl; simp [putV, updV] at this; rw [← this]; simp))
    rw [hVl, hVs] at HGe
    simp only [List.length_cons, List.length_nil, Nat.zero_add, Nat.reduceAdd] at HGe
    have HKl : Hid ((keysOf (putV x.V [5] [[97, 98, 99]] [(5 : Int)].length)).length = 1) := by rw [HN.out.1.V]; unfold Hid; decide +kernel
    have HM8 := Lib.hid hm8
    have HSt8 := Lib.hid (And.intro hst8 hv8)
    have d2 := H7.out.cells.2.1
    have HWn : Hid (A.W ∉ [A.M, A.F]) := fun hm => by
      rcases List.mem_cons.1 hm with e | hm
      · exact Row.ne_type H7.out.row H7.out.med.row (by decide) e
      · obtain ⟨_, hr⟩ := H7.out.med.fl.rowF
        exact Row.ne_type H7.out.row hr (by decide) (List.mem_singleton.1 hm)
    have d8 := ht8.cell d2 HWn.out
    dsimp only at d8
    have HT8 := Lib.hid ht8
    clear hm8 hst8 hv8 hS8 hop8 ht8 HOp d1 d2
    go_wp2_with fail
    refine HGe.out.mono ?_
    rintro e w9 ⟨A9, m9, rfl, hs9, hb9⟩
    obtain ⟨w10, hw10⟩ : ∃ w10, w10 = w9.alloc (.cells #[.int .i64 0, .int .i64 2, .int .i64 5] 3) := ⟨_, rfl⟩
    have hb10 : Below w9.heap.size w9 w10 := by rw [hw10]; (repeat (first | (with_reducible refine Below.drew ?_) | (with_reducible refine below_drewN0 ?_ _) | ((with_reducible refine Below.setCell ?_ ?_ _); rotate_left; focus (first | omega | (simp; done) | (simp; omega) | (simp at *; omega))) | ((with_reducible refine Below.alloc ?_ ?_ _); rotate_left; focus (first | omega | (simp; done) | (simp; omega) | (simp at *; omega))) | (with_reducible exact Below.refl _ _)))
    have HB10 : Hid (Below w8.heap.size w8 w10) := hb9.trans (hb10.mono hb9.size)
    have hr10 : Row w10 w9.heap.size 3 #[.int .i64 0, .int .i64 2, .int .i64 5] := by rw [hw10]; exact Row.fresh _ _ _
    have hok2 : okOn 6 [0, 2, 5] := ⟨by simp, by decide, by decide⟩
    have hnw : ∀ k ∈ natsI [0, 2, 5], NwIs S6 192 k ((fun _ => none : Nat → Option (Nat × Vals)) k) := fun k hk => by
      have h1 := (mem_natsI (vs := [0, 2, 5]) (by decide) k).1 hk
      have h2 := H7.out.out k (fun hx => by
        rw [HN.out.2] at hx
        have h3 := (mem_natsI (vs := [1, 3, 4]) (by decide) k).1 hx
        simp at h1 h3; omega)
      dsimp only at h2
      show S6.newest 192 k = none
      unfold Fl.newest
      rw [h2.1, h2.2]
      rfl
    have HOp := Lib.hid (Open_any (HM8.out.below HB10.out) (some ⟨w9.heap.size, 0, none⟩) 3 [0, 2, 5] (by simp) (cells3 (w' := w10) hr10) (by rw [HS6.out.2]; exact hok2) HS6.out.1 _ hnw)
    simp only [List.length_cons, List.length_nil, Nat.zero_add, Nat.reduceAdd] at HOp
    have HSl9 := Lib.hid (hs9.turns (Turns.of_below hb10 []) (NoU8.nil _))
    have HE10 := Lib.hid hw10
    have d9 := keep_below hb9 _ _ d8
    clear HGe hs9 hb9 hb10 hr10 hnw hw10 d8
    go_wp2_with fail
    rw [← HE10.out]
    refine HOp.out.mono ?_
    rintro e w11 ⟨St2, Bk2, Vb2, c2', a2, q2, V2, md2, hm2, -, -, -, hop2, ht2, -, he2⟩
    have ha2 : a2 < 0 := by
      rcases hop2 with ⟨h, _⟩ | ⟨_, _, _, h, _⟩
      · omega
      · cases h
    obtain ⟨v2, rfl, hf2⟩ := he2 ha2
    have hmt : ∀ g ∈ [A.M, A.F], g ∈ medT A.M A.Q A.F A.L A.P S6.nb := fun g hg => mf_med hg
    have hst11 := (HSt8.out.1.below HB10.out).behind (HM8.out.below HB10.out) HSt8.out.2 ht2 hmt
    have HKe := Lib.hid (Keys_any hst11)
    rw [HKl.out] at HKe
    have hcv : (convert 22 9 (.slice A9 3 m9)).run Tryz.prog w11 = .ok (.string ⟨#[97, 98, 99]⟩) w11 := by
      have h1 : SlIs w11 _ (.slice A9 3 m9) [97, 98, 99] := HSl9.out.turns ht2 (fun g cs hr hm => (HM8.out.below HB10.out).no_bytes hr (hmt g hm))
      have := conv_text (w := w11) (A := A9) (c := m9) (l := [97, 98, 99]) (SlIs.lies h1 rfl)
      rw [show textOf [97, 98, 99] = ⟨#[97, 98, 99]⟩ from by decide +kernel] at this
      exact this
    have HIs := Lib.hid (is_any v2 26 w11 hf2)
    have HB11 : Hid (Below w.heap.size w w11) := by
      have h1 := H7.out.bel
      have h2 := HT8.out.below h1 h1.size (fun g hg => H7.out.med.at_least g (mf_med hg))
      have h3 := h2.trans (HB10.out.mono h2.size)
      exact ht2.below h3 h3.size (fun g hg => HM8.out.at_least g (mf_med hg))
    clear hm2 hop2 ht2 he2 hf2 hmt hst11 HOp ha2 d9
    go_wp2_with fail
    refine HIs.out.mono ?_
    rintro e w12 ⟨rfl, rfl⟩
    clear HIs hcv
    go_wp2_with fail
    refine HKe.out.mono ?_
    rintro e w13 ⟨v13, rfl, ho13, hb13⟩
    obtain ⟨A13, c13, rfl, _, _⟩ := own_shape ho13
    have HB13 : Hid (Below w.heap.size w w13) := HB11.out.trans (hb13.mono HB11.out.size)
    clear HKe ho13 hb13
    go_wp2
    go_ret
    exact ⟨rfl, HB13.out⟩
  · exact absurd HN.out.1.armed har
  · exact (hq.not7 hx).elim
end Go.Proofs.YthjomnaejhehoaaGreatDoor

namespace Go.Proofs.YthjomnaejhehoaaGreatDoor
open Go.RowKit Go.MapKept Go.ChangeMaps
set_option linter.unusedVariables false
set_option linter.unusedSimpArgs false

theorem W9.tlt {w0 w : World} {A : Ad} {x : X9} (h : W9 w0 w A x) : ∀ g ∈ A.St :: medT A.M A.Q A.F A.L A.P x.S.nb, g < w.heap.size := fun g hg => by
  rcases List.mem_cons.1 hg with rfl | hm
  · exact h.st.row.lt
  · rcases mem_medT.1 hm with rfl | rfl | rfl | rfl | ⟨i, hi, rfl⟩
    · exact h.med.row.lt
    · exact h.med.bad.lt
    · obtain ⟨_, hr⟩ := h.med.fl.rowF; exact hr.lt
    · obtain ⟨_, hr⟩ := h.med.fl.rowL; exact hr.lt
    · obtain ⟨_, hr⟩ := h.med.fl.rowP hi; exact hr.lt
/-- A put of one key and one value that lie in fresh rows. -/
theorem lput_fresh {w0 w w' : World} {A : Ad} {x : X9} (h : W9 w0 w A x) (hU : x.U = x.V) (hop : x.op = false) (hoff : x.S.off = false) (hq : x.q + 1 < 9223372036854775808) (hb : Below w.heap.size w w')
    (k : Int) (y : List Nat) (h256 : (∀ u ∈ y, u < 256) ∧ y.length ≤ 1048576) (kb vb ck cv : Nat) (Ai : Option Addr) (ci : Nat) (hk : w.heap.size ≤ kb) (hv : w.heap.size ≤ vb) (ck1 : w'.cell? ⟨kb, 0, none⟩ = some (.int .i64 k)) (cv1 : w'.cell? ⟨vb, 0, none⟩ = some (.slice Ai y.length ci)) (hy : Cells8 w' Ai y) (one : Bool) :
    Calls Tryz.prog 11 #[.pointer (some ⟨A.W, 0, none⟩), .slice (some ⟨kb, 0, none⟩) 1 ck, .slice (some ⟨vb, 0, none⟩) 1 cv, .bool one] w' (PutL w0 A x) :=
  lput_any (h.below hb) hU hop hoff hq (some ⟨kb, 0, none⟩) ck [k] (fun i hi => ⟨kb, 0, rfl, (by
      obtain rfl : i = 0 := by simp at hi; omega
      exact ck1)⟩) (by simp) (some ⟨vb, 0, none⟩) cv [y] (fun i hi => ⟨vb, 0, Ai, ci, rfl, (by
      obtain rfl : i = 0 := by simp at hi; omega
      exact cv1), (by
      obtain rfl : i = 0 := by simp at hi; omega
      exact hy)⟩) (by simp) (fun z hz => by rw [List.mem_singleton.1 hz]; exact h256) one (fun _ => ⟨rfl, rfl⟩)
    fun _ => ⟨fun g o e hg => (by injection e with e; injection e with e _ _; have := h.tlt g hg; omega), fun g o e hg => (by injection e with e; injection e with e _ _; have := h.tlt g hg; omega)⟩
theorem fit_len2 {V : Vals} (h : FitV 192 V) (k : Nat) (l : List Nat) (hv : V k = some l) (hV : OkV V) : l.length + 16 ≤ 192 := by
  have hk : k ∈ keysOf V := Classical.byContradiction fun hn => by rw [vals_none hV hn] at hv; cases hv
  have h1 : (valOf V k).length ≤ lenV V := le_sum_mem (List.mem_map.2 ⟨k, hk, rfl⟩)
  have e : valOf V k = l := by unfold valOf; rw [hv]; rfl
  rw [e] at h1
  unfold FitV at h
  omega
theorem zeros_cells (w : World) (n : Nat) : Cells8 (w.alloc (.cells (madeCells #[.int .u8 0] n) 5)) (some ⟨w.heap.size, 0, none⟩) (List.replicate n 0) := fun i hi => ⟨w.heap.size, 0, rfl, by
  rw [made_zero, Nat.zero_add, (Row.fresh w 5 _).cell, List.getElem?_toArray]
  exact intsV_get .u8 _ i hi⟩
theorem up1 (k : Int) (h : 0 ≤ k ∧ k < 32) : OkUp [k] 1 := by
  refine ⟨fun t ht => ?_, fun t ht s hs => by omega⟩
  have e : t = 0 := by omega
  subst e
  exact h
theorem big_not {V : Vals} (hV : OkV V) : ¬ FitV 192 (putV V [3] [List.replicate 192 0] [(3 : Int)].length) := fun hf => by
  have hb : ∀ y ∈ [List.replicate 192 0], ∀ u ∈ y, u < 256 := fun y hy u hu => by
    rw [List.mem_singleton.1 hy] at hu
    rw [List.eq_of_mem_replicate hu]; omega
  have h1 := putV_ok hV hb 1 (up1 3 ⟨by decide, by decide⟩)
  have h2 : putV V [3] [List.replicate 192 0] [(3 : Int)].length 3 = some (List.replicate 192 0) := rfl
  have h3 := fit_len2 hf 3 _ h2 h1
  rw [List.length_replicate] at h3
  omega
theorem made3 (w : World) (k : Int) (n : Nat) : (((w.alloc (.cells #[.int .i64 k] 3)).alloc (.cells (madeCells #[.int .u8 0] n) 5)).alloc (.cells #[.slice (some ⟨w.heap.size + 1, 0, none⟩) n n] 22)).cell? ⟨w.heap.size, 0, none⟩ = some (.int .i64 k) ∧
    (((w.alloc (.cells #[.int .i64 k] 3)).alloc (.cells (madeCells #[.int .u8 0] n) 5)).alloc (.cells #[.slice (some ⟨w.heap.size + 1, 0, none⟩) n n] 22)).cell? ⟨w.heap.size + 1 + 1, 0, none⟩ = some (.slice (some ⟨w.heap.size + 1, 0, none⟩) n n) ∧
    Cells8 (((w.alloc (.cells #[.int .i64 k] 3)).alloc (.cells (madeCells #[.int .u8 0] n) 5)).alloc (.cells #[.slice (some ⟨w.heap.size + 1, 0, none⟩) n n] 22)) (some ⟨w.heap.size + 1, 0, none⟩) (List.replicate n 0) := by
  refine ⟨(((Row.fresh w 3 #[.int .i64 k]).alloc _).alloc _).cell 0, ?_, ?_⟩
  · have := Row.fresh ((w.alloc (.cells #[.int .i64 k] 3)).alloc (.cells (madeCells #[.int .u8 0] n) 5)) 22 #[.slice (some ⟨w.heap.size + 1, 0, none⟩) n n]
    simp only [World.size_alloc] at this
    exact this.cell 0
  · have h1 := zeros_cells (w.alloc (.cells #[.int .i64 k] 3)) n
    rw [World.size_alloc] at h1
    intro i hi
    obtain ⟨b, off, e, hc⟩ := h1 i hi
    exact ⟨b, off, e, keep_below ((Below.refl _ _).alloc (Nat.le_refl _) _) _ _ hc⟩
set_option maxRecDepth 100000 in
set_option maxHeartbeats 8000000 in
theorem full_any (a b : Nat) (ha : a ≤ 300) (hb : b ≤ 300) (w : World) (hT : Tab w) : Calls Tryz.prog 4 #[.int .i64 a, .int .i64 b] w fun e w' => e = .returned (.bool true) ∧ Below w.heap.size w w' := by
  have HKn := Lib.hid (known_any w hT)
  have HT := Lib.hid hT
  have hmk : ∀ (n : Nat), n ≤ 300 → ∀ v : World, (Instr.makeSlice 22 (.int .i64 n) (.int .i64 n)).run Tryz.prog v = .ok (.slice (some ⟨v.heap.size, 0, none⟩) n n) (v.alloc (.cells (madeCells #[.int .u8 0] n) 5)) := fun n hn v => run_make_row' (P := Tryz.prog) 22 5 (.int .u8 0) 1 Tryz.underlying22 u8_info rfl .i64 .i64 n (by omega) (by omega) v
  have HMk := Lib.hid hmk
  have hma := hmk a ha
  have hmb := hmk b hb
  clear hT hmk
  go_enter Tryz.func4, Tryz.ntmps4
  go_wp2_with fail
  refine HKn.out.mono ?_
  rintro e w1 ⟨rfl, hb1⟩
  have HB1 := Lib.hid hb1
  have HT1 : Hid (Tab w1) := HT.out.keep (keep_below hb1)
  obtain ⟨w2, hw2⟩ : ∃ w2, w2 = w1.alloc (.cells #[.int .i64 0, .int .i64 1, .int .i64 2] 3) := ⟨_, rfl⟩
  have HB2 : Hid (Below w1.heap.size w1 w2) := by unfold Hid; rw [hw2]; (repeat (first | (with_reducible refine Below.drew ?_) | (with_reducible refine below_drewN0 ?_ _) | ((with_reducible refine Below.setCell ?_ ?_ _); rotate_left; focus (first | omega | (simp; done) | (simp; omega) | (simp at *; omega))) | ((with_reducible refine Below.alloc ?_ ?_ _); rotate_left; focus (first | omega | (simp; done) | (simp; omega) | (simp at *; omega))) | (with_reducible exact Below.refl _ _)))
  have hr2 : Row w2 w1.heap.size 3 #[.int .i64 0, .int .i64 1, .int .i64 2] := by rw [hw2]; exact Row.fresh _ _ _
  have HBe := Lib.hid (begun_any w1 w2 HB2.out HT1.out (some ⟨w1.heap.size, 0, none⟩) 3 [0, 1, 2] (cells3 (w' := w2) hr2) (fun g o e => .inr ⟨_, by injection e with e; injection e with e _ _; subst e; exact hr2⟩) ⟨by simp, by decide, by decide⟩ (by simp))
  simp only [List.length_cons, List.length_nil, Nat.zero_add, Nat.reduceAdd] at HBe
  have HE2 := Lib.hid hw2
  clear HKn hb1 hr2 hw2
  go_wp2_with fail
  rw [← HE2.out]
  refine HBe.out.mono ?_
  rintro e w3 ⟨A, x, rfl, h3, hn, hvs, -, -⟩
  obtain ⟨w4, hw4⟩ : ∃ w4, w4 = ((w3.alloc (.cells #[.int .i64 1] 3)).alloc (.cells (madeCells #[.int .u8 0] a) 5)).alloc (.cells #[.slice (some ⟨w3.heap.size + 1, 0, none⟩) a a] 22) := ⟨_, rfl⟩
  have HB4 : Hid (Below w3.heap.size w3 w4) := by unfold Hid; rw [hw4]; (repeat (first | (with_reducible refine Below.drew ?_) | (with_reducible refine below_drewN0 ?_ _) | ((with_reducible refine Below.setCell ?_ ?_ _); rotate_left; focus (first | omega | (simp; done) | (simp; omega) | (simp at *; omega))) | ((with_reducible refine Below.alloc ?_ ?_ _); rotate_left; focus (first | omega | (simp; done) | (simp; omega) | (simp at *; omega))) | (with_reducible exact Below.refl _ _)))
  have H3 := Lib.hid h3
  have HN := Lib.hid (And.intro hn hvs)
  have HE4 := Lib.hid hw4
  clear HBe h3 hn hvs hw4
  obtain ⟨m1, m2, m3⟩ := made3 w3 1 a
  rw [← HE4.out] at m1 m2 m3
  have HP4 := Lib.hid (lput_fresh (k := 1) (y := List.replicate a 0) H3.out (by rw [HN.out.1.U, HN.out.1.V]) HN.out.1.op HN.out.1.off (by rw [HN.out.1.q]; omega) HB4.out ⟨fun u hu => by rw [List.eq_of_mem_replicate hu]; omega, by simp; omega⟩ w3.heap.size (w3.heap.size + 1 + 1) 1 1 _ a (Nat.le_refl _) (by omega) m1 (by rw [List.length_replicate]; exact m2) m3 true)
  clear m1 m2 m3
  go_wp2_with fail
  rw [← HE4.out]
  refine HP4.out.mono ?_
  rintro e w5 ⟨rfl, A5, x5, h5, hU5, hq5, hop5, hfl5, hof5, hnb5, hvs5, hW5, hF5, hM5, hA5, hcl5, -⟩
  obtain ⟨w6, hw6⟩ : ∃ w6, w6 = ((w5.alloc (.cells #[.int .i64 2] 3)).alloc (.cells (madeCells #[.int .u8 0] b) 5)).alloc (.cells #[.slice (some ⟨w5.heap.size + 1, 0, none⟩) b b] 22) := ⟨_, rfl⟩
  have HB6 : Hid (Below w5.heap.size w5 w6) := by unfold Hid; rw [hw6]; (repeat (first | (with_reducible refine Below.drew ?_) | (with_reducible refine below_drewN0 ?_ _) | ((with_reducible refine Below.setCell ?_ ?_ _); rotate_left; focus (first | omega | (simp; done) | (simp; omega) | (simp at *; omega))) | ((with_reducible refine Below.alloc ?_ ?_ _); rotate_left; focus (first | omega | (simp; done) | (simp; omega) | (simp at *; omega))) | (with_reducible exact Below.refl _ _)))
  have HE6 := Lib.hid hw6
  obtain ⟨m1, m2, m3⟩ := made3 w5 2 b
  rw [← HE6.out] at m1 m2 m3
  have hqq : x5.q + 1 < 9223372036854775808 := by have := HN.out.1.q; omega
  have HP6 := Lib.hid (lput_fresh (k := 2) (y := List.replicate b 0) h5 hU5 hop5 hof5 hqq HB6.out ⟨fun u hu => by rw [List.eq_of_mem_replicate hu]; omega, by simp; omega⟩ w5.heap.size (w5.heap.size + 1 + 1) 1 1 _ b (Nat.le_refl _) (by omega) m1 (by rw [List.length_replicate]; exact m2) m3 true)
  have HW6 : Hid (A5.W = A.W ∧ x5.q ≤ 2) := ⟨hW5, by have := HN.out.1.q; omega⟩
  rw [hW5] at HP6
  clear HP4 m1 m2 m3 h5 hU5 hq5 hop5 hfl5 hof5 hnb5 hvs5 hW5 hF5 hM5 hA5 hcl5 hw6 hqq
  go_wp2_with fail
  rw [← HE6.out]
  refine HP6.out.mono ?_
  rintro e w7 ⟨rfl, A7, x7, h7, hU7, hq7, hop7, hfl7, hof7, hnb7, hvs7, hW7, hF7, hM7, hA7, hcl7, -⟩
  rw [show A5.W = A.W from HW6.out.1] at hW7
  have H7 := Lib.hid h7
  have HU7 := Lib.hid (And.intro hU7 (And.intro hof7 (And.intro hW7 (show x7.q ≤ 3 by have := HW6.out.2; omega))))
  have hc2 := h7.cells.2.2.1
  rw [hW7] at hc2
  have k2 : ∀ t : Kept w7 [], t.u.cell? ⟨A.W, 2, none⟩ = some (.pointer (some ⟨A7.St, 0, none⟩)) := fun t => t.h.cell hc2 (by simp)
  have hmz : ∀ v : World, (Instr.makeSlice 22 (.int .i64 192) (.int .i64 192)).run Tryz.prog v = .ok (.slice (some ⟨v.heap.size, 0, none⟩) 192 192) (v.alloc (.cells (madeCells #[.int .u8 0] 192) 5)) := fun v => HMk.out 192 (by omega) v
  clear HP6 h7 hU7 hq7 hop7 hfl7 hof7 hnb7 hvs7 hW7 hF7 hM7 hA7 hcl7 hc2
  go_wp2
  (refine region_kept ([]) [0, 1, 2, 3] [4, 5, 6] (by kernel_rfl) (by kernel_rfl) (fun _ _ _ _ _ h => h) ?_; simp only [List.filterMap_cons, List.getElem?_cons_zero, List.getElem?_cons_succ, List.filterMap_nil]; (repeat ((show wpQuiet _ _ _ _ (_ :: _) _); go_big_quiet_step (fail))); refine wpQuiet_nil ?_)
  clear k2
  refine wpSeqS_step ?_
  go_wp2
  obtain ⟨w8, hw8⟩ : ∃ w8, w8 = (w7.alloc (.cells (madeCells #[.int .u8 0] 192) 5)).drew := ⟨_, rfl⟩
  have hb8 : Below w7.heap.size w7 w8 := by rw [hw8]; exact ((Below.refl _ _).alloc (Nat.le_refl _) _).drew
  have HT8 : Hid (Turns w7 w8 []) := Turns.of_below hb8 _
  have HE8 := Lib.hid hw8
  have h8 := H7.out.below hb8
  have HPu := Lib.hid (h8.put1 HU7.out.2.1 (by have := HU7.out.2.2.2; omega) 3 (some ⟨w7.heap.size, 0, none⟩) 192 (List.replicate 192 0) (by rw [hw8]; exact zeros_cells w7 192) ⟨fun u hu => by rw [List.eq_of_mem_replicate hu]; omega, by simp⟩)
  rw [List.length_replicate] at HPu
  have H8 := Lib.hid h8
  have hnof := big_not h8.sl.okV.1
  have hok3 : okKs [3] [List.replicate 192 0].length := ⟨rfl, up1 3 ⟨by decide, by decide⟩⟩
  have HNo := Lib.hid (And.intro hnof hok3)
  clear hb8 h8 hw8 hnof hok3
  rw [← HE8.out]
  refine outQ_normal HT8.out ?_
  refine wpSeqS_step ?_
  go_wp2_with fail
  refine HPu.out.mono ?_
  rintro e w9 hp
  obtain ⟨rfl, hb9⟩ := hp.2.1 HNo.out.2 HNo.out.1
  have H9 := Lib.hid (H8.out.below hb9)
  have HT9 : Hid (Turns w7 w9 []) := HT8.out.then_below hb9
  have hc := H9.out.cells
  rw [HU7.out.2.2.1] at hc
  have k2 : ∀ t : Kept w9 [], t.u.cell? ⟨A.W, 2, none⟩ = some (.pointer (some ⟨A7.St, 0, none⟩)) := fun t => t.h.cell hc.2.2.1 (by simp)
  have k4 : ∀ t : Kept w9 [], t.u.cell? ⟨A.W, 4, none⟩ = some (.map (some A7.H)) := fun t => t.h.cell hc.2.2.2.2.1 (by simp)
  have HSm : Hid (∀ W', Below w9.heap.size w9 W' → Calls Tryz.prog 15 #[.pointer (some ⟨A7.St, 0, none⟩), .map (some A7.H)] W' fun e w' => e = .returned (.bool true) ∧ Below W'.heap.size W' w') := fun W' hb => (H9.out.below hb).same HU7.out.1
  clear hp hb9 hc HPu
  go_wp2_with fail
  refine outQ_normal HT9.out ?_
  refine wpSeqS_last ?_
  go_wp2
  (refine region_kept ([]) [0, 1, 2, 3, 4, 5, 6, 7, 8, 9, 10] [11, 12, 13] (by kernel_rfl) (by kernel_rfl) (fun _ _ _ _ _ h => h) ?_; simp only [List.filterMap_cons, List.getElem?_cons_zero, List.getElem?_cons_succ, List.filterMap_nil]; (repeat ((show wpQuiet _ _ _ _ (_ :: _) _); go_big_quiet_step (fail))); refine wpQuiet_nil ?_)
  clear k2 k4
  refine wpSeqS_step ?_
  go_wp2_with fail
  refine (HSm.out w9.drew (Below.refl _ _).drew).mono ?_
  rintro e w10 ⟨rfl, hb10⟩
  have HT10 : Hid (Turns w9 w10 []) := Turns.of_below ((Below.refl _ _).drew.trans hb10) _
  have HB10 : Hid (Below w.heap.size w w10) := by
    have h1 := H9.out.bel.trans (((Below.refl w9.heap.size w9).drew.trans hb10).mono H9.out.bel.size)
    exact HB1.out.trans (h1.mono HB1.out.size)
  clear hb10 HSm
  go_wp2_with fail
  refine outQ_normal HT10.out ?_
  refine wpSeqS_step ?_
  go_wp2
  refine outQ_normal HT10.out ?_
  refine wpSeqS_last ?_
  go_wp2
  go_ret
  exact ⟨rfl, HB10.out⟩
set_option maxRecDepth 100000 in
theorem full_out (a b : Int) (h : a < 0 ∨ 300 < a ∨ b < 0 ∨ 300 < b) (w : World) (hT : Tab w) : Calls Tryz.prog 4 #[.int .i64 a, .int .i64 b] w fun e w' => e = .returned (.bool true) ∧ Below w.heap.size w w' := by
  have HKn := Lib.hid (known_any w hT)
  clear hT
  by_cases h1 : a < 0
  · clear h
    go_enter Tryz.func4, Tryz.ntmps4
    go_wp2_with fail
    refine HKn.out.mono ?_
    rintro e w1 ⟨rfl, hb⟩
    have HB := Lib.hid hb
    clear HKn hb
    go_wp2
    go_ret
    exact ⟨rfl, HB.out⟩
  · by_cases h2 : 300 < a
    · clear h
      go_enter Tryz.func4, Tryz.ntmps4
      go_wp2_with fail
      refine HKn.out.mono ?_
      rintro e w1 ⟨rfl, hb⟩
      have HB := Lib.hid hb
      clear HKn hb
      go_wp2
      go_ret
      exact ⟨rfl, HB.out⟩
    · by_cases h3 : b < 0
      · clear h
        go_enter Tryz.func4, Tryz.ntmps4
        go_wp2_with fail
        refine HKn.out.mono ?_
        rintro e w1 ⟨rfl, hb⟩
        have HB := Lib.hid hb
        clear HKn hb
        go_wp2
        go_ret
        exact ⟨rfl, HB.out⟩
      · have h4 : 300 < b := by omega
        clear h
        go_enter Tryz.func4, Tryz.ntmps4
        go_wp2_with fail
        refine HKn.out.mono ?_
        rintro e w1 ⟨rfl, hb⟩
        have HB := Lib.hid hb
        clear HKn hb
        go_wp2
        go_ret
        exact ⟨rfl, HB.out⟩
end Go.Proofs.YthjomnaejhehoaaGreatDoor

namespace Go.Proofs.YthjomnaejhehoaaGreatDoor
open Go.RowKit Go.MapKept Go.ChangeMaps
set_option linter.unusedVariables false
set_option linter.unusedSimpArgs false

def RowPost (w : World) (e : Ending) (w' : World) : Prop :=
  ∃ g c vs, e = .returned (.slice (some ⟨g, 0, none⟩) vs.length c) ∧ w.heap.size ≤ g ∧ CellsI w' (some ⟨g, 0, none⟩) vs ∧ (∃ cs, Row w' g 3 cs) ∧ okOn 6 vs ∧ vs.length ≤ 5 ∧ Below w.heap.size w w'
theorem cells_of {w : World} {g : Nat} {cs : List Int} (h : Row w g 3 (cs.map (Value.int .i64)).toArray) (m : Nat) (hm : m ≤ cs.length) : CellsI w (some ⟨g, 0, none⟩) (cs.take m) := fun i hi => ⟨g, 0, rfl, by
  have h2 : i < m ∧ i < cs.length := by rw [List.length_take] at hi; omega
  rw [Nat.zero_add, h.cell, List.getElem?_toArray, List.getElem?_map, List.getElem?_eq_getElem h2.2, List.getD_eq_getElem?_getD, List.getElem?_take_of_lt h2.1, List.getElem?_eq_getElem h2.2]
  rfl⟩
theorem row_five (w : World) (x : Int) (m : Nat) (hm : m ≤ 5) (hx : okOn 6 ([x, 1, 3, 4, 5].take m)) : RowPost w (.returned (.slice (some ⟨w.heap.size, 0, none⟩) m 5)) (w.alloc (.cells #[.int .i64 x, .int .i64 1, .int .i64 3, .int .i64 4, .int .i64 5] 3)) :=
  ⟨w.heap.size, 5, [x, 1, 3, 4, 5].take m, by rw [List.length_take]; congr 2; simp; omega, Nat.le_refl _, cells_of (Row.fresh w 3 _) m hm, ⟨_, Row.fresh w 3 _⟩, hx, by rw [List.length_take]; simp; omega, (Below.refl _ _).alloc (Nat.le_refl _) _⟩
set_option maxRecDepth 100000 in
set_option maxHeartbeats 4000000 in
theorem row_any (n : Int) (w : World) : Calls Tryz.prog 10 #[.int .i64 n] w (RowPost w) := by
  by_cases hn : n < 0
  · go_enter Tryz.func10, Tryz.ntmps10
    go_wp2
    go_ret
    refine ⟨w.heap.size + 1, 3, [0, 1, 3], rfl, by omega, ?_, ?_, ⟨by simp, by decide, by decide⟩, by simp, ((Below.refl _ _).alloc (Nat.le_refl _) _).alloc (by simp) _⟩
    · have h := cells_of (cs := [0, 1, 3]) (Row.fresh (w.alloc (.cells #[.int .i64 (wrap64 (n.tmod 2 * 2)), .int .i64 1, .int .i64 3, .int .i64 4, .int .i64 5] 3)) 3 _) 3 (by simp)
      rw [World.size_alloc] at h
      exact h
    · have h := Row.fresh (w.alloc (.cells #[.int .i64 (wrap64 (n.tmod 2 * 2)), .int .i64 1, .int .i64 3, .int .i64 4, .int .i64 5] 3)) 3 #[.int .i64 0, .int .i64 1, .int .i64 3]
      rw [World.size_alloc] at h
      exact ⟨_, h⟩
  · have h2 : n.tmod 2 = 0 ∨ n.tmod 2 = 1 := by rw [Int.tmod_eq_emod_of_nonneg (by omega)]; omega
    have h3 : n.tmod 3 = 0 ∨ n.tmod 3 = 1 ∨ n.tmod 3 = 2 := by rw [Int.tmod_eq_emod_of_nonneg (by omega)]; omega
    rcases h2 with h2 | h2 <;> rcases h3 with h3 | h3 | h3
    all_goals
      go_enter Tryz.func10, Tryz.ntmps10
      go_wp2
      go_ret
      exact row_five w _ _ (by omega) ⟨by simp, by decide, by decide⟩
end Go.Proofs.YthjomnaejhehoaaGreatDoor

namespace Go.Proofs.YthjomnaejhehoaaGreatDoor
set_option linter.unusedVariables false
set_option linter.unusedSimpArgs false
theorem bulk_one {H : Type} (d : DataW H) : 1 ≤ Rows.uptoBulk d := by
  cases d with
  | lit l => cases l <;> simp [Rows.uptoBulk]
  | _ => simp [Rows.uptoBulk]
theorem bulk_part {H : Type} {d : DataW H} {l : List (DataW H)} (h : d ∈ l) : Rows.uptoBulk d ≤ Rows.uptoBulkAll l := by
  induction l with
  | nil => cases h
  | cons x r ih =>
    simp only [Rows.uptoBulkAll]
    rcases List.mem_cons.1 h with rfl | h
    · omega
    · have := ih h; omega
theorem bulk_append {H : Type} (l r : List (DataW H)) : Rows.uptoBulkAll (l ++ r) = Rows.uptoBulkAll l + Rows.uptoBulkAll r := by
  induction l with
  | nil => simp [Rows.uptoBulkAll]
  | cons x l ih => simp only [List.cons_append, Rows.uptoBulkAll, ih]; omega
theorem bulk_length {H : Type} (l : List (DataW H)) : l.length ≤ Rows.uptoBulkAll l := by
  induction l with
  | nil => simp [Rows.uptoBulkAll]
  | cons x r ih => have := bulk_one x; simp only [Rows.uptoBulkAll, List.length_cons]; omega
theorem bulk_slice {H : Type} (elems spare : List (DataW H)) : elems.length + spare.length + 1 ≤ Rows.uptoBulk (.slice elems spare) := by
  have h1 := bulk_length elems
  have h2 := bulk_length spare
  simp only [Rows.uptoBulk]
  omega
theorem bulk_elems {H : Type} (elems spare : List (DataW H)) : Rows.uptoBulkAll elems + 1 ≤ Rows.uptoBulk (.slice elems spare) := by
  simp only [Rows.uptoBulk]; omega
theorem bulk_agg {H : Type} (parts : List (DataW H)) : Rows.uptoBulkAll parts + 1 ≤ Rows.uptoBulk (.agg parts) := by
  simp only [Rows.uptoBulk]; omega
theorem bulk_bound {H : Type} {l : List (DataW H)} (hk : Rows.uptoSmall H l = true) : Rows.uptoBulkAll l ≤ 1048576 := by
  have h := of_decide_eq_true hk
  exact h
end Go.Proofs.YthjomnaejhehoaaGreatDoor
