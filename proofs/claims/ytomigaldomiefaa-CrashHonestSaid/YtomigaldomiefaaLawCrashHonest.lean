/- CrashHonest: a cache written out in order, group by group, each write of a group or not, cut anywhere, is one of those that may be: the law returns true, and its arguments read as before. No condition. -/
import Derived.Test.YtomigaldomiefaaCrHonestB
import Derived.Test.YtomigaldomiefaaOpenBytes
namespace Go.Proofs.Ytomigaldomiefaa.crashHonest
open Go.ChangeShapes Go.WideShapes Go.ChangeAt Go.RowKit Go.Joins Go.Deep
set_option linter.unusedVariables false
set_option linter.unusedSimpArgs false

set_option maxRecDepth 100000 in
theorem bools_view {H : Type} {enc : TypeId × Value → H} {W : World} {base : Nat} {v : Value} {d : DataW H} {p : List MemPlace}
    (o : Value.okWide Try.prog W .any base 36 v) (h : DataW.Trod enc Try.prog W 0 (fun _ => true) true 36 v d p) :
    ∃ (a : Option Addr) (n cap : Nat), v = .slice a n cap ∧ BoolsAt W a n := by
  obtain ⟨a, len, cap, rfl⟩ := okWide_slice Try.underlying36 o
  obtain ⟨fuel, hf⟩ := h
  rcases open_slice Try.underlying36 hf with ⟨hcs, e⟩ | ⟨x, len', c, m, n, D, Pl, hcs, _, hl, hm, hmm, e, hi⟩
  · simp [Value.cells] at hcs
    obtain ⟨rfl, rfl, rfl⟩ := hcs
    exact ⟨none, 0, 0, rfl, fun i hi => by omega⟩
  · simp [Value.cells] at hcs
    obtain ⟨rfl, rfl, rfl⟩ := hcs
    simp only [if_true] at hmm
    subst hmm
    have hc1 : Try.prog.cellsOf 4 = 1 := by kernel_rfl
    rw [hc1] at hi
    refine ⟨some x, len, _, rfl, fun i hin => ?_⟩
    obtain ⟨row, hrow, htr⟩ := hi i (by omega)
    obtain ⟨_, hlen, hat⟩ := World.cells?_some hrow
    obtain ⟨b, rfl, _⟩ := DataW.trod_bool Try.underlying4 htr
    have h0 := hat 0 (by simp)
    obtain ⟨g, off, spot⟩ := x
    have hspot : spot = none := by
      obtain ⟨row0, hrow0, htr0⟩ := hi 0 (by omega)
      obtain ⟨_, hlen0, hat0⟩ := World.cells?_some hrow0
      have := World.cell?_spot ((hat0 0 (by omega)).trans (List.getElem?_eq_getElem (by omega)))
      simpa [Addr.add] using this
    subst hspot
    refine ⟨g, off, b, rfl, ?_⟩
    rw [addr_add, addr_add] at h0
    simpa using h0

set_option maxRecDepth 100000 in
theorem opened {H : Type} {enc : TypeId × Value → H} (W : World) {base : Nat} {v0 v1 v2 v3 v4 v5 v6 : Value} {d0 d1 d2 d3 d4 d5 d6 : DataW H} {p0 p1 p2 p3 p4 p5 p6 : List MemPlace}
    (o0 : Value.okWide Try.prog W .any base 3 v0) (o1 : Value.okWide Try.prog W .any base 23 v1) (o2 : Value.okWide Try.prog W .any base 35 v2) (o3 : Value.okWide Try.prog W .any base 3 v3) (o4 : Value.okWide Try.prog W .any base 36 v4) (o5 : Value.okWide Try.prog W .any base 23 v5) (o6 : Value.okWide Try.prog W .any base 36 v6)
    (h0 : DataW.Trod enc Try.prog W 0 (fun _ => true) true 3 v0 d0 p0) (h1 : DataW.Trod enc Try.prog W 0 (fun _ => true) true 23 v1 d1 p1) (h2 : DataW.Trod enc Try.prog W 0 (fun _ => true) true 35 v2 d2 p2) (h3 : DataW.Trod enc Try.prog W 0 (fun _ => true) true 3 v3 d3 p3) (h4 : DataW.Trod enc Try.prog W 0 (fun _ => true) true 36 v4 d4 p4) (h5 : DataW.Trod enc Try.prog W 0 (fun _ => true) true 23 v5 d5 p5) (h6 : DataW.Trod enc Try.prog W 0 (fun _ => true) true 36 v6 d6 p6)
    (hz : (DataW.weightsEach Try.prog [3, 23, 35, 3, 36, 23, 36] [d0, d1, d2, d3, d4, d5, d6]).all (· ≤ reachBytes) = true) :
    Calls Try.prog 4 #[v0, v1, v2, v3, v4, v5, v6] W fun e W' => e = .returned (.bool true) ∧ Below W.heap.size W W' := by
  obtain ⟨n, rfl, rfl, rfl, w1⟩ := open_int Try.underlying3 o0 h0
  obtain ⟨A1, c1, its, rfl, hc1, _, hW, _⟩ := writes_view o1 h1
  obtain ⟨A2, c2, gss, rfl, _, hG, hN⟩ := groups_view o2 h2
  obtain ⟨level, rfl, rfl, rfl, w3⟩ := open_int Try.underlying3 o3 h3
  obtain ⟨A3, n3, c3, rfl, hB3⟩ := bools_view o4 h4
  obtain ⟨A4, c4, its4, rfl, hc4, _, hW4, _⟩ := writes_view o5 h5
  obtain ⟨A5, n5, c5, rfl, hB5⟩ := bools_view o6 h6
  by_cases hout : n < 1 ∨ 40 < n ∨ 100 < its.length ∨ 8 < gss.length ∨ 30 < its4.length
  · exact honest_out n level A1 A2 A3 A4 A5 its.length gss.length n3 its4.length n5 c1 c2 c3 c4 c5 W hout
  · simp only [not_or, Int.not_lt, Nat.not_lt] at hout
    obtain ⟨e1, e2, e3, e4, e5⟩ := hout
    obtain ⟨n, rfl⟩ := Int.eq_ofNat_of_zero_le (show 0 ≤ n by omega)
    refine honest_walk n (by omega) level A1 A2 A3 A4 A5 c1 c2 c3 c4 c5 its its4 gss e3 e4 e5 n3 n5 (fun g hg => ?_) W hW hG hW4 hB3 hB5
    have hq : ∀ q ∈ d2.weights Try.prog 35, q ≤ reachBytes := by
      intro q hq
      rw [List.all_eq_true] at hz
      have := hz q (by simp [DataW.weightsEach, hq])
      simpa using this
    have h1 := hN reachBytes hq g hg
    have h2 : reachBytes ≤ 140737488355328 := by decide
    omega

/-! THE STATEMENT's FRAME, written by my own program over the guide's way (howto/shells, how-to-prove-an-upto-statement). -/
theorem own : ownKnob Try.prog.godebug = none := by kernel_rfl
theorem laidOut : laidOutB Try.prog = true := by kernel_rfl

set_option maxRecDepth 100000 in
theorem contract (H : Type) (enc : TypeId × Value → H) (W : World) (base : Nat) (args : Array Value) (ds gs : List (DataW H)) (before : List MemPlace)
    (hval : ∀ (j : Nat) t v, Try.f4.params[j]? = some t → args[j]? = some v → Value.okWide Try.prog W .any base t v)
    (hW : DataW.Whole enc Try.prog Try.f4.params.toList Rows.crashHonestSpec.vars false W args.toList ds gs before) (hk0 : (DataW.weightsEach Try.prog (Try.f4.params.toList ++ Rows.crashHonestSpec.plain.varTypes Try.prog) (ds ++ gs)).all (· ≤ reachBytes) = true) :
    Calls Try.prog 4 args W fun e W' => ∃ v, e = .returned v ∧ Rows.crashHonestSpec.post enc Try.prog Try.f4 false true false false W args v W' := by
  have hW' := hW
  obtain ⟨p, q, hA0, hV, rfl, hfz, hnd⟩ := hW
  have hA : DataW.TrodAll enc Try.prog W 0 (fun _ => true) true Try.f4.params.toList args.toList ds p := hA0
  rw [Try.params4] at hA hval
  obtain ⟨v0, vs0, d0, ds0, p0, q0, hargs, rfl, rfl, h0, r0⟩ := trodAll_cons hA
  obtain ⟨v1, vs1, d1, ds1, p1, q1, rfl, rfl, rfl, h1, r1⟩ := trodAll_cons r0
  obtain ⟨v2, vs2, d2, ds2, p2, q2, rfl, rfl, rfl, h2, r2⟩ := trodAll_cons r1
  obtain ⟨v3, vs3, d3, ds3, p3, q3, rfl, rfl, rfl, h3, r3⟩ := trodAll_cons r2
  obtain ⟨v4, vs4, d4, ds4, p4, q4, rfl, rfl, rfl, h4, r4⟩ := trodAll_cons r3
  obtain ⟨v5, vs5, d5, ds5, p5, q5, rfl, rfl, rfl, h5, r5⟩ := trodAll_cons r4
  obtain ⟨v6, vs6, d6, ds6, p6, q6, rfl, rfl, rfl, h6, r6⟩ := trodAll_cons r5
  obtain ⟨rfl, rfl, rfl⟩ := trodAll_nil r6
  obtain rfl : args = #[v0, v1, v2, v3, v4, v5, v6] := by cases args; simp_all
  obtain ⟨rfl, rfl⟩ := trodVars_none hV
  have k0 := h0
  have lt0 : ∀ x ∈ p0, x.block < W.heap.size := by obtain ⟨m, hm⟩ := k0; exact DataW.trod_lt m _ _ _ hm
  have k1 := h1
  have lt1 : ∀ x ∈ p1, x.block < W.heap.size := by obtain ⟨m, hm⟩ := k1; exact DataW.trod_lt m _ _ _ hm
  have k2 := h2
  have lt2 : ∀ x ∈ p2, x.block < W.heap.size := by obtain ⟨m, hm⟩ := k2; exact DataW.trod_lt m _ _ _ hm
  have k3 := h3
  have lt3 : ∀ x ∈ p3, x.block < W.heap.size := by obtain ⟨m, hm⟩ := k3; exact DataW.trod_lt m _ _ _ hm
  have k4 := h4
  have lt4 : ∀ x ∈ p4, x.block < W.heap.size := by obtain ⟨m, hm⟩ := k4; exact DataW.trod_lt m _ _ _ hm
  have k5 := h5
  have lt5 : ∀ x ∈ p5, x.block < W.heap.size := by obtain ⟨m, hm⟩ := k5; exact DataW.trod_lt m _ _ _ hm
  have k6 := h6
  have lt6 : ∀ x ∈ p6, x.block < W.heap.size := by obtain ⟨m, hm⟩ := k6; exact DataW.trod_lt m _ _ _ hm
  have hk : (DataW.weightsEach Try.prog [3, 23, 35, 3, 36, 23, 36] [d0, d1, d2, d3, d4, d5, d6]).all (· ≤ reachBytes) = true := hk0
  clear hA0
  refine (opened W (hval 0 3 v0 rfl rfl) (hval 1 23 v1 rfl rfl) (hval 2 35 v2 rfl rfl) (hval 3 3 v3 rfl rfl) (hval 4 36 v4 rfl rfl) (hval 5 23 v5 rfl rfl) (hval 6 36 v6 rfl rfl) h0 h1 h2 h3 h4 h5 h6 hk).mono fun e W' ⟨he, bel⟩ => ?_
  subst he
  exact ⟨_, rfl, _, _, _, [], _, [], hW', trodAll_mk1 (shut_bool Try.underlying4 _), (trodAll_cons_mk (Below.trod laidOut (by kernel_rfl) (of_decide_eq_true (by kernel_rfl)) k0 bel lt0) (trodAll_cons_mk (Below.trod laidOut (by kernel_rfl) (of_decide_eq_true (by kernel_rfl)) k1 bel lt1) (trodAll_cons_mk (Below.trod laidOut (by kernel_rfl) (of_decide_eq_true (by kernel_rfl)) k2 bel lt2) (trodAll_cons_mk (Below.trod laidOut (by kernel_rfl) (of_decide_eq_true (by kernel_rfl)) k3 bel lt3) (trodAll_cons_mk (Below.trod laidOut (by kernel_rfl) (of_decide_eq_true (by kernel_rfl)) k4 bel lt4) (trodAll_cons_mk (Below.trod laidOut (by kernel_rfl) (of_decide_eq_true (by kernel_rfl)) k5 bel lt5) (trodAll_cons_mk (Below.trod laidOut (by kernel_rfl) (of_decide_eq_true (by kernel_rfl)) k6 bel lt6) trodAll_mk0))))))), rfl, bel.frame _, fun h => by cases h⟩

set_option maxRecDepth 100000 in
theorem lifted (os : Os) (started : os.Started) (H : Type) (enc : TypeId × Value → H) :
    ReturnsInHanded {} Try.checked os 4 .any (Rows.crashHonestSpec.pre6 enc Try.prog Try.f4 Rows.crashHonestRow.domain false) (Rows.crashHonestSpec.post enc Try.prog Try.f4 false true false false) := by
  refine returnsInHanded_of_change_sized (C := Try.checked) own started (by kernel_rfl) Try.func4
    (ChangeSpec.witness6 (enc := enc) (C := Try.checked) false ⟨#[], #[.int .i64 0, .slice none 0 0, .slice none 0 0, .int .i64 0, .slice none 0 0, .slice none 0 0, .slice none 0 0], []⟩ 8 (by kernel_rfl) (by kernel_rfl) (by kernel_rfl) (by kernel_rfl)) ?_
  intro W base args ds gs before hval hW hcnd hsz _
  exact contract H enc W base args ds gs before hval hW hsz

set_option maxRecDepth 100000 in
theorem proved : Rows.CrashHonestSaid :=
  OpenClaim.holds_of_wide 4 Try.f4 rfl rfl rfl rfl rfl rfl rfl ⟨rfl, rfl, rfl, rfl, rfl⟩ rfl rfl rfl rfl rfl (by kernel_rfl) Try.func4 (by kernel_rfl)
    (of_decide_eq_true (by kernel_rfl)) (by unfold Func.isWrapper; first | (rw [if_pos (by decide +kernel)]; kernel_rfl) | (rw [if_neg (by decide +kernel)]; exact ⟨rfl, rfl⟩))
    (fun os started H enc _ => lifted os started H enc)
#print axioms proved
end Go.Proofs.Ytomigaldomiefaa.crashHonest
