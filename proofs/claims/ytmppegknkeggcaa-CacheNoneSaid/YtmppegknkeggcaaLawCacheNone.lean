/- CacheNone: a cache of no size hands on each write at once, whatever writes: the law returns true, and its arguments read as before. No condition. -/
import Derived.Test.YtmppegknkeggcaaCacheS
namespace Go.Proofs.Ytmppegknkeggcaa
open Go.RowKit
set_option linter.unusedVariables false
set_option linter.unusedSimpArgs false

set_option maxRecDepth 100000 in
set_option maxHeartbeats 1000000 in
theorem none_long (a : Option Addr) (n c : Nat) (h : 200 < n) (w : World) :
    Calls Try.prog 5 #[.slice a n c] w fun e w' => e = .returned (.bool true) ∧ Below w.heap.size w w' := by
  have h1 : (200 : Int) < n := by omega
  go_enter Try.func5, Try.ntmps5
  go_wp2_with fail
  refine (known_any _).mono ?_
  rintro e w1 ⟨rfl, hb1⟩
  have HB := Lib.hid hb1
  clear hb1
  go_wp2
  go_ret
  exact ⟨rfl, HB.out⟩
set_option maxRecDepth 100000 in
set_option maxHeartbeats 4000000 in
theorem none_walk (a : Option Addr) (cap : Nat) (its : List It) (h : its.length ≤ 200) (hcap : its.length ≤ cap) (w : World) (hW : Writes w a its) (hl : ∀ x ∈ its, x.l.length ≤ reachBytes) :
    Calls Try.prog 5 #[.slice a its.length cap] w fun e w' => e = .returned (.bool true) ∧ Below w.heap.size w w' := by
  obtain ⟨n, hn⟩ : ∃ n, n = its.length := ⟨_, rfl⟩
  have HN := Lib.hid hn
  have HWr := Lib.hid hW
  have HLn := Lib.hid hl
  rw [← hn] at h hcap ⊢
  have h1 : ¬ (200 : Int) < n := by omega
  clear hn hW hl
  go_enter Try.func5, Try.ntmps5
  go_wp2_with fail
  refine (known_any _).mono ?_
  rintro e w1 ⟨rfl, hb1⟩
  have HN2 := Lib.hid (CSt.new 0 (by omega) w w1 hb1)
  clear hb1
  go_wp2_with fail
  refine HN2.out.mono ?_
  rintro e w2 ⟨C, mb, rfl, h2, _⟩
  have H2 := Lib.hid h2
  clear HN2 h2
  go_wp2
  go_loopw [5] (fun i wr => ∃ k : Nat, k ≤ n ∧ i = .int .i64 k ∧ CSt w wr C mb 0 [] 0) (fun i _ => n - (intOf i).toNat)
  case atStart => exact ⟨0, by omega, rfl, H2.out⟩
  case round =>
    obtain ⟨k, hk, rfl, hst⟩ := hrel
    have HSt := Lib.hid hst
    clear H2 hst
    by_cases hlt : k < n
    · obtain ⟨x, hx⟩ : ∃ x, its[k]? = some x := ⟨_, List.getElem?_eq_getElem (by rw [← HN.out]; exact hlt)⟩
      obtain ⟨A, c, hh, hb⟩ := HSt.out
      have HH := Lib.hid hh
      have HB := Lib.hid hb
      obtain ⟨⟨b, off, e1, hc⟩, hA⟩ := HWr.out.at0 k x hx
      have HA := Lib.hid hA
      have HC := Lib.hid hc
      have HX := Lib.hid hx
      subst e1
      have hblt : b < w.heap.size := World.block_lt_of_cell? w _ (hc 0 _ rfl)
      have hnm : b ∉ C :: mb :: blk A := fun hm => by have := hh.floor b hm; omega
      have k0 : ∀ t : Kept wr (C :: mb :: blk A), t.u.cell? ⟨b, off + k * 3, none⟩ = some (.int .i64 x.a) := fun t => t.h.cell (keep_below HB.out _ _ (HC.out 0 _ rfl)) hnm
      have k1 : ∀ t : Kept wr (C :: mb :: blk A), t.u.cell? ⟨b, off + k * 3 + 1, none⟩ = some (.int .i64 x.s) := fun t => t.h.cell (keep_below HB.out _ _ (HC.out 1 _ rfl)) hnm
      have k2 : ∀ t : Kept wr (C :: mb :: blk A), t.u.cell? ⟨b, off + k * 3 + 2, none⟩ = some (.slice x.A x.l.length x.c) := fun t => t.h.cell (keep_below HB.out _ _ (HC.out 2 _ rfl)) hnm
      have hwu : IntKind.i64.wrap ((k : Int) + 1) = (k : Int) + 1 := wraps_up k (by omega)
      clear hh hb hc hA hx
      go_wp2
      (refine region_kept (C :: mb :: blk A) [0, 1, 2, 3, 4, 6, 7, 8, 9, 10] [5, 11, 12, 13, 14, 15, 16, 17] (by kernel_rfl) (by kernel_rfl) (fun _ _ _ _ _ h => h) ?_; simp only [List.filterMap_cons, List.getElem?_cons_zero, List.getElem?_cons_succ, List.filterMap_nil]; (repeat ((show wpQuiet _ _ _ _ (_ :: _) _); go_big_quiet_step (fail))); refine wpQuiet_nil ?_)
      clear k0 k1 k2
      have HPut := Lib.hid (Put_any w.heap.size C mb 0 c A [] 0 x.a x.s x.A x.l x.c wr.drew (HH.out.below (Below.refl _ _).drew) (by simp) HA.out.wa HA.out.ws HA.out.small (HLn.out x (List.mem_of_getElem? HX.out))
        ((HH.out.below (Below.refl _ _).drew).src (HA.out.keep (keep_below HB.out.drew)).src (fun h0 ad e => .inl (HA.out.lt h0 ad e))))
      refine wpSeqS_step ?_
      go_wp2_with fail
      refine HPut.out.mono ?_
      rintro e w4 ⟨Ao, co, A', c', out, rest, y, rfl, ⟨e1, e2, e3, e4⟩, hsp, hr, hh4, _, hown, hdat, ht4⟩
      obtain ⟨rfl, rfl⟩ := split_over (x := y) (l := []) hsp rfl hr
      have HT4 : Hid (Turns wr w4 (C :: mb :: blk A)) := (Turns.refl wr _).drew.trans ht4 (fun k hk => .inl hk)
      have HH4 := Lib.hid hh4
      have HB4 : Hid (Below w.heap.size w w4) := HT4.out.below HB.out HB.out.size (fun k hk => HH.out.floor k hk)
      have hS1 : Sees w4 Ao [y] := Sees.of_own hown hdat
      have hS2 : Sees w4 (some ⟨b, off + k * 3, none⟩) [x] := ⟨fun i z hz => by
        have hi : i = 0 := by have := (List.getElem?_eq_some_iff.1 hz).1; simp at this; exact this
        subst hi
        simp at hz; subst hz
        refine ⟨⟨b, off + k * 3, rfl, fun j u hu => ?_⟩, (HA.out.keep (keep_below HB4.out)).lies⟩
        have := keep_below HB4.out _ _ (HC.out j u hu)
        rw [← Nat.add_assoc] at this
        rw [Nat.zero_mul, Nat.zero_add]; exact this⟩
      have HSame := Lib.hid (same_any Ao (some ⟨b, off + k * 3, none⟩) [y] [x] co (cap - k) 1 1 rfl rfl (by simp) w4 hS1 hS2 (by simp [It.sees, e1, e2, e3]))
      have HLen := Lib.hid (fun q => Len_any C A' 0 c' (w4.drewN q) HH4.out.cells.2.1)
      clear e1 e2 e3 e4 hsp hr hh4 hown hdat ht4 hS1 hS2 HPut
      go_wp2_with fail
      refine outQ_normal HT4.out ?_
      refine wpSeqS_step ?_
      go_wp2_with fail
      refine HSame.out.mono ?_
      rintro e w5 ⟨rfl, q, rfl⟩
      go_wp2_with fail
      refine outQ_normal (HT4.out.drewN q) ?_
      refine wpSeqS_step ?_
      go_wp2_with fail
      refine outQ_normal (HT4.out.drewN q) ?_
      refine wpSeqS_step ?_
      go_wp2_with fail
      refine outQ_normal (HT4.out.drewN q) ?_
      refine wpSeqS_step ?_
      go_wp2_with fail
      refine outQ_normal (HT4.out.drewN q) ?_
      refine wpSeqS_step ?_
      go_wp2_with fail
      refine (HLen.out q).mono ?_
      rintro e w6 ⟨rfl, rfl⟩
      go_wp2_with fail
      refine outQ_normal (HT4.out.drewN q) ?_
      refine wpSeqS_step ?_
      go_wp2_with fail
      refine outQ_normal (HT4.out.drewN q) ?_
      refine wpSeqS_last ?_
      have HSt5 : Hid (CSt w (w4.drewN q) C mb 0 [] 0) := ⟨A', c', HH4.out.below (below_drewN0 (Below.refl _ _) _), below_drewN0 HB4.out _⟩
      have HBar := Lib.hid (HSt5.out.barrier (by omega))
      go_wp2_with fail
      refine HBar.out.mono ?_
      rintro e w7 ⟨⟨v, rfl⟩, h7⟩
      have H7 : Hid (CSt w w7 C mb 0 [] 0) := h7
      clear HBar h7 HSame HLen
      go_wp2
      go_roundw
      case rel => exact ⟨k + 1, by omega, by go_num, H7.out⟩
      case measure => simp [intOf]; omega
    · obtain rfl : k = n := by omega
      have HFl := Lib.hid HSt.out.flush
      go_wp2_with fail
      refine HFl.out.mono ?_
      rintro e w4 ⟨Ao, co, rfl, h4, _⟩
      have H4 := Lib.hid h4
      have HGr := Lib.hid h4.groups
      clear HFl h4
      go_wp2_with fail
      refine HGr.out.mono ?_
      rintro e w5 ⟨rfl, h5⟩
      have H5 := Lib.hid h5
      clear HGr h5
      go_wp2
      go_ret
      exact ⟨rfl, H5.out.bel⟩
end Go.Proofs.Ytmppegknkeggcaa
namespace Go.Proofs.Ytmppegknkeggcaa.cacheNone
open Go.ChangeShapes Go.WideShapes Go.ChangeAt Go.RowKit Go.Joins
set_option linter.unusedVariables false
set_option linter.unusedSimpArgs false

theorem opened {H : Type} {enc : TypeId × Value → H} (W : World) {base : Nat} {v0 : Value} {d0 : DataW H} {p0 : List MemPlace}
    (o0 : Value.okWide Try.prog W .any base 36 v0) (h0 : DataW.Trod enc Try.prog W 0 (fun _ => true) true 36 v0 d0 p0)
    (hz : (DataW.weightsEach Try.prog [36] [d0]).all (· ≤ reachBytes) = true) :
    Calls Try.prog 5 #[v0] W fun e W' => e = .returned (.bool true) ∧ Below W.heap.size W W' := by
  obtain ⟨a, cap, its, rfl, hc, _, hW, hw⟩ := writes_view o0 h0
  have hq : ∀ q ∈ d0.weights Try.prog 36, q ≤ reachBytes := by
    intro q hq
    rw [List.all_eq_true] at hz
    have := hz q (by simp [DataW.weightsEach, hq])
    simpa using this
  by_cases h : 200 < its.length
  · exact none_long a its.length cap h W
  · exact none_walk a cap its (by omega) hc W hW (hw reachBytes hq)

/-! THE STATEMENT's FRAME, written by my own program over the guide's way (howto/shells, how-to-prove-an-upto-statement). -/
theorem own : ownKnob Try.prog.godebug = none := by kernel_rfl
theorem laidOut : laidOutB Try.prog = true := by kernel_rfl

theorem contract (H : Type) (enc : TypeId × Value → H) (W : World) (base : Nat) (args : Array Value) (ds gs : List (DataW H)) (before : List MemPlace)
    (hval : ∀ (j : Nat) t v, Try.f5.params[j]? = some t → args[j]? = some v → Value.okWide Try.prog W .any base t v)
    (hW : DataW.Whole enc Try.prog Try.f5.params.toList Rows.cacheNoneSpec.vars false W args.toList ds gs before) (hk0 : (DataW.weightsEach Try.prog (Try.f5.params.toList ++ Rows.cacheNoneSpec.plain.varTypes Try.prog) (ds ++ gs)).all (· ≤ reachBytes) = true) :
    Calls Try.prog 5 args W fun e W' => ∃ v, e = .returned v ∧ Rows.cacheNoneSpec.post enc Try.prog Try.f5 false true false false W args v W' := by
  have hW' := hW
  obtain ⟨p, q, hA0, hV, rfl, hfz, hnd⟩ := hW
  have hA : DataW.TrodAll enc Try.prog W 0 (fun _ => true) true Try.f5.params.toList args.toList ds p := hA0
  rw [Try.params5] at hA hval
  obtain ⟨v0, vs0, d0, ds0, p0, q0, hargs, rfl, rfl, h0, r0⟩ := trodAll_cons hA
  obtain ⟨rfl, rfl, rfl⟩ := trodAll_nil r0
  obtain rfl : args = #[v0] := by cases args; simp_all
  obtain ⟨rfl, rfl⟩ := trodVars_none hV
  have k0 := h0
  have lt0 : ∀ x ∈ p0, x.block < W.heap.size := by obtain ⟨m, hm⟩ := k0; exact DataW.trod_lt m _ _ _ hm
  have hk : (DataW.weightsEach Try.prog [36] [d0]).all (· ≤ reachBytes) = true := hk0
  clear hA0
  refine (opened W (hval 0 36 v0 rfl rfl) h0 hk).mono fun e W' ⟨he, bel⟩ => ?_
  subst he
  exact ⟨_, rfl, _, _, _, [], _, [], hW', trodAll_mk1 (shut_bool Try.underlying4 _), (trodAll_cons_mk (Below.trod laidOut (by kernel_rfl) (of_decide_eq_true (by kernel_rfl)) k0 bel lt0) trodAll_mk0), rfl, bel.frame _, fun h => by cases h⟩

set_option maxRecDepth 100000 in
theorem lifted (os : Os) (started : os.Started) (H : Type) (enc : TypeId × Value → H) :
    ReturnsInHanded {} Try.checked os 5 .any (Rows.cacheNoneSpec.pre6 enc Try.prog Try.f5 Rows.cacheNoneRow.domain false) (Rows.cacheNoneSpec.post enc Try.prog Try.f5 false true false false) := by
  refine returnsInHanded_of_change_sized (C := Try.checked) own started (by kernel_rfl) Try.func5
    (ChangeSpec.witness6 (enc := enc) (C := Try.checked) false ⟨#[], #[.slice none 0 0], []⟩ 8 (by kernel_rfl) (by kernel_rfl) (by kernel_rfl) (by kernel_rfl)) ?_
  intro W base args ds gs before hval hW hcnd hsz _
  exact contract H enc W base args ds gs before hval hW hsz

theorem proved : Rows.CacheNoneSaid :=
  OpenClaim.holds_of_wide 5 Try.f5 rfl rfl rfl rfl rfl rfl rfl ⟨rfl, rfl, rfl, rfl, rfl⟩ rfl rfl rfl rfl rfl (by kernel_rfl) Try.func5 (by kernel_rfl)
    (of_decide_eq_true (by kernel_rfl)) (by unfold Func.isWrapper; first | (rw [if_pos (by decide +kernel)]; kernel_rfl) | (rw [if_neg (by decide +kernel)]; exact ⟨rfl, rfl⟩))
    (fun os started H enc _ => lifted os started H enc)
#print axioms proved
end Go.Proofs.Ytmppegknkeggcaa.cacheNone
