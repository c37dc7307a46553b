/- FrameBytes: for any command, bytes and status: Encode, Decode, Find, Read, ReadLong, Response, Ready and Long answer what the document's frames do: the law returns true, and its arguments read as before. No condition. -/
import Derived.Test.YteocmpaabihoiaaFrBytes
import Derived.Test.YteocmpaabihoiaaOpenBytes
namespace Go.Proofs.Yteocmpaabihoiaa
open Go.RowKit
set_option linter.unusedVariables false
set_option linter.unusedSimpArgs false

set_option maxRecDepth 100000 in
set_option maxHeartbeats 2000000 in
theorem bytes_in (n : Int) (v : Nat) (a : Option Addr) (l : List Nat) (cap : Nat) (st : Nat) (hv : v < 4294967296) (hs : st < 4294967296) (hl : l.length ≤ 2000) (hcap : l.length ≤ cap) (hcap' : cap ≤ maxLen) (h8 : ∀ x ∈ l, x < 256) (w : World) (hc : Cells8 w a l) :
    Calls Try.prog 6 #[.agg #[.int .i64 n, .int .u32 v], .slice a l.length cap, .int .u32 st] w fun e w' => e = .returned (.bool true) ∧ Below w.heap.size w w' := by
  have hm : l.length ≤ maxLen := by omega
  obtain ⟨x0, x1, x2, x3, x4, x5, er, hE1, hE2⟩ := Encode_both n v hv
  have HE1 := Lib.hid hE1
  have HE2 := Lib.hid hE2
  have HD1 := Lib.hid (fun w' hc' => Decode_any a l l.length cap rfl hcap hcap' h8 w' hc')
  have HD2 := Lib.hid (fun w' hc' => refDecode_any a l l.length cap rfl hcap hcap' h8 w' hc')
  have HF1 := Lib.hid (fun w' hc' => Find_any a l l.length cap rfl hm h8 w' hc')
  have HF2 := Lib.hid (fun w' hc' => refFind_any a l l.length cap rfl hm h8 w' hc')
  have HR1 := Lib.hid (fun w' hc' => Read_any a l l.length cap rfl hcap hcap' h8 w' hc')
  have HR2 := Lib.hid (fun w' hc' => refReadTop_any a l l.length cap rfl hcap hcap' h8 w' hc')
  have HL1 := Lib.hid (fun w' hc' => ReadLong_text a l l.length cap rfl hcap hcap' h8 w' hc')
  have HL2 := Lib.hid (fun w' hc' => refReadLong_text a l l.length cap rfl hcap hcap' h8 w' hc')
  have HP1 := Lib.hid (Response_any n st hs)
  have HP2 := Lib.hid (refResponse_any n st hs)
  have he1 := laid_eql (low6 n) st
  have HY1 := Lib.hid (Ready_any st hs)
  have HY2 := Lib.hid (refReady_any st hs)
  have he2 := ready_eql st
  have HG1 := Lib.hid (fun w' hc' => Long_any a l l.length cap rfl h8 w' hc')
  have HG2 := Lib.hid (fun w' hc' => refLong_any a l l.length cap rfl hm h8 w' hc')
  have he3 := long_eql l
  have he0 := neq6 x0 x1 x2 x3 x4 x5 x0 x1 x2 x3 x4 x5
  simp only [bne_self_eq_false] at he0
  simp only [cmdOf, tripOf] at HD1 HD2 HR1 HR2
  have HC := Lib.hid hc
  clear hE1 hE2 h8 hc hm hcap hcap'
  obtain ⟨V1, hV1⟩ : ∃ V1, laid (low6 n) st = .agg V1 := ⟨_, rfl⟩
  obtain ⟨V2, hV2⟩ : ∃ V2, readyV st = .agg V2 := ⟨_, rfl⟩
  rw [hV1] at HP1 HP2 he1
  rw [hV2] at HY1 HY2 he2
  clear hV1 hV2
  generalize (ints8 (longL l)).toArray = V3 at *
  generalize readF l 64 = r at *
  obtain ⟨r1, r2, r3⟩ := r
  generalize readF l 0 = s at *
  obtain ⟨s1, s2, s3⟩ := s
  generalize rlErr l = le at *
  generalize textS l = tx at *
  generalize findN l = fd at *
  go_enter Try.func6, Try.ntmps6
  go_wp2_with fail
  refine (known_any _).mono ?_
  rintro e w1 ⟨rfl, hb1⟩
  have hz1 := hb1.size
  simp at hz1
  have q0 : w1.cell? ⟨w.heap.size, 0, none⟩ = some (.int .i64 n) := keep_below hb1 _ _ (by simp [go_sem])
  have q1 : w1.cell? ⟨w.heap.size, 1, none⟩ = some (.int .u32 v) := keep_below hb1 _ _ (by simp [go_sem])
  have HC1 := Lib.hid (((HC.out.keep (keep_alloc w _)).keep (keep_below hb1)))
  go_wp2_with fail
  refine (HE1.out _).mono ?_
  rintro e w2 ⟨rfl, hb2⟩
  have hz2 := hb2.size
  have q0' := keep_below hb2 _ _ q0
  have q1' := keep_below hb2 _ _ q1
  have HC2 := Lib.hid (HC1.out.keep (keep_below hb2))
  clear q0 q1
  have z1 : w.heap.size < w2.heap.size := by omega
  go_wp2_with fail
  refine (HE2.out _).mono ?_
  rintro e w3 ⟨rfl, hb3⟩
  have hz3 := hb3.size
  simp at hz3
  have RX2 := Row.fresh w2 26 #[.int .u8 x0, .int .u8 x1, .int .u8 x2, .int .u8 x3, .int .u8 x4, .int .u8 x5]
  have q0 := keep_below hb3 _ _ (keep_alloc w2 (.cells #[.int .u8 x0, .int .u8 x1, .int .u8 x2, .int .u8 x3, .int .u8 x4, .int .u8 x5] 26) _ _ q0')
  have q1 := keep_below hb3 _ _ (keep_alloc w2 (.cells #[.int .u8 x0, .int .u8 x1, .int .u8 x2, .int .u8 x3, .int .u8 x4, .int .u8 x5] 26) _ _ q1')
  have HC3 := Lib.hid ((HC2.out.keep (keep_alloc w2 (.cells #[.int .u8 x0, .int .u8 x1, .int .u8 x2, .int .u8 x3, .int .u8 x4, .int .u8 x5] 26))).keep (keep_below hb3))
  have RX3 := Lib.hid (RX2.below hb3 RX2.lt)
  clear q0' q1' RX2 HC2
  go_wp2_with fail
  have RY3 := Lib.hid (Row.fresh w3 26 #[.int .u8 x0, .int .u8 x1, .int .u8 x2, .int .u8 x3, .int .u8 x4, .int .u8 x5])
  refine (HD1.out _ (HC3.out.keep (keep_alloc w3 _))).mono ?_
  rintro e w4 ⟨rfl, hb4⟩
  have hz4 := hb4.size
  simp at hz4
  have q0' := keep_below hb4 _ _ (keep_alloc w3 (.cells #[.int .u8 x0, .int .u8 x1, .int .u8 x2, .int .u8 x3, .int .u8 x4, .int .u8 x5] 26) _ _ q0)
  have q1' := keep_below hb4 _ _ (keep_alloc w3 (.cells #[.int .u8 x0, .int .u8 x1, .int .u8 x2, .int .u8 x3, .int .u8 x4, .int .u8 x5] 26) _ _ q1)
  have HC4 := Lib.hid ((HC3.out.keep (keep_alloc w3 (.cells #[.int .u8 x0, .int .u8 x1, .int .u8 x2, .int .u8 x3, .int .u8 x4, .int .u8 x5] 26))).keep (keep_below hb4))
  have RX4 := Lib.hid ((RX3.out.alloc (.cells #[.int .u8 x0, .int .u8 x1, .int .u8 x2, .int .u8 x3, .int .u8 x4, .int .u8 x5] 26)).below hb4 (RX3.out.alloc _).lt)
  have RY4 := Lib.hid (RY3.out.below hb4 RY3.out.lt)
  clear q0 q1 HC3 RX3 RY3
  go_wp2_with fail
  refine (HD2.out _ (HC4.out.keep (keep_alloc w4 _))).mono ?_
  rintro e w5 ⟨rfl, hb5⟩
  have hz5 := hb5.size
  simp at hz5
  have q0 := keep_below hb5 _ _ (keep_alloc w4 (.cells #[.int .i64 r1, .int .u32 r2] 24) _ _ q0')
  have q1 := keep_below hb5 _ _ (keep_alloc w4 (.cells #[.int .i64 r1, .int .u32 r2] 24) _ _ q1')
  have HC5 := Lib.hid ((HC4.out.keep (keep_alloc w4 (.cells #[.int .i64 r1, .int .u32 r2] 24))).keep (keep_below hb5))
  have RX5 := Lib.hid ((RX4.out.alloc (.cells #[.int .i64 r1, .int .u32 r2] 24)).below hb5 (RX4.out.alloc _).lt)
  have RY5 := Lib.hid ((RY4.out.alloc (.cells #[.int .i64 r1, .int .u32 r2] 24)).below hb5 (RY4.out.alloc _).lt)
  have RD5 := (Row.fresh w4 24 #[.int .i64 r1, .int .u32 r2]).below hb5 (Row.fresh w4 _ _).lt
  clear q0' q1' HC4 RX4 RY4
  have a0 := RX5.out.cell 0
  have b0 := RY5.out.cell 0
  have a1 := RX5.out.cell 1
  have b1 := RY5.out.cell 1
  have a2 := RX5.out.cell 2
  have b2 := RY5.out.cell 2
  have a3 := RX5.out.cell 3
  have b3 := RY5.out.cell 3
  have a4 := RX5.out.cell 4
  have b4 := RY5.out.cell 4
  have a5 := RX5.out.cell 5
  have b5 := RY5.out.cell 5
  have d0 := RD5.cell 0
  have d1 := RD5.cell 1
  simp at a0 a1 a2 a3 a4 a5 b0 b1 b2 b3 b4 b5 d0 d1
  have z2 : w2.heap.size < w5.heap.size := by omega
  have z3 : w3.heap.size < w5.heap.size := by omega
  have z4 : w4.heap.size < w5.heap.size := by omega
  have z5 : w.heap.size < w5.heap.size := by omega
  clear RD5
  go_wp2_with (first | (go_at_call 10; refine (HF1.out _ (HC5.out.keep (keep_alloc w5 _))).mono ?_; rintro e u ⟨rfl, rfl⟩) | (go_at_call 17; refine (HF2.out _ (HC5.out.keep (keep_alloc w5 _))).mono ?_; rintro e u ⟨rfl, rfl⟩))
  have q0' := keep_alloc w5 (.cells #[.int .i64 r1, .int .u32 r2] 48) _ _ q0
  have q1' := keep_alloc w5 (.cells #[.int .i64 r1, .int .u32 r2] 48) _ _ q1
  have HC6 := Lib.hid (HC5.out.keep (keep_alloc w5 (.cells #[.int .i64 r1, .int .u32 r2] 48)))
  have HB6 : Hid (Below w.heap.size w (w5.alloc (.cells #[.int .i64 r1, .int .u32 r2] 48))) := by
    unfold Hid
    (have hsz0 := Below.size hb5; have hsz1 := Below.size hb4; have hsz2 := Below.size hb3; have hsz3 := Below.size hb2; have hsz4 := Below.size hb1; repeat (first | (with_reducible refine Below.drew ?_) | (with_reducible refine below_drewN0 ?_ _) | ((with_reducible refine Below.setCell ?_ ?_ _); rotate_left; focus (first | omega | (simp; done) | (simp; omega) | (simp at *; omega))) | ((with_reducible refine Below.alloc ?_ ?_ _); rotate_left; focus (first | omega | (simp; done) | (simp; omega) | (simp at *; omega))) | ((with_reducible refine Below.trans ?_ (Below.mono hb5 ?_)); rotate_left; focus (first | omega | (simp; done) | (simp; omega) | (simp at *; omega))) | ((with_reducible refine Below.trans ?_ (Below.mono hb4 ?_)); rotate_left; focus (first | omega | (simp; done) | (simp; omega) | (simp at *; omega))) | ((with_reducible refine Below.trans ?_ (Below.mono hb3 ?_)); rotate_left; focus (first | omega | (simp; done) | (simp; omega) | (simp at *; omega))) | ((with_reducible refine Below.trans ?_ (Below.mono hb2 ?_)); rotate_left; focus (first | omega | (simp; done) | (simp; omega) | (simp at *; omega))) | ((with_reducible refine Below.trans ?_ (Below.mono hb1 ?_)); rotate_left; focus (first | omega | (simp; done) | (simp; omega) | (simp at *; omega))) | (with_reducible exact Below.refl _ _)))
  clear q0 q1 HC5 a0 a1 a2 a3 a4 a5 b0 b1 b2 b3 b4 b5 d0 d1 RX5 RY5 HE1 HE2 HD1 HD2 HF1 HF2 he0
  generalize w5.alloc (.cells #[.int .i64 r1, .int .u32 r2] 48) = W at *
  refine (HR1.out _ HC6.out).mono ?_
  rintro e u1 ⟨rfl, n1, rfl⟩
  go_wp2_with fail
  refine (HR2.out _ (HC6.out.drewN n1)).mono ?_
  rintro e u2 ⟨rfl, n2, rfl⟩
  go_wp2_with fail
  refine (HL1.out _ (HC6.out.drewN (n1 + n2))).mono ?_
  rintro e w6 ⟨v1, rfl, hb6, ht1⟩
  have q0 := keep_below hb6 ⟨w.heap.size, 0, none⟩ _ q0'
  have q1 := keep_below hb6 ⟨w.heap.size, 1, none⟩ _ q1'
  have HC7 := Lib.hid ((HC6.out.drewN (n1 + n2)).keep (keep_below hb6))
  have Ht1 := Lib.hid ht1
  clear q0' q1' ht1
  go_wp2_with fail
  refine (HL2.out _ HC7.out).mono ?_
  rintro e w7 ⟨v2, rfl, hb7, ht2⟩
  have q0' := keep_below hb7 _ _ q0
  have q1' := keep_below hb7 _ _ q1
  have HC8 := Lib.hid (HC7.out.keep (keep_below hb7))
  have HB7 : Hid (Below w.heap.size w w7) := by
    unfold Hid
    have hb6' := HB6.out
    have : Below w.heap.size w w6 := (below_drewN0 hb6' (n1 + n2)).trans (hb6.mono (by have := hb6'.size; exact this))
    (have hsz0 := Below.size hb7; have hsz1 := Below.size this; repeat (first | (with_reducible refine Below.drew ?_) | (with_reducible refine below_drewN0 ?_ _) | ((with_reducible refine Below.setCell ?_ ?_ _); rotate_left; focus (first | omega | (simp; done) | (simp; omega) | (simp at *; omega))) | ((with_reducible refine Below.alloc ?_ ?_ _); rotate_left; focus (first | omega | (simp; done) | (simp; omega) | (simp at *; omega))) | ((with_reducible refine Below.trans ?_ (Below.mono hb7 ?_)); rotate_left; focus (first | omega | (simp; done) | (simp; omega) | (simp at *; omega))) | ((with_reducible refine Below.trans ?_ (Below.mono this ?_)); rotate_left; focus (first | omega | (simp; done) | (simp; omega) | (simp at *; omega))) | (with_reducible exact Below.refl _ _)))
  have hc1 : ∀ t : Later w7, (convert 33 9 v1).run Try.prog t.u = .ok (.string tx) t.u := fun t => Ht1.out _ (hb7.trans (t.h.mono hb7.size))
  have hc2 : ∀ t : Later w7, (convert 33 9 v2).run Try.prog t.u = .ok (.string tx) t.u := fun t => ht2 _ t.h
  have hq0 : ∀ t : Later w7, t.u.cell? ⟨w.heap.size, 0, none⟩ = some (.int .i64 n) := fun t => keep_below t.h _ _ q0'
  have HK : Hid (∀ t : Later w7, Cells8 t.u a l) := fun t => HC8.out.keep (keep_below t.h)
  clear q0 q1 q0' q1' ht2 Ht1 HC7 HC6
  go_wp2_with fail
  refine region_later (by kernel_rfl) (by kernel_rfl) ?_
  repeat (go_big_quiet_step ((first | (go_at_call 12; exact Later.call (HP1.out _)) | (go_at_call 20; exact Later.call (HP2.out _)) | (go_at_call 21; exact Later.call (HY1.out _)) | (go_at_call 22; exact Later.call (HY2.out _)) | (go_at_call 13; exact Later.call (HG1.out _ (HK.out _))) | (go_at_call 23; exact Later.call (HG2.out _ (HK.out _))))))
  refine wpQuiet_nil ?_
  intro t
  go_wp2
  go_ret
  exact ⟨rfl, HB7.out.trans (t.h.mono HB7.out.size)⟩

set_option maxRecDepth 100000 in
theorem bytes_out (n : Int) (v st : Int) (a : Option Addr) (len cap : Nat) (h : 2000 < len) (w : World) :
    Calls Try.prog 6 #[.agg #[.int .i64 n, .int .u32 v], .slice a len cap, .int .u32 st] w fun e w' => e = .returned (.bool true) ∧ Below w.heap.size w w' := by
  have h1 : (2000 : Int) < len := by omega
  go_enter Try.func6, Try.ntmps6
  go_wp2_with fail
  refine (known_any _).mono ?_
  rintro e w1 ⟨rfl, hb1⟩
  go_wp2
  go_ret
  exact ⟨rfl, by (have hsz0 := Below.size hb1; repeat (first | (with_reducible refine Below.drew ?_) | (with_reducible refine below_drewN0 ?_ _) | ((with_reducible refine Below.setCell ?_ ?_ _); rotate_left; focus (first | omega | (simp; done) | (simp; omega) | (simp at *; omega))) | ((with_reducible refine Below.alloc ?_ ?_ _); rotate_left; focus (first | omega | (simp; done) | (simp; omega) | (simp at *; omega))) | ((with_reducible refine Below.trans ?_ (Below.mono hb1 ?_)); rotate_left; focus (first | omega | (simp; done) | (simp; omega) | (simp at *; omega))) | (with_reducible exact Below.refl _ _)))⟩
end Go.Proofs.Yteocmpaabihoiaa
namespace Go.Proofs.Yteocmpaabihoiaa.frameBytes
open Go.ChangeShapes Go.WideShapes Go.ChangeAt Go.RowKit Go.Joins
set_option linter.unusedVariables false
set_option linter.unusedSimpArgs false

theorem cellsCmd : Try.prog.cellsOf 24 = 2 := by kernel_rfl

theorem opened {H : Type} {enc : TypeId × Value → H} (W : World) {base : Nat} {v0 v1 v2 : Value} {d0 d1 d2 : DataW H} {p0 p1 p2 : List MemPlace}
    (o0 : Value.okWide Try.prog W .any base 24 v0) (o1 : Value.okWide Try.prog W .any base 33 v1) (o2 : Value.okWide Try.prog W .any base 22 v2)
    (h0 : DataW.Trod enc Try.prog W 0 (fun _ => true) true 24 v0 d0 p0) (h1 : DataW.Trod enc Try.prog W 0 (fun _ => true) true 33 v1 d1 p1) (h2 : DataW.Trod enc Try.prog W 0 (fun _ => true) true 22 v2 d2 p2) :
    Calls Try.prog 6 #[v0, v1, v2] W fun e W' => e = .returned (.bool true) ∧ Below W.heap.size W W' := by
  obtain ⟨c0, c1, y0, y1, k, rfl, rfl, rfl, hy0, hy1⟩ := open_agg2 Try.underlying24 (by kernel_rfl) cellsCmd o0 h0
  obtain ⟨n, e0, rfl, wn⟩ := DataW.trod_int Try.underlying3 hy0
  obtain ⟨v, e1, rfl, wv⟩ := DataW.trod_int Try.underlying22 hy1
  simp at e0 e1
  subst e0 e1
  obtain ⟨a, l, cap, rfl, lc1, lc2, l8, lc⟩ := bytes_view W o1 h1
  obtain ⟨st, rfl, rfl, rfl, ws⟩ := open_int Try.underlying22 o2 h2
  simp [Lit.wf, IntKind.min, IntKind.max, IntKind.signed, IntKind.bits] at wv ws
  obtain ⟨V, rfl⟩ := Int.eq_ofNat_of_zero_le wv.1
  obtain ⟨S, rfl⟩ := Int.eq_ofNat_of_zero_le ws.1
  by_cases h : 2000 < l.length
  · exact bytes_out n V S a l.length cap h W
  · exact bytes_in n V a l cap S (by omega) (by omega) (by omega) lc1 lc2 l8 W lc

/-! THE STATEMENT's FRAME, written by my own program over the guide's way (howto/shells, how-to-prove-an-upto-statement). -/
theorem own : ownKnob Try.prog.godebug = none := by kernel_rfl
theorem laidOut : laidOutB Try.prog = true := by kernel_rfl

theorem contract (H : Type) (enc : TypeId × Value → H) (W : World) (base : Nat) (args : Array Value) (ds gs : List (DataW H)) (before : List MemPlace)
    (hval : ∀ (j : Nat) t v, Try.f6.params[j]? = some t → args[j]? = some v → Value.okWide Try.prog W .any base t v)
    (hW : DataW.Whole enc Try.prog Try.f6.params.toList Rows.frameBytesSpec.vars false W args.toList ds gs before) :
    Calls Try.prog 6 args W fun e W' => ∃ v, e = .returned v ∧ Rows.frameBytesSpec.post enc Try.prog Try.f6 false true false false W args v W' := by
  have hW' := hW
  obtain ⟨p, q, hA0, hV, rfl, hfz, hnd⟩ := hW
  have hA : DataW.TrodAll enc Try.prog W 0 (fun _ => true) true Try.f6.params.toList args.toList ds p := hA0
  rw [Try.params6] at hA hval
  obtain ⟨v0, vs0, d0, ds0, p0, q0, hargs, rfl, rfl, h0, r0⟩ := trodAll_cons hA
  obtain ⟨v1, vs1, d1, ds1, p1, q1, rfl, rfl, rfl, h1, r1⟩ := trodAll_cons r0
  obtain ⟨v2, vs2, d2, ds2, p2, q2, rfl, rfl, rfl, h2, r2⟩ := trodAll_cons r1
  obtain ⟨rfl, rfl, rfl⟩ := trodAll_nil r2
  obtain rfl : args = #[v0, v1, v2] := by cases args; simp_all
  obtain ⟨rfl, rfl⟩ := trodVars_none hV
  have k0 := h0
  have lt0 : ∀ x ∈ p0, x.block < W.heap.size := by obtain ⟨m, hm⟩ := k0; exact DataW.trod_lt m _ _ _ hm
  have k1 := h1
  have lt1 : ∀ x ∈ p1, x.block < W.heap.size := by obtain ⟨m, hm⟩ := k1; exact DataW.trod_lt m _ _ _ hm
  have k2 := h2
  have lt2 : ∀ x ∈ p2, x.block < W.heap.size := by obtain ⟨m, hm⟩ := k2; exact DataW.trod_lt m _ _ _ hm
  clear hA0
  refine (opened W (hval 0 24 v0 rfl rfl) (hval 1 33 v1 rfl rfl) (hval 2 22 v2 rfl rfl) h0 h1 h2).mono fun e W' ⟨he, bel⟩ => ?_
  subst he
  exact ⟨_, rfl, _, _, _, [], _, [], hW', trodAll_mk1 (shut_bool Try.underlying4 _), (trodAll_cons_mk (Below.trod laidOut (by kernel_rfl) (of_decide_eq_true (by kernel_rfl)) k0 bel lt0) (trodAll_cons_mk (Below.trod laidOut (by kernel_rfl) (of_decide_eq_true (by kernel_rfl)) k1 bel lt1) (trodAll_cons_mk (Below.trod laidOut (by kernel_rfl) (of_decide_eq_true (by kernel_rfl)) k2 bel lt2) trodAll_mk0))), rfl, bel.frame _, fun h => by cases h⟩

set_option maxRecDepth 100000 in
theorem lifted (os : Os) (started : os.Started) (H : Type) (enc : TypeId × Value → H) :
    ReturnsInHanded {} Try.checked os 6 .any (Rows.frameBytesSpec.pre6 enc Try.prog Try.f6 Rows.frameBytesRow.domain false) (Rows.frameBytesSpec.post enc Try.prog Try.f6 false true false false) := by
  refine returnsInHanded_of_change (C := Try.checked) own started (by kernel_rfl) Try.func6
    (ChangeSpec.witness6 (enc := enc) (C := Try.checked) false ⟨#[], #[.agg #[.int .i64 0, .int .u32 0], .slice none 0 0, .int .u32 0], []⟩ 8 (by kernel_rfl) (by kernel_rfl) (by kernel_rfl) (by kernel_rfl)) ?_
  intro W base args ds gs before hval hW hcnd _
  exact contract H enc W base args ds gs before hval hW

theorem proved : Rows.FrameBytesSaid :=
  OpenClaim.holds_of_wide 6 Try.f6 rfl rfl rfl rfl rfl rfl rfl ⟨rfl, rfl, rfl, rfl, rfl⟩ rfl rfl rfl rfl rfl (by kernel_rfl) Try.func6 (by kernel_rfl)
    (of_decide_eq_true (by kernel_rfl)) (by unfold Func.isWrapper; first | (rw [if_pos (by decide +kernel)]; kernel_rfl) | (rw [if_neg (by decide +kernel)]; exact ⟨rfl, rfl⟩))
    (fun os started H enc _ => lifted os started H enc)
#print axioms proved
end Go.Proofs.Yteocmpaabihoiaa.frameBytes
