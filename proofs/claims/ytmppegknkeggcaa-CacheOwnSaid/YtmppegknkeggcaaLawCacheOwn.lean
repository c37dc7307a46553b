/- CacheOwn: what is put, told, gone over is not shared, whatever write, whatever turn: the law returns true, and its arguments read as before. No condition. -/
import Derived.Test.YtmppegknkeggcaaCacheS
namespace Go.Proofs.Ytmppegknkeggcaa
open Go.RowKit Go.Shelf
attribute [local go_sem] Oper.semAt_some
attribute [local simp, local go_sem] wide_fn
set_option linter.unusedVariables false
set_option linter.unusedSimpArgs false

theorem CHeld.low {w w' : World} {B C mb most c : Nat} {A : Option Addr} {items : List It} {g : Int} {S : List Nat} (h : CHeld w B C mb most A c items g) (ht : Turns w w' S) (hS : ∀ k ∈ S, k < B) : CHeld w' B C mb most A c items g :=
  ⟨h.hC, ht.row h.row (fun hm => by have := hS C hm; have := h.hC; omega), ht.own h.own (fun k hk hm => by have := hS k hm; have := (World.ownsRow.lt h.own k hk).1; omega),
    fun x hx => ⟨(h.dat x hx).small, (h.dat x hx).short, ht.own (h.dat x hx).own (fun k hk hm => by have := hS k hm; have := (World.ownsRow.lt (h.dat x hx).own k hk).1; omega)⟩, h.wf, h.hm, h.cnt.turns ht (fun hm => by have := hS mb hm; have := h.hm; omega), h.few⟩

set_option maxRecDepth 100000 in
set_option maxHeartbeats 1000000 in
theorem own_out (a s : Int) (A : Option Addr) (n c : Nat) (t : Nat) (h : n = 0 ∨ 1000 < n) (w : World) :
    Calls Try.prog 4 #[.agg #[.int .i64 a, .int .i64 s, .slice A n c], .int .u8 t] w fun e w' => e = .returned (.bool true) ∧ Below w.heap.size w w' := by
  have key : n = 0 ∨ ((n == 0) = false ∧ ((n : Int) == 0) = false ∧ (1000 : Int) < n) := by
    rcases h with h | h
    · exact .inl h
    · exact .inr ⟨by simp; omega, by simp; omega, by omega⟩
  clear h
  rcases key with rfl | ⟨h1, h2, h3⟩
  ·
    obtain ⟨w0, hw0⟩ : ∃ w0, w0 = w.alloc (.cells #[.int .i64 a, .int .i64 s, .slice A 0 c] 32) := ⟨_, rfl⟩
    have HB0 : Hid (Below w.heap.size w w0) := by unfold Hid; rw [hw0]; (repeat (first | (with_reducible refine Below.drew ?_) | (with_reducible refine below_drewN0 ?_ _) | ((with_reducible refine Below.setCell ?_ ?_ _); rotate_left; focus (first | omega | (simp; done) | (simp; omega) | (simp at *; omega))) | ((with_reducible refine Below.alloc ?_ ?_ _); rotate_left; focus (first | omega | (simp; done) | (simp; omega) | (simp at *; omega))) | (with_reducible exact Below.refl _ _)))
    have HR0 : Hid (Row w0 w.heap.size 32 #[.int .i64 a, .int .i64 s, .slice A 0 c]) := by unfold Hid; rw [hw0]; exact Row.fresh _ _ _
    go_enter Try.func4, Try.ntmps4
    go_wp2_with fail
    rw [← hw0]
    clear hw0
    refine (known_any _).mono ?_
    rintro e w1 ⟨rfl, hb1⟩
    have HR1 := Lib.hid (HR0.out.below hb1 HR0.out.lt)
    have HB : Hid (Below w.heap.size w w1) := HB0.out.trans (hb1.mono HB0.out.size)
    have c2 := HR1.out.cell 2
    simp at c2
    clear hb1
    go_wp2
    go_ret
    exact ⟨rfl, HB.out⟩
  ·
    obtain ⟨w0, hw0⟩ : ∃ w0, w0 = w.alloc (.cells #[.int .i64 a, .int .i64 s, .slice A n c] 32) := ⟨_, rfl⟩
    have HB0 : Hid (Below w.heap.size w w0) := by unfold Hid; rw [hw0]; (repeat (first | (with_reducible refine Below.drew ?_) | (with_reducible refine below_drewN0 ?_ _) | ((with_reducible refine Below.setCell ?_ ?_ _); rotate_left; focus (first | omega | (simp; done) | (simp; omega) | (simp at *; omega))) | ((with_reducible refine Below.alloc ?_ ?_ _); rotate_left; focus (first | omega | (simp; done) | (simp; omega) | (simp at *; omega))) | (with_reducible exact Below.refl _ _)))
    have HR0 : Hid (Row w0 w.heap.size 32 #[.int .i64 a, .int .i64 s, .slice A n c]) := by unfold Hid; rw [hw0]; exact Row.fresh _ _ _
    go_enter Try.func4, Try.ntmps4
    go_wp2_with fail
    rw [← hw0]
    clear hw0
    refine (known_any _).mono ?_
    rintro e w1 ⟨rfl, hb1⟩
    have HR1 := Lib.hid (HR0.out.below hb1 HR0.out.lt)
    have HB : Hid (Below w.heap.size w w1) := HB0.out.trans (hb1.mono HB0.out.size)
    have c2 := HR1.out.cell 2
    simp at c2
    clear hb1
    go_wp2
    go_ret
    exact ⟨rfl, HB.out⟩

theorem KpS.of_below_set {K L i : Nat} {W : World} (h : K ≤ L) (v : Value) (S : List Nat) : KpS K S W (W.setCell ⟨L, i, none⟩ v) :=
  ⟨by simp [World.setCell], fun k hk _ => Below.heap_setCell _ _ _ _ (by simp; omega)⟩
/-- The act behind the assignment, by the element and a number. -/
theorem range_told_af {F : Fence} {n : Nat} {P : Program} {α : Type} {g : Operand} {ps : Array Tmp} {assign body : Code} {Q : Exit → Act → World → Prop} {a : Act} {w : World} (af : α → Nat → Act)
    (hro : F.round = none) (h1 : 1 ≤ n) {gf : Nat} {lb : Array Value} (hg : a.eval g = .func (.func gf) #[] lb) (hFg : F.fn gf) (eg : ∀ args w, (callFunc gf args).run P w = .ok (.enter gf args) w)
    {encs : α → Array Value} {Kp : World → World → Prop} {Dt : α → World → Prop} {S Sp : List α → Prop} {N : Nat} {w0 : World} (hseq : SeqTold F (n - 1) P gf lb encs Kp Dt S Sp N w0)
    (hKt : ∀ {A B C : World}, Kp A B → Kp B C → Kp A C) (hKb : ∀ (W : World) (l : Nat) (o o' : Obj), w.heap.size ≤ l → W.heap[l]? = some o → o.isCells = false → o.isWalk = false → Kp W (W.putObj l o')) (hb0 : Below w0.heap.size w0 w) (hps : ∀ x, (encs x).size = ps.size)
    (I : List α → World → Prop) (Ix : Code → List α → World → Prop) (hI : OwnFrom w.heap.size I) (hIx : ∀ c, OwnFrom w.heap.size (Ix c)) (h0 : I [] w) (Ay : List α → α → Nat → World → Prop) (hAy : ∀ pre x b, OwnFrom w.heap.size (fun (_ : Unit) W => Ay pre x b W))
    (hassign : ∀ (l : Nat) (pre : List α) (x : α) (W : World), I pre W → Dt x W → pre.length < N →
      assign.wpIn (F.inRound l) (n - 1 - 1) P (Exit.then (fun a' W' => KeepsFrom w.heap.size W W' ∧ Kp W W' ∧ ∃ b, a' = af x b ∧ Ay pre x b W') (fun _ _ _ => False)) { tmps := (ps.zip (encs x)).foldl (fun t (p, v) => t.setIfInBounds p v) a.tmps, defers := [] } W)
    (hbody : ∀ (l : Nat) (pre : List α) (x : α) (b : Nat) (W : World), Ay pre x b W → pre.length < N → body.wpIn (F.inRound l) (n - 1 - 1) P (ownPostG w.heap.size Kp I Ix (pre ++ [x]) W) (af x b) W)
    (hdone : ∀ (D : Nat) (xs : List α) (W : World), w.heap.size ≤ D → S xs → I xs W → W.heap[D]? = some (.deferred (some [])) → Q .normal { a with defers := { target := .collected D, args := #[] } :: a.defers } W)
    (hstop : ∀ (D : Nat) (c : Code) (pre : List α) (W : World), w.heap.size ≤ D → Sp pre → Ix c pre W → W.heap[D]? = some (.deferred (some [])) → c.wpIn F n P Q { a with defers := { target := .collected D, args := #[] } :: a.defers } W) :
    (Code.rangeFunc g ps assign body).wpIn F n P Q a w :=
  wpIn_range_told hro h1 hg hFg eg hseq hKt hKb hb0 hps I Ix hI hIx h0 (fun pre x a' W => ∃ b, a' = af x b ∧ Ay pre x b W)
    (fun pre x a' s W W' row hs hg hr => by obtain ⟨b, e, h⟩ := hs; exact ⟨b, e, hAy pre x b () W W' row h hg hr⟩) hassign (fun l pre x a' W h hl => by obtain ⟨b, rfl, h⟩ := h; exact hbody l pre x b W h hl) hdone hstop
theorem mem_one {x y : It} (h : x ∈ [y]) : x = y := by simpa using h
set_option maxRecDepth 100000 in
set_option maxHeartbeats 4000000 in
theorem own_walk (k : Nat) (hk : 5 ≤ k) (a s : Int) (A : Option Addr) (c : Nat) (l : List Nat) (t : Nat) (ht : t < 256) (h0 : 0 < l.length) (h1 : l.length ≤ 1000) (w : World) (ha : W64 a) (hs : W64 s) (h256 : ∀ u ∈ l, u < 256) (hl : Cells8 w A l) :
    CallsIn Fence.wide k Try.prog 4 #[.agg #[.int .i64 a, .int .i64 s, .slice A l.length c], .int .u8 t] w fun e w' => e = .returned (.bool true) ∧ Below w.heap.size w w' := by
  have hk1 : 1 ≤ k := by omega
  obtain ⟨n, hn⟩ : ∃ n, n = l.length := ⟨_, rfl⟩
  obtain ⟨w0, hw0⟩ : ∃ w0, w0 = w.alloc (.cells #[.int .i64 a, .int .i64 s, .slice A n c] 32) := ⟨_, rfl⟩
  have HB0 : Hid (Below w.heap.size w w0) := by unfold Hid; rw [hw0]; (repeat (first | (with_reducible refine Below.drew ?_) | (with_reducible refine below_drewN0 ?_ _) | ((with_reducible refine Below.setCell ?_ ?_ _); rotate_left; focus (first | omega | (simp; done) | (simp; omega) | (simp at *; omega))) | ((with_reducible refine Below.alloc ?_ ?_ _); rotate_left; focus (first | omega | (simp; done) | (simp; omega) | (simp at *; omega))) | (with_reducible exact Below.refl _ _)))
  have HR0 : Hid (Row w0 w.heap.size 32 #[.int .i64 a, .int .i64 s, .slice A n c]) := by unfold Hid; rw [hw0]; exact Row.fresh _ _ _
  have d1 : (n == 0) = false := by simp; omega
  have d2 : ((n : Int) == 0) = false := by simp; omega
  have d3 : decide ((1000 : Int) < n) = false := by simp; omega
  have d4 : decide (1000 < n) = false := by simp; omega
  have hn0 : 0 < n := by omega
  have hn1 : n ≤ 1000 := by omega
  have HN := Lib.hid hn
  have HLl := Lib.hid hl
  have H256 := Lib.hid h256
  have HWa := Lib.hid ha
  have HWs := Lib.hid hs
  rw [← hn]
  clear hl h256 ha hs h0 h1 hn
  refine callsIn_of_wp_marks Try.func4 rfl trivial ?_ rfl
  simp only [Try.ntmps4, List.size_toArray, List.length_cons, List.length_nil, Nat.reduceAdd, Nat.reduceSub, Array.replicate_succ, Array.replicate_zero, List.push_toArray, List.append_toArray, List.nil_append, List.cons_append]
  refine wpIn_wide.2 ?_
  go_wp2_with fail
  rw [← hw0]
  clear hw0
  refine (known_any _).mono ?_
  rintro e w1 ⟨rfl, hb1⟩
  have HR1 := Lib.hid (HR0.out.below hb1 HR0.out.lt)
  have HB1 : Hid (Below w.heap.size w w1) := HB0.out.trans (hb1.mono HB0.out.size)
  have c2 := HR1.out.cell 2
  have HC1 : Hid (Cells8 w1 A l) := fun i hi => by obtain ⟨b, off, e, hc⟩ := HLl.out i hi; exact ⟨b, off, e, keep_below HB1.out _ _ hc⟩
  have cv1 : (convert 30 9 (.slice A n c)).run Try.prog w1 = .ok (.string (textOf l)) w1 := by rw [HN.out]; exact conv_text HC1.out
  obtain ⟨S, hS⟩ : ∃ S, S = textOf l := ⟨_, rfl⟩
  have HSt := Lib.hid hS
  rw [← hS] at cv1
  simp at c2
  clear hb1 HR0 HB0 hS
  obtain ⟨i0, hi, hz0, hz1, hz2⟩ := info_parts u8_info
  have HO2 := Lib.hid (World.ownsRow_made (base := w1.heap.size) (size := 1) (e := 5) w1 #[] 0 (Nat.le_refl _) (Nat.zero_le _) rfl)
  have HB2 : Hid (Below w1.heap.size w1 (w1.alloc (.cells #[] 5))) := by unfold Hid; (repeat (first | (with_reducible refine Below.drew ?_) | (with_reducible refine below_drewN0 ?_ _) | ((with_reducible refine Below.setCell ?_ ?_ _); rotate_left; focus (first | omega | (simp; done) | (simp; omega) | (simp at *; omega))) | ((with_reducible refine Below.alloc ?_ ?_ _); rotate_left; focus (first | omega | (simp; done) | (simp; omega) | (simp at *; omega))) | (with_reducible exact Below.refl _ _)))
  have HS2 : Hid (Src (w1.alloc (.cells #[] 5)) 1 A n (intsV .u8 l)) := by unfold Hid; rw [HN.out]; exact (Src.bytes HC1.out).keep (keep_below HB2.out)
  have b1 : Hid (0 + n ≤ maxLen) := by unfold Hid maxLen; omega
  have b2 : Hid ((0 + n) * 1 ≤ 140737488355328) := by unfold Hid; omega
  have hlt1 : w.heap.size < w1.heap.size := HR1.out.lt
  go_wp2_with (at_builtin; refine wpList_append_src _ rfl _ _ 30 rfl w1.heap.size 5 i0 (.int .u8 0) 1 1 Try.underlying30 hi hz0 hz1 hz2 rfl (by decide) _ 0 [] rfl HO2.out A n c (intsV .u8 l) rfl HS2.out (intsV_one .u8 l) b1.out b2.out (by simp) ?_; intro v' w3 hown hgrow hv)
  rw [Nat.zero_add, List.nil_append] at hown
  obtain ⟨L, cm, rfl, hL, hLs, _, _⟩ := own_at hown hn0
  have HB3 : Hid (Below w1.heap.size w1 w3) := by
    unfold Hid
    refine HB2.out.grown hgrow (by simp) ?_
    intro q hq
    have : w1.heap.size = q := by injection hq
    omega
  have HO3 := Lib.hid hown
  have HR3 := Lib.hid (HR1.out.below HB3.out hlt1)
  clear hown hgrow hv cv1 c2 HS2 b1 b2 HO2 HB2
  have HNw := Lib.hid (New_yes 3 (by omega) w3)
  go_wp2_with fail
  refine HNw.out.mono ?_
  rintro e w4 ⟨C, mb, rfl, h4, hb4⟩
  have HC4 := Lib.hid h4
  have HB4 := Lib.hid hb4
  have HR4 := Lib.hid (HR3.out.below hb4 HR3.out.lt)
  have HO4 := Lib.hid (own_below HO3.out hb4)
  obtain ⟨LL, hLL⟩ : ∃ LL, LL = n := ⟨_, rfl⟩
  have HPut := Lib.hid (Put_any w3.heap.size C mb 3 0 none [] 0 a s (some ⟨L, 0, none⟩) l cm w4 HC4.out (by simp) HWa.out HWs.out H256.out (by rw [← HN.out]; simp [reachBytes]; omega)
    (HC4.out.src (by rw [← HN.out]; exact Src.of_own HO4.out) (fun _ ad e => .inl (by injection e with e; subst e; exact hLs))))
  rw [← HN.out] at HPut
  have r0 := HR4.out.cell 0
  have r1 := HR4.out.cell 1
  simp at r0 r1
  clear h4 hb4 HNw hLL
  go_wp2_with fail
  refine HPut.out.mono ?_
  rintro e w5 ⟨Ao, co, A', c', out, rest, y, rfl, ⟨e1, e2, e3, e4⟩, hsp, hr, hh5, _, _, _, ht5⟩
  obtain ⟨rfl, rfl⟩ := split_few hsp (by simp) hr
  have HH5 : Hid (CHeld w5 w3.heap.size C mb 3 A' c' [y] 0) := hh5
  have HT5 := Lib.hid ht5
  have hnoL : ∀ q, q < w3.heap.size → q ∉ C :: mb :: blk none := fun q hq hm => by have := HC4.out.floor q hm; omega
  have HO5 : Hid (w5.ownsRow w1.heap.size 5 1 (.slice (some ⟨L, 0, none⟩) n cm) n (intsV .u8 l)) := ht5.own HO4.out (fun q hq => by injection hq with hq; subst hq; exact hnoL L hLs)
  have HR5 : Hid (Row w5 w.heap.size 32 #[.int .i64 a, .int .i64 s, .slice A n c]) := ht5.row HR4.out (hnoL _ HR3.out.lt)
  have HY : Hid (y.a = a ∧ y.s = s ∧ y.l = l ∧ y.g = 0) := ⟨e1, e2, e3, e4⟩
  have m0 := own_cell HO5.out 0 (by rw [← HN.out]; exact hn0)
  have m1 := own_thaw HO5.out 0
  obtain ⟨v0, hv0⟩ : ∃ v0, v0 = l.getD 0 0 := ⟨_, rfl⟩
  rw [← hv0] at m0
  have hL5 : L < w5.heap.size := Nat.lt_of_lt_of_le hLs (Nat.le_trans HB4.out.size ht5.size)
  clear hv0 e1 e2 e3 e4 hsp hr hh5 ht5 HPut r0 r1
  have r0 := HR5.out.cell 0
  have r1 := HR5.out.cell 1
  simp at r0 r1
  have hne : w.heap.size ≠ L := by omega
  have hne' : L ≠ w.heap.size := by omega
  obtain ⟨w6, hw6⟩ : ∃ w6, w6 = w5.setCell ⟨L, 0, none⟩ (.int .u8 (bits BinOp.xor IntKind.u8 (v0 : Int) (t : Int))) := ⟨_, rfl⟩
  have HT6 : Hid (Turns w5 w6 [L]) := by unfold Hid; rw [hw6]; exact (Turns.refl _ _).setCell (by simp) _
  have HC6 : Hid (CHeld w6 w3.heap.size C mb 3 A' c' [y] 0) := HH5.out.low HT6.out (by simpa using hLs)
  have HB6 : Hid (Below w.heap.size w w6) := by
    have hb4 := HB1.out.trans ((HB3.out.trans (HB4.out.mono (by have := HB3.out.size; omega))).mono HB1.out.size)
    have hb5 := HT5.out.below hb4 hb4.size (fun q hq => by have := HC4.out.floor q hq; have := HB3.out.size; omega)
    exact HT6.out.below hb5 hb5.size (by simp; omega)
  have HGet := Lib.hid (Get_in k (by omega) w3.heap.size C mb 3 c' A' [y] 0 a s w6 HC6.out HWa.out HWs.out)
  have hf : [y].reverse.find? (dropP a s) = some y := by simp [dropP, HY.out.1, HY.out.2.1]
  have HF := Lib.hid hf
  clear hf
  go_wp2_with fail
  rw [← hw6]
  clear hw6 m0 m1 r0 r1
  refine (callsIn_wide.1 HGet.out).mono ?_
  rintro e w7 ⟨hp, hb7⟩
  rw [HF.out] at hp
  obtain ⟨A2, c2, rfl, ho7⟩ := hp
  rw [HY.out.2.2.1, ← HN.out] at ho7
  rw [HY.out.2.2.1, ← HN.out]
  have HB7 := Lib.hid hb7
  have HO7 := Lib.hid ho7
  obtain ⟨L2, cm2, e, hL2, hL2s, _, _⟩ := own_at ho7 hn0
  injection e with e _ e'
  subst e; subst e'
  have cv7 : (convert 30 9 (.slice (some ⟨L2, 0, none⟩) n c2)).run Try.prog w7 = .ok (.string S) w7 := by
    have hd : DatIs w7 w6.heap.size (.slice (some ⟨L2, 0, none⟩) l.length c2) l := ⟨H256.out, by rw [← HN.out]; simp [reachBytes]; omega, by rw [← HN.out]; exact ho7⟩
    have := conv_text (w := w7) (A := some ⟨L2, 0, none⟩) (c := c2) (l := l) (DatIs.lies hd)
    rw [HSt.out, HN.out]; exact this
  have m0 := own_cell HO7.out 0 (by rw [← HN.out]; exact hn0)
  have m1 := own_thaw HO7.out 0
  obtain ⟨v1, hv1⟩ : ∃ v1, v1 = l.getD 0 0 := ⟨_, rfl⟩
  rw [← hv1] at m0
  clear hv1 hb7 ho7 HGet
  obtain ⟨w8, hw8⟩ : ∃ w8, w8 = w7.setCell ⟨L2, 0, none⟩ (.int .u8 (((v1 : Int) + 1) % 256)) := ⟨_, rfl⟩
  have HB8 : Hid (Below w6.heap.size w6 w8) := by unfold Hid; rw [hw8]; exact HB7.out.setCell (by simpa using hL2) _
  have HC8 := Lib.hid (HC6.out.mono (B' := w3.heap.size) (Nat.le_refl _) |>.below HB8.out)
  have HA := Lib.hid (All_any w3.heap.size C mb 3 c' A' [y] 0 w8 HC8.out)
  go_wp2_with fail
  rw [← hw8]
  clear hw8 m0 m1 cv7
  refine HA.out.mono ?_
  rintro e w9 ⟨Bx, A9, c9, rfl, hBx, hr9, ho9, hb9⟩
  have HB9 := Lib.hid hb9
  have HC9 := Lib.hid (HC8.out.below hb9)
  have hTold := Lib.hid (All_told (k - 1) (by omega) [] w3.heap.size C mb 3 c' A' [y] 0 w8 w9 HC8.out (by simp) Bx c9 A9 hBx hr9 ho9 hb9)
  clear hb9 hr9 ho9 HA
  go_wp2
  refine (wpIn_wide (n := k)).1 ?_
  refine' range_told_af _ rfl hk1 (gf := 28) (lb := #[.pointer (some ⟨Bx, 0, none⟩)]) rfl trivial (enters_of Try.func28 (by kernel_rfl) rfl)
    hTold.out (fun h k => h.trans k) ?kb (Below.refl _ _) (fun _ => rfl)
    (fun pre W => Below w9.heap.size w9 W) (fun cd pre W => False) ?iown ?ixown ?i0
    (fun pre x b W => Row W b 32 #[.int .i64 x.a, .int .i64 x.s, .slice x.A x.l.length x.c] ∧ W.ownsRow w9.heap.size 5 1 (.slice x.A x.l.length x.c) x.l.length (intsV .u8 x.l) ∧ 0 < x.l.length ∧ Below w9.heap.size w9 W) ?axown ?assign ?body ?done ?stop
  case kb =>
    intro W l o o' hl h _ _
    exact ⟨by simp [World.putObj], fun k hk _ => World.putObj_heap_other (by omega)⟩
  case iown => exact ownFrom_below (Nat.le_refl _) (Nat.le_refl _)
  case ixown => exact fun _ _ _ _ _ hs _ _ => hs
  case i0 => exact Below.refl _ _
  case axown =>
    rintro pre x b _ W W' row ⟨hr, ho, h0, hb⟩ hg hrow
    exact ⟨Row.kept hr hg (fun r e => (hrow r e).2), ownFrom_own w9.heap.size w9.heap.size 5 1 (fun _ : Unit => .slice x.A x.l.length x.c) (fun _ => x.l.length) (fun _ => intsV .u8 x.l) () W W' row ho hg hrow, h0, ownFrom_below (n₀ := w9.heap.size) (B := w9.heap.size) (Nat.le_refl _) (Nat.le_refl _) () W W' row hb hg hrow⟩
  case assign =>
    rintro l pre x W hB ⟨hd, _, z, hz, e1, e2, e3⟩ _
    have hz := mem_one hz
    have HI : Hid (0 < x.l.length) := by unfold Hid; rw [e3, hz, HY.out.2.2.1, ← HN.out]; exact hn0
    have HBw := Lib.hid hB
    have HDw := Lib.hid hd
    clear hB hd hz e1 e2 e3
    gi_wp2
    have hB2 := HBw.out.alloc HBw.out.size (.cells #[.int .i64 x.a, .int .i64 x.s, .slice x.A x.l.length x.c] 32)
    have hrow := Row.fresh W 32 #[.int .i64 x.a, .int .i64 x.s, .slice x.A x.l.length x.c]
    have hk := (KeepsOthers.alloc W (.cells #[.int .i64 x.a, .int .i64 x.s, .slice x.A x.l.length x.c] 32)).from w9.heap.size
    have hkp : KpS w9.heap.size [] W (W.alloc (.cells #[.int .i64 x.a, .int .i64 x.s, .slice x.A x.l.length x.c] 32)) := KpS.of_below ((Below.refl _ _).alloc (Nat.le_refl _) _) HBw.out.size
    have hown := own_below HDw.out.own ((Below.refl W.heap.size W).alloc (Nat.le_refl _) (.cells #[.int .i64 x.a, .int .i64 x.s, .slice x.A x.l.length x.c] 32))
    refine ⟨hk, hkp, ?_⟩
    obtain ⟨b, hb⟩ : ∃ b, b = W.heap.size := ⟨_, rfl⟩
    rw [← hb] at hrow ⊢
    refine ⟨b, ?_, hrow, hown, HI.out, hB2⟩
    exact rfl
  case body =>
    rintro l pre x b W ⟨hr, ho, h0, hB⟩ _
    obtain ⟨L3, cm3, e, hL3, hL3s, _, _⟩ := own_at ho h0
    have m2 := hr.cell 2
    simp at m2
    injection e with e4 _ e5
    have HO := Lib.hid ho
    have HBw := Lib.hid hB
    rw [e4] at ho m2
    have m0 := own_cell ho 0 h0
    have m1 := own_thaw ho 0
    obtain ⟨v2, hv2⟩ : ∃ v2, v2 = x.l.getD 0 0 := ⟨_, rfl⟩
    rw [← hv2] at m0
    clear hv2 e4 e5 ho hB
    generalize x.l.length = xn at *
    gi_wp2
    have hbw := HBw.out
    exact ⟨(KeepsOthers.setCell _ _ _).from _, KpS.of_below_set hL3 _ _, by (have hsz0 := Below.size hbw; repeat (first | (with_reducible refine Below.drew ?_) | (with_reducible refine below_drewN0 ?_ _) | ((with_reducible refine Below.setCell ?_ ?_ _); rotate_left; focus (first | omega | (simp; done) | (simp; omega) | (simp at *; omega))) | ((with_reducible refine Below.alloc ?_ ?_ _); rotate_left; focus (first | omega | (simp; done) | (simp; omega) | (simp at *; omega))) | ((with_reducible refine Below.trans ?_ (Below.mono hbw ?_)); rotate_left; focus (first | omega | (simp; done) | (simp; omega) | (simp at *; omega))) | (with_reducible exact Below.refl _ _)))⟩
  case done =>
    rintro D ys W hD _ hB hK
    have HKd := Lib.hid hK
    have HCd := Lib.hid (HC9.out.below hB)
    have HBd : Hid (Below w6.heap.size w6 W) := (HB8.out.trans (HB9.out.mono HB8.out.size)).trans (hB.mono (by have := HB8.out.size; have := HB9.out.size; omega))
    have HFl := Lib.hid (Flush_any w3.heap.size C mb 3 c' A' [y] 0 W HCd.out)
    clear hB hK
    go_wp2_with fail
    refine HFl.out.mono ?_
    rintro e w11 ⟨Ao2, co2, rfl, h11, hown, hdat, ht11⟩
    obtain ⟨⟨b2, o2, rfl, hc2⟩, hl2⟩ := (Sees.of_own hown hdat).at0 0 y rfl
    have m2 := hc2 2 _ rfl
    have cv : (convert 30 9 (.slice y.A y.l.length y.c)).run Try.prog w11 = .ok (.string S) w11 := by
      have := conv_text (w := w11) (c := y.c) hl2
      rw [HSt.out, ← HY.out.2.2.1]; exact this
    have HT11 := Lib.hid ht11
    clear h11 hown hdat ht11 hc2 hl2 HFl
    generalize y.l.length = yn at *
    go_wp2
    have hlD : D < W.heap.size := (Array.getElem?_eq_some_iff.1 HKd.out).1
    have hCl := HC9.out.row.lt
    have hml := HC9.out.cnt.lt
    have hD11 : w11.heap[D]? = some (.deferred (some [])) := (HT11.out.block D hlD (by simp; omega)).trans HKd.out
    have hbw : Below w.heap.size w W := HB6.out.trans (HBd.out.mono HB6.out.size)
    have hb3 := HB1.out.trans (HB3.out.mono HB1.out.size)
    have hb11 : Below w.heap.size w w11 := HT11.out.below hbw hbw.size (fun q hq => by
      have h1 := HC9.out.hC; have h2 := HC9.out.hm; have h3 := hb3.size
      simp at hq; rcases hq with e | e <;> omega)
    refine ⟨by simp, .inl ⟨_, _, rfl, run_takeDeferred hD11, ?_⟩⟩
    exact ⟨_, results_tmp rfl _ _ _, rfl, hb11.trans (belowK_b (w := w) (Nat.le_refl _) w11 D _ _ (by have := HB6.out.size; have := HB8.out.size; have := HB9.out.size; omega) hD11 rfl rfl)⟩
  case stop =>
    rintro D cd pre W hD _ h _
    exact h.elim
theorem agg_of_cells {v : Value} {x y z : Value} (h : v.cells.toList = [x, y, z]) : v = .agg #[x, y, z] := by
  cases v with
  | agg cs => cases cs; simp [Value.cells] at h; rw [h]
  | _ => simp [Value.cells] at h
end Go.Proofs.Ytmppegknkeggcaa
namespace Go.Proofs.Ytmppegknkeggcaa.cacheOwn
open Go.ChangeShapes Go.WideShapes Go.ChangeAt Go.RowKit Go.Joins
set_option linter.unusedVariables false
set_option linter.unusedSimpArgs false

theorem opened {H : Type} {enc : TypeId × Value → H} (W : World) {base : Nat} {v0 v1 : Value} {d0 d1 : DataW H} {p0 p1 : List MemPlace}
    (o0 : Value.okWide Try.prog W .any base 32 v0) (o1 : Value.okWide Try.prog W .any base 5 v1)
    (h0 : DataW.Trod enc Try.prog W 0 (fun _ => true) true 32 v0 d0 p0) (h1 : DataW.Trod enc Try.prog W 0 (fun _ => true) true 5 v1 d1 p1) :
    Calls Try.prog 4 #[v0, v1] W fun e W' => e = .returned (.bool true) ∧ Below W.heap.size W W' := by
  obtain ⟨t, rfl, rfl, rfl, wt⟩ := open_int Try.underlying5 o1 h1
  simp [Lit.wf, IntKind.min, IntKind.max, IntKind.signed, IntKind.bits] at wt
  obtain ⟨t, rfl⟩ := Int.eq_ofNat_of_zero_le wt.1
  obtain ⟨fuel, hf⟩ := h0
  obtain ⟨y, hy, hA, _, _⟩ := write_trod hf
  obtain rfl := agg_of_cells hy
  by_cases h : y.l.length = 0 ∨ 1000 < y.l.length
  · exact own_out y.a y.s y.A y.l.length y.c t h W
  · exact callsIn_wide.1 (own_walk 5 (Nat.le_refl _) y.a y.s y.A y.c y.l t (by omega) (by omega) (by omega) W hA.wa hA.ws hA.small hA.lies)

/-! THE STATEMENT's FRAME, written by my own program over the guide's way (howto/shells, how-to-prove-an-upto-statement). -/
theorem own : ownKnob Try.prog.godebug = none := by kernel_rfl
theorem laidOut : laidOutB Try.prog = true := by kernel_rfl

theorem contract (H : Type) (enc : TypeId × Value → H) (W : World) (base : Nat) (args : Array Value) (ds gs : List (DataW H)) (before : List MemPlace)
    (hval : ∀ (j : Nat) t v, Try.f4.params[j]? = some t → args[j]? = some v → Value.okWide Try.prog W .any base t v)
    (hW : DataW.Whole enc Try.prog Try.f4.params.toList Rows.cacheOwnSpec.vars false W args.toList ds gs before) :
    Calls Try.prog 4 args W fun e W' => ∃ v, e = .returned v ∧ Rows.cacheOwnSpec.post enc Try.prog Try.f4 false true false false W args v W' := by
  have hW' := hW
  obtain ⟨p, q, hA0, hV, rfl, hfz, hnd⟩ := hW
  have hA : DataW.TrodAll enc Try.prog W 0 (fun _ => true) true Try.f4.params.toList args.toList ds p := hA0
  rw [Try.params4] at hA hval
  obtain ⟨v0, vs0, d0, ds0, p0, q0, hargs, rfl, rfl, h0, r0⟩ := trodAll_cons hA
  obtain ⟨v1, vs1, d1, ds1, p1, q1, rfl, rfl, rfl, h1, r1⟩ := trodAll_cons r0
  obtain ⟨rfl, rfl, rfl⟩ := trodAll_nil r1
  obtain rfl : args = #[v0, v1] := by cases args; simp_all
  obtain ⟨rfl, rfl⟩ := trodVars_none hV
  have k0 := h0
  have lt0 : ∀ x ∈ p0, x.block < W.heap.size := by obtain ⟨m, hm⟩ := k0; exact DataW.trod_lt m _ _ _ hm
  have k1 := h1
  have lt1 : ∀ x ∈ p1, x.block < W.heap.size := by obtain ⟨m, hm⟩ := k1; exact DataW.trod_lt m _ _ _ hm
  clear hA0
  refine (opened W (hval 0 32 v0 rfl rfl) (hval 1 5 v1 rfl rfl) h0 h1).mono fun e W' ⟨he, bel⟩ => ?_
  subst he
  exact ⟨_, rfl, _, _, _, [], _, [], hW', trodAll_mk1 (shut_bool Try.underlying4 _), (trodAll_cons_mk (Below.trod laidOut (by kernel_rfl) (of_decide_eq_true (by kernel_rfl)) k0 bel lt0) (trodAll_cons_mk (Below.trod laidOut (by kernel_rfl) (of_decide_eq_true (by kernel_rfl)) k1 bel lt1) trodAll_mk0)), rfl, bel.frame _, fun h => by cases h⟩

set_option maxRecDepth 100000 in
theorem lifted (os : Os) (started : os.Started) (H : Type) (enc : TypeId × Value → H) :
    ReturnsInHanded {} Try.checked os 4 .any (Rows.cacheOwnSpec.pre6 enc Try.prog Try.f4 Rows.cacheOwnRow.domain false) (Rows.cacheOwnSpec.post enc Try.prog Try.f4 false true false false) := by
  refine returnsInHanded_of_change (C := Try.checked) own started (by kernel_rfl) Try.func4
    (ChangeSpec.witness6 (enc := enc) (C := Try.checked) false ⟨#[], #[.agg #[.int .i64 0, .int .i64 0, .slice none 0 0], .int .u8 0], []⟩ 8 (by kernel_rfl) (by kernel_rfl) (by kernel_rfl) (by kernel_rfl)) ?_
  intro W base args ds gs before hval hW hcnd _
  exact contract H enc W base args ds gs before hval hW

theorem proved : Rows.CacheOwnSaid :=
  OpenClaim.holds_of_wide 4 Try.f4 rfl rfl rfl rfl rfl rfl rfl ⟨rfl, rfl, rfl, rfl, rfl⟩ rfl rfl rfl rfl rfl (by kernel_rfl) Try.func4 (by kernel_rfl)
    (of_decide_eq_true (by kernel_rfl)) (by unfold Func.isWrapper; first | (rw [if_pos (by decide +kernel)]; kernel_rfl) | (rw [if_neg (by decide +kernel)]; exact ⟨rfl, rfl⟩))
    (fun os started H enc _ => lifted os started H enc)
#print axioms proved
end Go.Proofs.Ytmppegknkeggcaa.cacheOwn
