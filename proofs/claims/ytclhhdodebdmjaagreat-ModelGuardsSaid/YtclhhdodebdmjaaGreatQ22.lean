/- What follows is laid together from several texts of mine, in their order. -/
import Derived.Test.YtclhhdodebdmjaaGreatQ21
import Derived.Lib.SlBytesConst

namespace Go.Proofs.YtclhhdodebdmjaaGreat
open Go.RowKit Go.MapKept Go.ChangeMaps
set_option linter.unusedVariables false
set_option linter.unusedSimpArgs false
set_option maxRecDepth 100000

def cidL : List Nat := [76, 79, 67, 75, 69, 84, 0, 0, 0, 0, 0, 0, 0, 0, 0, 0]
theorem conv_const (w : World) (C : Array Value) (n c : Nat) : (convert 53 53 (.slice (some ⟨w.heap.size, 0, none⟩) n c)).run Tryz.prog (w.alloc (.cells C 5)) = .ok (.slice (some ⟨w.heap.size, 0, none⟩) n c) (w.alloc (.cells C 5 (C.size, C.size + 1))) :=
  Lib.run_convert_bytes_const w _ _ C n c Tryz.underlying53 Tryz.underlying5
theorem Cid_any (w : World) : Calls Tryz.prog 138 #[] w fun e w' => ∃ A n, e = .returned (.slice A 16 n) ∧ w'.ownsRow w.heap.size 5 1 (.slice A 16 n) 16 (intsV .u8 cidL) ∧ Below w.heap.size w w' := by
  obtain ⟨i0, hi, hz0, hz1, hz2⟩ := info_parts Grd.u8_info
  have hcv := conv_const w #[.int .u8 76, .int .u8 79, .int .u8 67, .int .u8 75, .int .u8 69, .int .u8 84] 6 6
  obtain ⟨wA, hwA⟩ : ∃ wA, wA = w.alloc (.cells #[.int .u8 76, .int .u8 79, .int .u8 67, .int .u8 75, .int .u8 69, .int .u8 84] 5 (6, 7)) := ⟨_, rfl⟩
  have HB : Hid (Below w.heap.size w wA) := by unfold Hid; rw [hwA]; exact (Below.refl _ _).alloc (Nat.le_refl _) _
  have hsz : wA.heap.size = w.heap.size + 1 := by rw [hwA]; simp
  have hrow : wA.heap[w.heap.size]? = some (.cells #[.int .u8 76, .int .u8 79, .int .u8 67, .int .u8 75, .int .u8 69, .int .u8 84] 5 (6, 7)) := by rw [hwA]; exact heap_alloc_new _ _
  have cc : ∀ j, j < 6 → wA.cell? ⟨w.heap.size, j, none⟩ = #[Value.int .u8 76, .int .u8 79, .int .u8 67, .int .u8 75, .int .u8 69, .int .u8 84][j]? := fun j hj => by
    simp [World.cell?, hrow]
  have c0 := cc 0 (by omega)
  have c1 := cc 1 (by omega)
  have c2 := cc 2 (by omega)
  have c3 := cc 3 (by omega)
  have c4 := cc 4 (by omega)
  have c5 := cc 5 (by omega)
  simp only [List.getElem?_toArray, List.getElem?_cons_zero, List.getElem?_cons_succ] at c0 c1 c2 c3 c4 c5
  rw [show ((#[Value.int .u8 76, .int .u8 79, .int .u8 67, .int .u8 75, .int .u8 69, .int .u8 84] : Array Value).size, (#[Value.int .u8 76, .int .u8 79, .int .u8 67, .int .u8 75, .int .u8 69, .int .u8 84] : Array Value).size + 1) = (6, 7) from rfl, ← hwA] at hcv
  clear hwA hrow cc
  go_enter Tryz.func138, Tryz.ntmps138
  have hge := grownCap_ge wA 16 6 5
  have hcm := grownCap_le_maxLen wA 16 6 5 (by decide)
  unfold grownCap at hge hcm
  have HG := Lib.hid (And.intro hge hcm)
  clear hge hcm
  go_wp2
  go_ret
  have hG := HG.out
  revert hG
  generalize (Question.appendCap 16 6 5).cut (wA.tape wA.drawn (Question.appendCap 16 6 5)) = K
  intro hG
  refine ⟨some ⟨w.heap.size + 1, 0, none⟩, K, rfl, ⟨by rfl, .inr ⟨w.heap.size + 1, K, _, rfl, by omega, (by rw [← hsz]; exact (heap_alloc_new wA _)), hG.1, hG.2, ?_, ?_⟩⟩, ?_⟩
  · simp [Builtin.zeroCells]; omega
  · have hz : (Builtin.zeroCells #[Value.int .u8 0] 10).toList = List.replicate 10 (Value.int .u8 0) := by kernel_rfl
    simp only [Array.toList_append, hz]
    rfl
  · exact (HB.out.alloc HB.out.size _).drew
end Go.Proofs.YtclhhdodebdmjaaGreat

namespace Go.Proofs.YtclhhdodebdmjaaGreat
open Go.RowKit Go.MapKept Go.ChangeMaps
set_option linter.unusedVariables false
set_option linter.unusedSimpArgs false

/-- A slice of bytes in memory that a card does not turn. -/
def BytIs (w : World) (B : Nat) (T : List Nat) (v : Value) (l : List Nat) : Prop := ∃ A n, v = .slice A l.length n ∧ w.ownsRow B 5 1 (.slice A l.length n) l.length (intsV .u8 l) ∧ ∀ k ∈ Vca.blk A, k ∉ T
/-- Blocks, each a slice of bytes. -/
def BlsIs (w : World) (B : Nat) (T : List Nat) (v : Value) (ls : List (List Nat)) : Prop := ∃ A cb us, v = .slice A ls.length cb ∧ w.ownsRow B 53 1 (.slice A ls.length cb) ls.length us ∧ (∀ k ∈ Vca.blk A, k ∉ T) ∧ ∀ i, i < ls.length → ∃ u, us[i]? = some u ∧ BytIs w B T u (ls.getD i [])
/-- An answer. -/
def AnIs (w : World) (B : Nat) (T : List Nat) (v : Value) (an : An) : Prop := ∃ lv bv, v = .agg #[.bool an.none, lv, .int .u32 (an.st : Nat), bv] ∧ BytIs w B T lv an.long ∧ BlsIs w B T bv an.bl
theorem turns_blk {w w' : World} {U T : List Nat} {A : Option Addr} (hU : ∀ k ∈ U, k ∈ T) (h : ∀ k ∈ Vca.blk A, k ∉ T) {n c : Nat} : ∀ g, (Value.slice A n c).ownBlock = some g → g ∉ U := fun g hg hm => by
  cases A with
  | none => simp [Value.ownBlock] at hg
  | some a =>
    simp [Value.ownBlock] at hg
    subst hg
    exact h _ (by simp [Vca.blk]) (hU _ hm)
theorem BytIs.turns {w w' : World} {B : Nat} {T U : List Nat} {v : Value} {l : List Nat} (h : BytIs w B T v l) (ht : Turns w w' U) (hU : ∀ k ∈ U, k ∈ T) : BytIs w' B T v l := by
  obtain ⟨A, n, e, ho, hb⟩ := h
  exact ⟨A, n, e, ht.own ho (turns_blk (w := w) (w' := w') hU hb), hb⟩
theorem BlsIs.turns {w w' : World} {B : Nat} {T U : List Nat} {v : Value} {ls : List (List Nat)} (h : BlsIs w B T v ls) (ht : Turns w w' U) (hU : ∀ k ∈ U, k ∈ T) : BlsIs w' B T v ls := by
  obtain ⟨A, cb, us, e, ho, hb, hi⟩ := h
  refine ⟨A, cb, us, e, ht.own ho (turns_blk (w := w) (w' := w') hU hb), hb, fun i hi' => ?_⟩
  obtain ⟨u, h1, h2⟩ := hi i hi'
  exact ⟨u, h1, h2.turns ht hU⟩
theorem AnIs.turns {w w' : World} {B : Nat} {T U : List Nat} {v : Value} {an : An} (h : AnIs w B T v an) (ht : Turns w w' U) (hU : ∀ k ∈ U, k ∈ T) : AnIs w' B T v an := by
  obtain ⟨lv, bv, e, h1, h2⟩ := h
  exact ⟨lv, bv, e, h1.turns ht hU, h2.turns ht hU⟩
theorem BytIs.mono {w : World} {B B' : Nat} {T T' : List Nat} {v : Value} {l : List Nat} (h : BytIs w B T v l) (hB : B' ≤ B) (hT : ∀ k ∈ T', k ∈ T ∨ k < B) : BytIs w B' T' v l := by
  obtain ⟨A, n, e, ho, hb⟩ := h
  refine ⟨A, n, e, own_mono ho hB, fun k hk hm => ?_⟩
  rcases hT k hm with hm | hm
  · exact hb k hk hm
  · have := (Vca.own_blk ho k hk).1; omega
theorem BlsIs.mono {w : World} {B B' : Nat} {T T' : List Nat} {v : Value} {ls : List (List Nat)} (h : BlsIs w B T v ls) (hB : B' ≤ B) (hT : ∀ k ∈ T', k ∈ T ∨ k < B) : BlsIs w B' T' v ls := by
  obtain ⟨A, cb, us, e, ho, hb, hi⟩ := h
  refine ⟨A, cb, us, e, own_mono ho hB, fun k hk hm => ?_, fun i hi' => ?_⟩
  · rcases hT k hm with hm | hm
    · exact hb k hk hm
    · have := (Vca.own_blk ho k hk).1; omega
  · obtain ⟨u, h1, h2⟩ := hi i hi'
    exact ⟨u, h1, h2.mono hB hT⟩
theorem AnIs.mono {w : World} {B B' : Nat} {T T' : List Nat} {v : Value} {an : An} (h : AnIs w B T v an) (hB : B' ≤ B) (hT : ∀ k ∈ T', k ∈ T ∨ k < B) : AnIs w B' T' v an := by
  obtain ⟨lv, bv, e, h1, h2⟩ := h
  exact ⟨lv, bv, e, h1.mono hB hT, h2.mono hB hT⟩
theorem BytIs.nil (w : World) (B : Nat) (T : List Nat) : BytIs w B T (.slice none 0 0) [] := ⟨none, 0, rfl, World.ownsRow_nil _ _ _ _, by simp [Vca.blk]⟩
theorem BlsIs.nil (w : World) (B : Nat) (T : List Nat) : BlsIs w B T (.slice none 0 0) [] := ⟨none, 0, [], rfl, World.ownsRow_nil _ _ _ _, by simp [Vca.blk], fun i hi => absurd hi (by simp)⟩
/-- An answer without bytes. -/
theorem AnIs.word (w : World) (B : Nat) (T : List Nat) (k : Bool) (n : Nat) : AnIs w B T (.agg #[.bool k, .slice none 0 0, .int .u32 (n : Nat), .slice none 0 0]) ⟨k, [], n, []⟩ := ⟨_, _, rfl, BytIs.nil _ _ _, BlsIs.nil _ _ _⟩
/-- The card is S' now; what lies elsewhere stands; and it answers so. -/
def NxA (w w' : World) (b : Bn) (T F : List Nat) (c : Cf) (S' : Ab) (v : Value) (an : An) : Prop := ∃ b' T' F', AbIs w' b' T' F' c S' ∧ b'.E = b.E ∧ b'.n = b.n ∧ Turns w w' T ∧ (∀ k ∈ T, k ∈ T') ∧ (∀ k ∈ T', k ∈ T ∨ w.heap.size ≤ k) ∧ (∀ k ∈ F', k ∈ F ∨ w.heap.size ≤ k) ∧ AnIs w' w.heap.size T' v an
section
variable {w w' w'' : World} {b : Bn} {T F : List Nat} {c : Cf} {S S' : Ab} {v : Value} {an : An}
theorem NxA.nx (h : NxA w w' b T F c S v an) : Nx w w' b T F c S := by
  obtain ⟨b', T', F', h1, h2, h3, h4, h5, h6, h7, _⟩ := h
  exact ⟨b', T', F', h1, h2, h3, h4, h5, h6, h7⟩
theorem NxA.word (h : Nx w w' b T F c S) (k : Bool) (n : Nat) : NxA w w' b T F c S (.agg #[.bool k, .slice none 0 0, .int .u32 (n : Nat), .slice none 0 0]) ⟨k, [], n, []⟩ := by
  obtain ⟨b', T', F', h1, h2, h3, h4, h5, h6, h7⟩ := h
  exact ⟨b', T', F', h1, h2, h3, h4, h5, h6, h7, AnIs.word _ _ _ _ _⟩
theorem NxA.after {b1 : Bn} {T1 F1 : List Nat} (ht : Turns w w' T) (hE : b1.E = b.E) (hn : b1.n = b.n) (hT : ∀ k ∈ T, k ∈ T1) (hTn : ∀ k ∈ T1, k ∈ T ∨ w.heap.size ≤ k) (hF : ∀ k ∈ F1, k ∈ F ∨ w.heap.size ≤ k) (h : NxA w' w'' b1 T1 F1 c S v an) : NxA w w'' b T F c S v an := by
  obtain ⟨b2, T2, F2, hA2, hE2, hn2, ht2, hT2, hTn2, hFn2, hAn⟩ := h
  have hs := ht.size
  refine ⟨b2, T2, F2, hA2, hE2.trans hE, hn2.trans hn, ht.trans ht2 hTn, fun k hk => hT2 k (hT k hk), fun k hk => ?_, fun k hk => ?_, hAn.mono hs (fun k hk => .inl hk)⟩
  · rcases hTn2 k hk with hk | hk
    · exact hTn k hk
    · exact .inr (by omega)
  · rcases hFn2 k hk with hk | hk
    · exact hF k hk
    · exact .inr (by omega)
/-- A command that leaves the card's blocks where they are, and answers with new memory. -/
theorem NxA.of (h : AbIs w' b T F c S) (hT : Turns w w' T) (hl : ∀ k ∈ T, k < w.heap.size) (ha : AnIs w' w.heap.size [] v an) : NxA w w' b T F c S v an :=
  ⟨b, T, F, h, rfl, rfl, hT, fun _ hk => hk, fun _ hk => .inl hk, fun _ hk => .inl hk, ha.mono (Nat.le_refl _) (fun k hk => .inr (hl k hk))⟩
end
end Go.Proofs.YtclhhdodebdmjaaGreat

namespace Go.Proofs.YtclhhdodebdmjaaGreat
open Go.RowKit Go.MapKept Go.ChangeMaps
set_option linter.unusedVariables false
set_option linter.unusedSimpArgs false
set_option maxRecDepth 100000

/-- What a sector of an area tells. -/
def secL (c : Cf) (S : Ab) (a s : Int) : List Nat := match placeI c S.now a s with | some p => sectorL c S a s p.toNat | Option.none => []
theorem bls_info : (Tryz.prog.info? 53).map (fun i => (i.zero, i.size, i.bytes)) = some (some (.slice none 0 0), 1, 24) := by kernel_rfl
theorem inside_place {c : Cf} {S : Ab} (hok : AbOk c S) {a : Int} {f n : Nat} (h : insideB c S a f n = true) {k : Nat} (hk : k < n) : ∃ p : Nat, placeI c S.now a ((f + k : Nat) : Int) = some (p : Int) ∧ p < (totalI c).toNat ∧ p ≤ 17152 := by
  unfold insideB at h
  simp only [decide_eq_true_eq] at h
  have h1 : 0 ≤ firstV c S.now a.toNat := (firstV_bd hok.cfg.1 hok.now a.toNat).1
  have h2 : placeI c S.now a ((f + k : Nat) : Int) = some (((firstV c S.now a.toNat + ((f + k : Nat) : Int)).toNat : Nat) : Int) := by
    unfold placeI; rw [if_pos (by omega)]; congr 1; omega
  have h3 := place_bd hok h2
  exact ⟨_, h2, h3.2, by omega⟩
section
variable {w w' : World} {b : Bn} {T F : List Nat} {c : Cf} {S : Ab}
theorem read_in (h : AbIs w b T F c S) (i : Int) (arg : Nat) (harg : arg < 4294967296) (harea : S.V 0 ≠ 3) (hin : insideB c S ((S.V 0 : Nat) : Int) arg (S.manyN i) = true) :
    Calls Tryz.prog 141 #[.pointer (some ⟨b.E, 0, none⟩), .agg #[.int .i64 i, .int .u32 arg]] w fun e w' => ∃ v, e = .returned v ∧ NxA w w' b T F c (S.many i).told v ⟨false, [], stN (S.many i), (List.range (S.manyN i)).map fun k => secL c S ((S.V 0 : Nat) : Int) ((arg + k : Nat) : Int)⟩ := by
  obtain ⟨n, hn⟩ : ∃ n, n = S.manyN i := ⟨_, rfl⟩
  rw [← hn] at hin ⊢
  have hn64 : n ≤ 64 := by rw [hn]; unfold Ab.manyN; split <;> have := h.ok.count <;> omega
  have HMN := Lib.hid hn
  have HAr := Lib.hid harea
  have HIn0 := Lib.hid hin
  have HH := Lib.hid h
  obtain ⟨W, hW⟩ : ∃ W, W = (w.alloc (.cells #[.int .i64 i, .int .u32 arg] 89)).alloc (.cells nilAn 56) := ⟨_, rfl⟩
  obtain ⟨Z, hZ⟩ : ∃ Z, Z = w.heap.size := ⟨_, rfl⟩
  have HZw : Hid (Z = w.heap.size) := hZ
  have HBW : Hid (Below w.heap.size w W) := by unfold Hid; rw [hW]; (repeat (first | (with_reducible refine Below.drew ?_) | (with_reducible refine below_drewN0 ?_ _) | ((with_reducible refine Below.setCell ?_ ?_ _); rotate_left; focus (first | omega | (simp; done) | (simp; omega) | (simp at *; omega))) | ((with_reducible refine Below.alloc ?_ ?_ _); rotate_left; focus (first | omega | (simp; done) | (simp; omega) | (simp at *; omega))) | (with_reducible exact Below.refl _ _)))
  have HZ : Hid (Row W Z 89 #[.int .i64 i, .int .u32 arg]) := by unfold Hid; rw [hW, hZ]; exact (Row.fresh _ _ _).alloc _
  have HRr : Hid (Row W (Z + 1) 56 nilAn) := by
    unfold Hid; rw [hW, hZ]
    have := Row.fresh (w.alloc (.cells #[.int .i64 i, .int .u32 arg] 89)) 56 nilAn
    simpa using this
  have hA0 := h.below HBW.out
  have HA0 := Lib.hid hA0
  have HM : Hid (Calls Tryz.prog 202 #[.pointer (some ⟨b.E, 0, none⟩), .int .i64 i] W fun e w' => e = .returned (.int .i64 (n : Nat)) ∧ AbIs w' b T F c (S.many i) ∧ Turns W w' [b.E]) := by
    have h := many_any hA0 i
    rw [← HMN.out] at h
    exact h
  have z0 := HZ.out.cell 0
  have d3 : (((S.V 0 : Nat) : Int) == 3) = false := by simp; omega
  unfold nilAn at hW
  clear h hin harea hA0 hn
  go_enter Tryz.func141, Tryz.ntmps141
  go_wp2_with fail
  rw [← hZ]
  rw [hZ, ← hW, ← hZ]
  clear hW hZ
  refine HM.out.mono ?_
  rintro e w2 ⟨rfl, hA2, ht2⟩
  have HTT : Hid (b.n.T ∈ T ∧ b.E ∈ T) := ⟨HH.out.inT _ (by simp [Bn.ts]), HH.out.inT _ (by simp [Bn.ts])⟩
  have HL : Hid ((∀ k ∈ T, k < w.heap.size) ∧ ∀ k ∈ F, k < w.heap.size) := ⟨HH.out.Tlt, HH.out.Flt⟩
  have HA2 := Lib.hid hA2
  have hZE : Z ≠ b.E := HZ.out.ne_type HA0.out.rE (by decide)
  have hRE : Z + 1 ≠ b.E := HRr.out.ne_type HA0.out.rE (by decide)
  have HZ2 : Hid (Row w2 Z 89 #[.int .i64 i, .int .u32 arg]) := ht2.row HZ.out (by simpa using hZE)
  have HR2 : Hid (Row w2 (Z + 1) 56 nilAn) := ht2.row HRr.out (by simpa using hRE)
  have HT2 : Hid (Turns w w2 T) := ((Turns.of_below HBW.out [b.E]).trans ht2 (fun k hk => .inl hk)).mono (fun k hk => by obtain rfl := List.mem_singleton.1 hk; exact HTT.out.2)
  have HCu : Hid (Calls Tryz.prog 203 #[.pointer (some ⟨b.E, 0, none⟩)] w2 fun e w' => e = .returned (.int .i64 (S.V 0 : Nat)) ∧ w' = w2) := by have h := current_any hA2; exact h
  have HIn : Hid (Calls Tryz.prog 97 #[.pointer (some ⟨b.E, 0, none⟩), .int .i64 (S.V 0 : Nat), .int .u32 arg, .int .i64 (n : Nat)] w2 fun e w' => e = .returned (.bool true) ∧ AbIs w' b T F c (S.many i) ∧ Turns w2 w' [b.n.T]) := by
    have h := inside_any hA2 ((S.V 0 : Nat) : Int) arg n harg (by omega)
    rw [show insideB c (S.many i) ((S.V 0 : Nat) : Int) arg n = true from HIn0.out] at h
    exact h
  have z1 := HZ2.out.cell 1
  clear hA2 ht2 HM z0 HA0 HZ HRr
  go_wp2_with fail
  refine HCu.out.mono ?_
  rintro e wq ⟨rfl, hwq⟩
  rw [hwq]
  clear hwq HCu wq
  go_wp2_with fail
  refine HIn.out.mono ?_
  rintro e w3 ⟨rfl, hA3, ht3⟩
  have HA3 := Lib.hid hA3
  have HZ3 : Hid (Row w3 Z 89 #[.int .i64 i, .int .u32 arg]) := ht3.row HZ2.out (by
    obtain ⟨r, hr⟩ := HA2.out.tb
    simpa using HZ2.out.ne_type hr (by decide))
  have HR3 : Hid (Row w3 (Z + 1) 56 nilAn) := ht3.row HR2.out (by
    obtain ⟨r, hr⟩ := HA2.out.tb
    simpa using HR2.out.ne_type hr (by decide))
  have HT3 : Hid (Turns w w3 T) := HT2.out.trans ht3 (fun k hk => .inl (by obtain rfl := List.mem_singleton.1 hk; exact HTT.out.1))
  have HSt := Lib.hid (status_any hA3)
  clear hA3 ht3 HIn z1 HA2 HZ2 HR2 HT2 d3
  go_wp2_with fail
  refine HSt.out.mono ?_
  rintro e w4 ⟨rfl, hA4, ht4⟩
  have HA4 := Lib.hid hA4
  have HZ4 : Hid (Row w4 Z 89 #[.int .i64 i, .int .u32 arg]) := ht4.row HZ3.out (by simpa using hZE)
  have HR4 : Hid (Row w4 (Z + 1) 56 nilAn) := ht4.row HR3.out (by simpa using hRE)
  have HT4 : Hid (Turns w w4 T) := HT3.out.trans ht4 (fun k hk => .inl (by obtain rfl := List.mem_singleton.1 hk; exact HTT.out.2))
  clear hA4 ht4 HSt HA3 HZ3 HR3 HT3
  obtain ⟨W5, hW5⟩ : ∃ W5, W5 = w4.alloc (.cells #[.bool false, .slice none 0 0, .int .u32 (stN (S.many i) : Nat), .slice none 0 0] 56) := ⟨_, rfl⟩
  obtain ⟨Y, hY⟩ : ∃ Y, Y = w4.heap.size := ⟨_, rfl⟩
  have HB5 : Hid (Below w4.heap.size w4 W5) := by unfold Hid; rw [hW5]; (repeat (first | (with_reducible refine Below.drew ?_) | (with_reducible refine below_drewN0 ?_ _) | ((with_reducible refine Below.setCell ?_ ?_ _); rotate_left; focus (first | omega | (simp; done) | (simp; omega) | (simp at *; omega))) | ((with_reducible refine Below.alloc ?_ ?_ _); rotate_left; focus (first | omega | (simp; done) | (simp; omega) | (simp at *; omega))) | (with_reducible exact Below.refl _ _)))
  have HRY : Hid (Row W5 Y 56 #[.bool false, .slice none 0 0, .int .u32 (stN (S.many i) : Nat), .slice none 0 0]) := by unfold Hid; rw [hW5, hY]; exact Row.fresh _ _ _
  go_wp2_with fail
  rw [← hY]
  rw [hY, ← hW5, ← hY]
  have HY : Hid (w.heap.size ≤ Y) := by unfold Hid; rw [hY]; exact HT4.out.size
  have HZY : Hid (Z + 1 ≠ Y) := by have := HR4.out.lt; unfold Hid; omega
  clear hW5 hY
  have HA5 := Lib.hid (HA4.out.below HB5.out)
  have HZ5 := Lib.hid (HZ4.out.below HB5.out HZ4.out.lt)
  have HR5 := Lib.hid (HR4.out.below HB5.out HR4.out.lt)
  have HT5 := Lib.hid (HT4.out.then_below HB5.out)
  clear HA4 HZ4 HR4 HT4 HB5
  obtain ⟨i0, hi, hz0, hz1, hz2⟩ := info_parts bls_info
  go_loopw [54] (fun i9 wr => ∃ (k : Nat) (A : Option Addr) (cb : Nat) (us : List Value), k ≤ n ∧ i9 = .int .i64 k ∧ Row wr Y 56 #[.bool false, .slice none 0 0, .int .u32 (stN (S.many i) : Nat), .slice A k cb] ∧ AbIs wr b T F c (S.many i).told ∧ Turns w wr T ∧ wr.ownsRow w.heap.size 53 1 (.slice A k cb) k us ∧ (∀ j, j < k → ∃ u, us[j]? = some u ∧ BytIs wr w.heap.size [] u (secL c S ((S.V 0 : Nat) : Int) ((arg + j : Nat) : Int))) ∧ Row wr Z 89 #[.int .i64 i, .int .u32 arg] ∧ Row wr (Z + 1) 56 nilAn) (fun i9 _ => n - (intOf i9).toNat)
  case atStart => exact ⟨0, none, 0, [], Nat.zero_le _, rfl, HRY.out, HA5.out, HT5.out, World.ownsRow_nil _ _ _ _, fun j hj => absurd hj (by omega), HZ5.out, HR5.out⟩
  case round =>
    obtain ⟨k, A, cb, us, hkn, rfl, h1, h2, h3, h4, h5, h6, h7⟩ := hrel
    have HY1 := Lib.hid h1
    have HA1 := Lib.hid h2
    have HT1 := Lib.hid h3
    have HO1 := Lib.hid h4
    have HU1 := Lib.hid h5
    have HZ1 := Lib.hid h6
    have HR1 := Lib.hid h7
    clear HRY HA5 HT5 HZ5 HR5 h1 h3 h4 h5 h6 h7
    by_cases hk : k < n
    · obtain ⟨p, hp, hpt, hp2⟩ := inside_place h2.ok (S := (S.many i).told) (c := c) HIn0.out hk
      have HPl : Hid (Calls Tryz.prog 101 #[.pointer (some ⟨b.n.T, 0, none⟩), .int .i64 (S.V 0 : Nat), .int .i64 ((arg + k : Nat) : Int)] wr fun e w' => e = .returned (.tuple #[.int .i64 p, .bool true]) ∧ TbIs w' b.n.T c S.set S.now ∧ Turns wr w' [b.n.T]) := by
        have h := Place_any b.n.T c S.set S.now h2.ok.cfg h2.ok.now ((S.V 0 : Nat) : Int) ((arg + k : Nat) : Int) wr h2.tb
        unfold placeW at h
        rw [show placeI c S.now ((S.V 0 : Nat) : Int) ((arg + k : Nat) : Int) = some (p : Int) from hp] at h
        exact h
      have HPp := Lib.hid (And.intro hp (And.intro hpt hp2))
      have hwr : wrap64 ((arg : Int) + (k : Int)) = ((arg + k : Nat) : Int) := by unfold wrap64; omega
      have z1 : wr.cell? ⟨Z, 1, none⟩ = some (.int .u32 arg) := by rw [HZ1.out.cell]; rfl
      have e13 := h2.xT
      clear h2 hp hpt hp2
      go_wp2_with fail
      refine HPl.out.mono ?_
      rintro e w1 ⟨rfl, htb, ht⟩
      have HA2 : Hid (AbIs w1 b T F c (S.many i).told) := HA1.out.tabl ht htb HA1.out.ok
      have hYT : Y ≠ b.n.T := by obtain ⟨r, hr⟩ := HA1.out.tb; exact HY1.out.ne_type hr (by decide)
      have hZT : Z ≠ b.n.T := by obtain ⟨r, hr⟩ := HA1.out.tb; exact HZ1.out.ne_type hr (by decide)
      have hRT : Z + 1 ≠ b.n.T := by obtain ⟨r, hr⟩ := HA1.out.tb; exact HR1.out.ne_type hr (by decide)
      have HY2 : Hid (Row w1 Y 56 #[.bool false, .slice none 0 0, .int .u32 (stN (S.many i) : Nat), .slice A k cb]) := ht.row HY1.out (by simpa using hYT)
      have HZ2 : Hid (Row w1 Z 89 #[.int .i64 i, .int .u32 arg]) := ht.row HZ1.out (by simpa using hZT)
      have HR2 : Hid (Row w1 (Z + 1) 56 nilAn) := ht.row HR1.out (by simpa using hRT)
      have HT2 : Hid (Turns w w1 T) := HT1.out.trans ht (fun k hk => .inl (by obtain rfl := List.mem_singleton.1 hk; exact HTT.out.1))
      have hTl : b.n.T < w.heap.size := HL.out.1 _ HTT.out.1
      have hnT : ∀ g, (Value.slice A k cb).ownBlock = some g → g ∉ [b.n.T] := fun g hg hm => by
        obtain rfl := List.mem_singleton.1 hm
        have hm : b.n.T ∈ Vca.blk A := by
          cases A with
          | none => simp [Value.ownBlock] at hg
          | some a => simp [Value.ownBlock] at hg; simp [Vca.blk]; exact hg.symm
        have := (Vca.own_blk HO1.out _ hm).1
        omega
      have HO2 : Hid (w1.ownsRow w.heap.size 53 1 (.slice A k cb) k us) := ht.own HO1.out hnT
      have HU2 : Hid (∀ j, j < k → ∃ u, us[j]? = some u ∧ BytIs w1 w.heap.size [] u (secL c S ((S.V 0 : Nat) : Int) ((arg + j : Nat) : Int))) := fun j hj => by
        obtain ⟨u, h1, h2⟩ := HU1.out j hj
        exact ⟨u, h1, (h2.mono (Nat.le_refl _) (T' := [b.n.T]) (fun k hk => .inr (by obtain rfl := List.mem_singleton.1 hk; exact hTl)) |>.turns ht (fun k hk => hk)).mono (Nat.le_refl _) (by simp)⟩
      have HSc : Hid (Calls Tryz.prog 47 #[.pointer (some ⟨b.E, 0, none⟩), .int .i64 (S.V 0 : Nat), .int .i64 ((arg + k : Nat) : Int), .int .i64 p] w1.drew fun e w' => ∃ v, e = .returned v ∧ Fresh w1.drew w' v (sectorL c S ((S.V 0 : Nat) : Int) ((arg + k : Nat) : Int) p) ∧ Below w1.drew.heap.size w1.drew w') := sector_any HA2.out.drew ((S.V 0 : Nat) : Int) ((arg + k : Nat) : Int) p HPp.out.2.1 (W64_of (by have := HA2.out.ok.ra; have : (S.V 0 : Nat) < 8 := this; omega)) ((Vca.W64.iff _).2 (by omega))
      have HSe : Hid (secL c S ((S.V 0 : Nat) : Int) ((arg + k : Nat) : Int) = sectorL c S ((S.V 0 : Nat) : Int) ((arg + k : Nat) : Int) p) := by
        unfold Hid secL
        rw [show placeI c S.now ((S.V 0 : Nat) : Int) ((arg + k : Nat) : Int) = some (p : Int) from HPp.out.1]
        simp
      have hYA : Y ∉ Vca.blk A := fun hm => by
        obtain ⟨_, cur, hr⟩ := Vca.own_blk HO2.out _ hm
        exact HY2.out.ne_type hr (by decide) rfl
      have q1 : ∀ t : Kept w1 (Vca.blk A), t.u.cell? ⟨Y, 3, none⟩ = some (.slice A k cb) := fun t => by rw [(t.h.row HY2.out hYA).cell]; rfl
      have HYl : Hid (Y < w1.heap.size ∧ w.heap.size ≤ w1.heap.size) := ⟨HY2.out.lt, HT2.out.size⟩
      have HnT := Lib.hid hYA
      clear htb ht hnT hTl hYT hZT hRT HPl HY1 HZ1 HR1 HT1 HO1 HU1 HA1 z1 e13 hYA
      go_wp2_with fail
      (refine region_kept (Vca.blk A) [0, 1, 2, 3, 4, 5] [6, 7, 8, 9, 10] (by kernel_rfl) (by kernel_rfl) (fun _ _ _ _ _ h => h) ?_; simp only [List.filterMap_cons, List.getElem?_cons_zero, List.getElem?_cons_succ, List.filterMap_nil]; (repeat ((show wpQuiet _ _ _ _ (_ :: _) _); go_big_quiet_step (fail))); refine wpQuiet_nil ?_)
      clear q1
      refine wpSeqS_step ?_
      go_wp2_with fail
      refine HSc.out.mono ?_
      rintro e w2 ⟨v, rfl, hf, hb⟩
      have hb2 : Below w1.heap.size w1 w2 := (Below.refl _ _).drew.trans hb
      obtain ⟨Av, nv, rfl, hv⟩ := hf
      have HV2 : Hid (BytIs w2 w.heap.size [] (.slice Av (sectorL c S ((S.V 0 : Nat) : Int) ((arg + k : Nat) : Int) p).length nv) (secL c S ((S.V 0 : Nat) : Int) ((arg + k : Nat) : Int))) := by
        unfold Hid
        rw [HSe.out]
        exact ⟨Av, nv, rfl, own_mono hv HYl.out.2, by simp⟩
      have HB2 := Lib.hid hb2
      obtain ⟨vl, hvl⟩ : ∃ vl, vl = (sectorL c S ((S.V 0 : Nat) : Int) ((arg + k : Nat) : Int) p).length := ⟨_, rfl⟩
      rw [← hvl] at HV2 ⊢
      clear hb hb2 hv hvl HSc HSe
      go_wp2_with fail
      refine outQ_normal (Turns.of_below HB2.out _) ?_
      obtain ⟨w4, hw4⟩ : ∃ w4, w4 = w2.alloc (.cells #[.slice Av vl nv] 53) := ⟨_, rfl⟩
      obtain ⟨L4, hL4⟩ : ∃ L4, L4 = w2.heap.size := ⟨_, rfl⟩
      have HB4 : Hid (Below w2.heap.size w2 w4) := by unfold Hid; rw [hw4]; exact (Below.refl _ _).alloc (Nat.le_refl _) _
      have HS4 : Hid (Src w4 1 (some ⟨L4, 0, none⟩) 1 [.slice Av vl nv]) := by unfold Hid; rw [hw4, hL4]; exact Vca.src_new (w := w2) (t := 53) (cs := [.slice Av vl nv]) (sz := 1) rfl
      have HB24 : Hid (Below w1.heap.size w1 w4) := HB2.out.trans (HB4.out.mono HB2.out.size)
      have HO4 : Hid (w4.ownsRow w.heap.size 53 1 (.slice A k cb) k us) := own_below HO2.out HB24.out
      refine wpSeqS_step ?_
      go_wp2_with fail
      rw [← hL4]
      rw [← hw4]
      clear hw4 hL4
      refine outQ_normal (Turns.of_below HB24.out _) ?_
      refine wpSeqS_step (wpList_append_src _ rfl (.tmp 73) (.tmp 79) 54 rfl w.heap.size 53 i0 _ 1 24 Tryz.underlying54 hi hz0 hz1 hz2 rfl (by decide) (.slice A k cb) k us rfl HO4.out (some ⟨L4, 0, none⟩) 1 1 [.slice Av vl nv] rfl HS4.out (by intro u hu; rw [List.mem_singleton.1 hu]; rfl) (by unfold maxLen; omega) (by omega) (by have := HYl.out.2; have := HB24.out.size; omega) ?_)
      intro v6 w6 hown hgrow hat
      obtain ⟨A6, c6, rfl, _, _⟩ := own_shape hown
      have HT6 : Hid (Turns w1 w6 (Vca.blk A)) := (Turns.of_below HB24.out _).trans (Vca.turns_append hgrow) (fun k hk => .inl hk)
      have HG6 : Hid (Turns w4 w6 (Vca.blk A)) := Vca.turns_append hgrow
      refine wpList_nil (outQ_normal HT6.out ?_)
      have HO6 := Lib.hid hown
      have hT9 : Turns w6 (w6.setCell ⟨Y, 3, none⟩ (.slice A6 (k + 1) c6)) [Y] := (Turns.refl _ _).setCell (by simp) _
      have HY6 : Hid (Row w6 Y 56 #[.bool false, .slice none 0 0, .int .u32 (stN (S.many i) : Nat), .slice A k cb]) := HT6.out.row HY2.out HnT.out
      have y3 : w6.cell? ⟨Y, 3, none⟩ = some (.slice A k cb) := by rw [HY6.out.cell]; rfl
      have g3 := HY6.out.frozen 3
      have HY9 : Hid (Row (w6.setCell ⟨Y, 3, none⟩ (.slice A6 (k + 1) c6)) Y 56 #[.bool false, .slice none 0 0, .int .u32 (stN (S.many i) : Nat), .slice A6 (k + 1) c6]) := by
        have := HY6.out.put 3 (.slice A6 (k + 1) c6)
        unfold Hid; simpa using this
      have hbl : ∀ g ∈ Vca.blk A, w.heap.size ≤ g ∧ ∃ cur, Row w1 g 53 cur := Vca.own_blk HO2.out
      have hT69 : Turns w1 (w6.setCell ⟨Y, 3, none⟩ (.slice A6 (k + 1) c6)) (Y :: Vca.blk A) := (HT6.out.mono (fun k hk => List.mem_cons_of_mem _ hk)).setCell (by simp) _
      have hYw : w.heap.size ≤ Y := HY.out
      have hU : ∀ g ∈ Y :: Vca.blk A, g ∉ T ∧ g ∉ F := fun g hg => by
        have hg' : w.heap.size ≤ g := by
          rcases List.mem_cons.1 hg with rfl | hg
          · exact hYw
          · exact (hbl g hg).1
        exact ⟨fun hm => by have := HL.out.1 _ hm; omega, fun hm => by have := HL.out.2 _ hm; omega⟩
      have HA9 : Hid (AbIs (w6.setCell ⟨Y, 3, none⟩ (.slice A6 (k + 1) c6)) b T F c (S.many i).told) := HA2.out.turns hT69 hU
      have HT9 : Hid (Turns w (w6.setCell ⟨Y, 3, none⟩ (.slice A6 (k + 1) c6)) T) := HT2.out.trans hT69 (fun g hg => by
        rcases List.mem_cons.1 hg with rfl | hg
        · exact .inr hYw
        · exact .inr (hbl g hg).1)
      have hZU : Z ∉ Y :: Vca.blk A := fun hm => by
        rcases List.mem_cons.1 hm with e | hm
        · exact HZ2.out.ne_type HY2.out (by decide) e
        · obtain ⟨_, cur, hr⟩ := hbl _ hm
          exact HZ2.out.ne_type hr (by decide) rfl
      have hRU : Z + 1 ∉ Y :: Vca.blk A := fun hm => by
        rcases List.mem_cons.1 hm with e | hm
        · exact HZY.out e
        · obtain ⟨_, cur, hr⟩ := hbl _ hm
          exact HR2.out.ne_type hr (by decide) rfl
      have HZ9 := Lib.hid (hT69.row HZ2.out hZU)
      have HR9 := Lib.hid (hT69.row HR2.out hRU)
      have hnB : ∀ (B : Nat) (v : Value) (l : List Nat), BytIs w6 B [] v l → BytIs (w6.setCell ⟨Y, 3, none⟩ (.slice A6 (k + 1) c6)) B [] v l := fun B v l hb => by
        obtain ⟨A0, n0, rfl, h0, _⟩ := hb
        refine ⟨A0, n0, rfl, hT9.own h0 (fun g hg hm => ?_), by simp⟩
        obtain rfl := List.mem_singleton.1 hm
        obtain ⟨_, cur, hr⟩ := Vca.own_blk h0 g (by
          cases A0 with
          | none => simp [Value.ownBlock] at hg
          | some a => simp [Value.ownBlock] at hg; simp [Vca.blk]; exact hg.symm)
        exact HY6.out.ne_type hr (by decide) rfl
      have hAB : ∀ (W W' : World) (v : Value) (l : List Nat), Turns W W' (Vca.blk A) → (∀ g ∈ Vca.blk A, ∃ cur, Row W g 53 cur) → BytIs W w.heap.size [] v l → BytIs W' w.heap.size [] v l := fun W W' v l ht hr hb => by
        obtain ⟨A0, n0, rfl, h0, _⟩ := hb
        refine ⟨A0, n0, rfl, ht.own h0 (fun g hg hm => ?_), by simp⟩
        obtain ⟨cur', hr'⟩ := hr g hm
        obtain ⟨_, cur, hr⟩ := Vca.own_blk h0 g (by
          cases A0 with
          | none => simp [Value.ownBlock] at hg
          | some a => simp [Value.ownBlock] at hg; simp [Vca.blk]; exact hg.symm)
        exact hr'.ne_type hr (by decide) rfl
      have hlen : us.length = k := by have := HO2.out.1; simpa using this
      have HU9 : Hid (∀ j, j < k + 1 → ∃ u, (us ++ [.slice Av vl nv])[j]? = some u ∧ BytIs (w6.setCell ⟨Y, 3, none⟩ (.slice A6 (k + 1) c6)) w.heap.size [] u (secL c S ((S.V 0 : Nat) : Int) ((arg + j : Nat) : Int))) := fun j hj => by
        by_cases hjk : j < k
        · obtain ⟨u, h1, h2⟩ := HU2.out j hjk
          exact ⟨u, by rw [List.getElem?_append_left (by omega)]; exact h1, hnB _ _ _ (hAB _ _ _ _ HT6.out (fun g hg => (hbl g hg).2) h2)⟩
        · obtain rfl : k = j := by omega
          refine ⟨.slice Av vl nv, by simp [hlen], hnB _ _ _ (hAB _ _ _ _ HG6.out (fun g hg => ?_) (HV2.out.turns (Turns.of_below HB4.out []) (by simp)))⟩
          obtain ⟨_, cur, hr⟩ := hbl g hg
          exact ⟨cur, hr.below HB24.out hr.lt⟩
      have HO9 : Hid ((w6.setCell ⟨Y, 3, none⟩ (.slice A6 (k + 1) c6)).ownsRow w.heap.size 53 1 (.slice A6 (k + 1) c6) (k + 1) (us ++ [.slice Av vl nv])) := hT9.own HO6.out (fun g hg hm => by
        obtain rfl := List.mem_singleton.1 hm
        obtain ⟨_, cur, hr⟩ := Vca.own_blk HO6.out g (by
          cases A6 with
          | none => simp [Value.ownBlock] at hg
          | some a => simp [Value.ownBlock] at hg; simp [Vca.blk]; exact hg.symm)
        exact HY6.out.ne_type hr (by decide) rfl)
      clear hown hgrow hat hT9 hbl hT69 hYw hU hZU hRU hnB hAB hlen HV2 HB2 HB4 HS4 HB24 HO4 HG6 HY6 HU2 HO2 HA2 HT2 HZ2 HR2 HY2
      refine wpSeqS_step ?_
      go_wp2_with fail
      refine outQ_normal HT6.out ?_
      refine wpSeqS_last ?_
      go_wp2
      go_roundw
      case rel => exact ⟨k + 1, A6, c6, _, by omega, by go_num, HY9.out, HA9.out, HT9.out, HO9.out, HU9.out, HZ9.out, HR9.out⟩
      case measure => simp [intOf]; omega
    · obtain rfl : n = k := by omega
      have y0 : wr.cell? ⟨Y, 0, none⟩ = some (.bool false) := by rw [HY1.out.cell]; rfl
      have y1 : wr.cell? ⟨Y, 1, none⟩ = some (.slice none 0 0) := by rw [HY1.out.cell]; rfl
      have y2 : wr.cell? ⟨Y, 2, none⟩ = some (.int .u32 (stN (S.many i) : Nat)) := by rw [HY1.out.cell]; rfl
      have y3 : wr.cell? ⟨Y, 3, none⟩ = some (.slice A n cb) := by rw [HY1.out.cell]; rfl
      have n0 : wr.cell? ⟨Z + 1, 0, none⟩ = some (.bool false) := by rw [HR1.out.cell]; rfl
      have n1 : wr.cell? ⟨Z + 1, 1, none⟩ = some (.slice none 0 0) := by rw [HR1.out.cell]; rfl
      have n2 : wr.cell? ⟨Z + 1, 2, none⟩ = some (.int .u32 0) := by rw [HR1.out.cell]; rfl
      have n3 : wr.cell? ⟨Z + 1, 3, none⟩ = some (.slice none 0 0) := by rw [HR1.out.cell]; rfl
      have g0 := HR1.out.frozen 0
      have g1 := HR1.out.frozen 1
      have g2 := HR1.out.frozen 2
      have g3 := HR1.out.frozen 3
      have hT9 : Turns wr ((((wr.setCell ⟨Z + 1, 0, none⟩ (.bool false)).setCell ⟨Z + 1, 1, none⟩ (.slice none 0 0)).setCell ⟨Z + 1, 2, none⟩ (.int .u32 (stN (S.many i) : Nat))).setCell ⟨Z + 1, 3, none⟩ (.slice A n cb)) [Z + 1] := ((((Turns.refl _ _).setCell (by simp) _).setCell (by simp) _).setCell (by simp) _).setCell (by simp) _
      have HZ9 : Hid (Row ((((wr.setCell ⟨Z + 1, 0, none⟩ (.bool false)).setCell ⟨Z + 1, 1, none⟩ (.slice none 0 0)).setCell ⟨Z + 1, 2, none⟩ (.int .u32 (stN (S.many i) : Nat))).setCell ⟨Z + 1, 3, none⟩ (.slice A n cb)) (Z + 1) 56 #[.bool false, .slice none 0 0, .int .u32 (stN (S.many i) : Nat), .slice A n cb]) := by
        have := (((HR1.out.put 0 (.bool false)).put 1 (.slice none 0 0)).put 2 (.int .u32 (stN (S.many i) : Nat))).put 3 (.slice A n cb)
        unfold Hid; simpa [nilAn] using this
      obtain ⟨wf, hwf⟩ : ∃ wf, wf = (((wr.setCell ⟨Z + 1, 0, none⟩ (.bool false)).setCell ⟨Z + 1, 1, none⟩ (.slice none 0 0)).setCell ⟨Z + 1, 2, none⟩ (.int .u32 (stN (S.many i) : Nat))).setCell ⟨Z + 1, 3, none⟩ (.slice A n cb) := ⟨_, rfl⟩
      have HF : Hid (NxA w wf b T F c (S.many i).told (.agg #[.bool false, .slice none 0 0, .int .u32 (stN (S.many i) : Nat), .slice A n cb]) ⟨false, [], stN (S.many i), (List.range n).map fun k => secL c S ((S.V 0 : Nat) : Int) ((arg + k : Nat) : Int)⟩) := by
        rw [← hwf] at hT9
        have hU : ∀ k ∈ [Z + 1], k ∉ T ∧ k ∉ F := fun k hk => by
          obtain rfl := List.mem_singleton.1 hk
          exact ⟨fun hm => by have := HL.out.1 _ hm; have := HZw.out; omega, fun hm => by have := HL.out.2 _ hm; have := HZw.out; omega⟩
        refine NxA.of (HA1.out.turns hT9 hU) (HT1.out.trans hT9 (fun k hk => .inr (by obtain rfl := List.mem_singleton.1 hk; have := HZw.out; omega))) HL.out.1 ⟨_, _, rfl, BytIs.nil _ _ _, ?_⟩
        have hfar : ∀ {t : TypeId} {A : Option Addr} {m cc : Nat} {xs : List Value}, wr.ownsRow w.heap.size t 1 (.slice A m cc) m xs → t ≠ 56 → wf.ownsRow w.heap.size t 1 (.slice A m cc) m xs := fun {t A m cc xs} ho hne => hT9.own ho (fun g hg hm => by
          obtain rfl := List.mem_singleton.1 hm
          obtain ⟨_, cur, hr⟩ := Vca.own_blk ho (Z + 1) (by
            cases A with
            | none => simp [Value.ownBlock] at hg
            | some a => simp [Value.ownBlock] at hg; simp [Vca.blk]; exact hg.symm)
          exact hr.ne_type HR1.out hne rfl)
        refine ⟨A, cb, us, by simp, by simpa using hfar HO1.out (by decide), by simp, fun j hj => ?_⟩
        simp only [List.length_map, List.length_range] at hj
        obtain ⟨u, h1, A0, n0, rfl, h0, _⟩ := HU1.out j hj
        refine ⟨_, h1, A0, n0, ?_, ?_, by simp⟩
        · simp [List.getD_eq_getElem?_getD, List.getElem?_map, List.getElem?_range hj]
        · have := hfar h0 (by decide)
          simpa [List.getD_eq_getElem?_getD, List.getElem?_map, List.getElem?_range hj] using this
      clear hT9 HA1 HT1 HO1 HU1 HY1 HR1 HIn0
      go_wp2
      rw [← hwf]
      exact bodyPost_ret (v := .agg #[.bool false, .slice none 0 0, .int .u32 (stN (S.many i) : Nat), .slice A n cb]) (results_cell_row rfl _ _ (Z + 1) 56 _ (0, 0) _ rfl (by rw [hwf]; exact HZ9.out) Tryz.underlying56 rfl (by kernel_rfl)) rfl ⟨_, rfl, HF.out⟩
end
end Go.Proofs.YtclhhdodebdmjaaGreat

namespace Go.Proofs.YtclhhdodebdmjaaGreat
open Go.RowKit Go.MapKept Go.ChangeMaps
set_option linter.unusedVariables false
set_option linter.unusedSimpArgs false
set_option maxRecDepth 100000

theorem AnIs.far {w w' : World} {B : Nat} {T U : List Nat} {v : Value} {an : An} (h : AnIs w B T v an) (ht : Turns w w' U) (hU : ∀ k ∈ U, k ∈ T ∨ k < B) : AnIs w' B T v an := by
  have h1 : AnIs w B (U ++ T) v an := h.mono (Nat.le_refl _) (fun k hk => by
    rcases List.mem_append.1 hk with hk | hk
    · exact hU k hk
    · exact .inl hk)
  exact (h1.turns ht (fun k hk => List.mem_append.2 (.inl hk))).mono (Nat.le_refl _) (fun k hk => .inl (List.mem_append.2 (.inr hk)))
section
variable {w w' : World} {b : Bn} {T F : List Nat} {c : Cf} {S S' : Ab} {v : Value} {an : An}
/-- What a function does behind its own part in its own new memory does not touch the card. -/
theorem NxA.out {W : World} (h : NxA W w' b T F c S v an) (hB : Below w.heap.size w W) {U : List Nat} {w'' : World} (ht : Turns w' w'' U) (hU : ∀ k ∈ U, w.heap.size ≤ k ∧ k < W.heap.size) (hT : ∀ k ∈ T, k < w.heap.size) (hF : ∀ k ∈ F, k < w.heap.size) : NxA w w'' b T F c S v an := by
  obtain ⟨b', T', F', h1, h2, h3, h4, h5, h6, h7, h8⟩ := h
  have hs := hB.size
  refine ⟨b', T', F', h1.turns ht (fun k hk => ⟨fun hm => ?_, fun hm => ?_⟩), h2, h3, ((Turns.of_below hB T).trans h4 (fun k hk => .inl hk)).trans ht (fun k hk => .inr (hU k hk).1), h5, fun k hk => ?_, fun k hk => ?_, (h8.far ht (fun k hk => .inr (hU k hk).2)).mono hs (fun k hk => .inl hk)⟩
  · have := hU k hk
    rcases h6 _ hm with hm | hm
    · have := hT _ hm; omega
    · omega
  · have := hU k hk
    rcases h7 _ hm with hm | hm
    · have := hF _ hm; omega
    · omega
  · rcases h6 _ hk with hk | hk
    · exact .inl hk
    · exact .inr (by omega)
  · rcases h7 _ hk with hk | hk
    · exact .inl hk
    · exact .inr (by omega)
theorem NxA.turns (h : NxA w w' b T F c S v an) : Turns w w' T := h.nx.turns
/-- The shape of what is answered. -/
theorem NxA.shape (h : NxA w w' b T F c S v an) : ∃ (k : Bool) (A1 : Option Addr) (n1 c1 : Nat) (n : Int) (A2 : Option Addr) (n2 c2 : Nat), v = .agg #[.bool k, .slice A1 n1 c1, .int .u32 n, .slice A2 n2 c2] := by
  obtain ⟨b', T', F', h1, h2, h3, h4, h5, h6, h7, lv, bv, e, ⟨A1, n1, e1, _⟩, ⟨A2, cb, us, e2, _⟩⟩ := h
  subst e1; subst e2
  exact ⟨_, _, _, _, _, _, _, _, e⟩
/- A command that a function of its own answers. -/
theorem do_read17 (h : AbIs w b T F c S) (arg : Nat) (H : ∀ W, AbIs W b T F c S → Calls Tryz.prog 141 #[.pointer (some ⟨b.E, 0, none⟩), .agg #[.int .i64 17, .int .u32 arg]] W fun e w' => ∃ v, e = .returned v ∧ NxA W w' b T F c S' v an) :
    Calls Tryz.prog 71 #[.pointer (some ⟨b.E, 0, none⟩), .agg #[.int .i64 17, .int .u32 arg]] w fun e w' => ∃ v, e = .returned v ∧ NxA w w' b T F c S' v an := by
  obtain ⟨W, hW⟩ : ∃ W, W = (w.alloc (.cells #[.int .i64 17, .int .u32 arg] 89)).alloc (.cells nilAn 56) := ⟨_, rfl⟩
  obtain ⟨Z, hZ⟩ : ∃ Z, Z = w.heap.size := ⟨_, rfl⟩
  have HBW : Hid (Below w.heap.size w W) := by unfold Hid; rw [hW]; (repeat (first | (with_reducible refine Below.drew ?_) | (with_reducible refine below_drewN0 ?_ _) | ((with_reducible refine Below.setCell ?_ ?_ _); rotate_left; focus (first | omega | (simp; done) | (simp; omega) | (simp at *; omega))) | ((with_reducible refine Below.alloc ?_ ?_ _); rotate_left; focus (first | omega | (simp; done) | (simp; omega) | (simp at *; omega))) | (with_reducible exact Below.refl _ _)))
  have HZ : Hid (Row W Z 89 #[.int .i64 17, .int .u32 arg]) := by unfold Hid; rw [hW, hZ]; exact (Row.fresh _ _ _).alloc _
  have HRr : Hid (Row W (Z + 1) 56 nilAn) := by
    unfold Hid; rw [hW, hZ]
    have := Row.fresh (w.alloc (.cells #[.int .i64 17, .int .u32 arg] 89)) 56 nilAn
    simpa using this
  have hA0 := h.below HBW.out
  have HA0 := Lib.hid hA0
  have HTl := Lib.hid (And.intro h.Tlt h.Flt)
  have HZl : Hid (w.heap.size = Z ∧ Z + 1 < W.heap.size) := ⟨hZ.symm, HRr.out.lt⟩
  have z0 : W.cell? ⟨Z, 0, none⟩ = some (.int .i64 17) := by rw [HZ.out.cell]; rfl
  have z1 : W.cell? ⟨Z, 1, none⟩ = some (.int .u32 arg) := by rw [HZ.out.cell]; rfl
  unfold nilAn at hW
  have HC := Lib.hid (H W hA0)
  clear h hA0 H
  go_enter Tryz.func71, Tryz.ntmps71
  go_wp2_with fail
  rw [← hZ]
  rw [hZ, ← hW, ← hZ]
  clear hW hZ
  refine HC.out.mono ?_
  rintro e w2 ⟨v, rfl, hx⟩
  have HX := Lib.hid hx
  clear hx HC z0 z1
  have HR2 : Hid (Row w2 (Z + 1) 56 nilAn) := HX.out.turns.row HRr.out (fun hm => by have := HTl.out.1 _ hm; have := HZl.out; omega)
  have m0 : w2.cell? ⟨Z + 1, 0, none⟩ = some (.bool false) := by rw [HR2.out.cell]; rfl
  have m1 : w2.cell? ⟨Z + 1, 1, none⟩ = some (.slice none 0 0) := by rw [HR2.out.cell]; rfl
  have m2 : w2.cell? ⟨Z + 1, 2, none⟩ = some (.int .u32 0) := by rw [HR2.out.cell]; rfl
  have m3 : w2.cell? ⟨Z + 1, 3, none⟩ = some (.slice none 0 0) := by rw [HR2.out.cell]; rfl
  have g0 := HR2.out.frozen 0
  have g1 := HR2.out.frozen 1
  have g2 := HR2.out.frozen 2
  have g3 := HR2.out.frozen 3
  obtain ⟨ak, A1, n1, c1, an0, A2, n2, c2, hv⟩ := HX.out.shape
  have hT9 : Turns w2 ((((w2.setCell ⟨Z + 1, 0, none⟩ (.bool ak)).setCell ⟨Z + 1, 1, none⟩ (.slice A1 n1 c1)).setCell ⟨Z + 1, 2, none⟩ (.int .u32 an0)).setCell ⟨Z + 1, 3, none⟩ (.slice A2 n2 c2)) [Z + 1] := ((((Turns.refl _ _).setCell (by simp) _).setCell (by simp) _).setCell (by simp) _).setCell (by simp) _
  have HZ9 : Hid (Row ((((w2.setCell ⟨Z + 1, 0, none⟩ (.bool ak)).setCell ⟨Z + 1, 1, none⟩ (.slice A1 n1 c1)).setCell ⟨Z + 1, 2, none⟩ (.int .u32 an0)).setCell ⟨Z + 1, 3, none⟩ (.slice A2 n2 c2)) (Z + 1) 56 #[.bool ak, .slice A1 n1 c1, .int .u32 an0, .slice A2 n2 c2]) := by
    have := (((HR2.out.put 0 (.bool ak)).put 1 (.slice A1 n1 c1)).put 2 (.int .u32 an0)).put 3 (.slice A2 n2 c2)
    unfold Hid; simpa [nilAn] using this
  have HX9 := Lib.hid (HX.out.out HBW.out hT9 (fun k hk => by obtain rfl := List.mem_singleton.1 hk; have := HZl.out; omega) HTl.out.1 HTl.out.2)
  subst hv
  clear hT9 HR2 HX
  go_wp2
  exact bodyPost_ret (v := .agg #[.bool ak, .slice A1 n1 c1, .int .u32 an0, .slice A2 n2 c2]) (results_cell_row rfl _ _ (Z + 1) 56 _ (0, 0) _ rfl HZ9.out Tryz.underlying56 rfl (by kernel_rfl)) rfl ⟨_, rfl, HX9.out⟩
theorem do_prot28 (h : AbIs w b T F c S) (arg : Nat) (H : ∀ W, AbIs W b T F c S → Calls Tryz.prog 142 #[.pointer (some ⟨b.E, 0, none⟩), .agg #[.int .i64 28, .int .u32 arg]] W fun e w' => ∃ v, e = .returned v ∧ NxA W w' b T F c S' v an) :
    Calls Tryz.prog 71 #[.pointer (some ⟨b.E, 0, none⟩), .agg #[.int .i64 28, .int .u32 arg]] w fun e w' => ∃ v, e = .returned v ∧ NxA w w' b T F c S' v an := by
  obtain ⟨W, hW⟩ : ∃ W, W = (w.alloc (.cells #[.int .i64 28, .int .u32 arg] 89)).alloc (.cells nilAn 56) := ⟨_, rfl⟩
  obtain ⟨Z, hZ⟩ : ∃ Z, Z = w.heap.size := ⟨_, rfl⟩
  have HBW : Hid (Below w.heap.size w W) := by unfold Hid; rw [hW]; (repeat (first | (with_reducible refine Below.drew ?_) | (with_reducible refine below_drewN0 ?_ _) | ((with_reducible refine Below.setCell ?_ ?_ _); rotate_left; focus (first | omega | (simp; done) | (simp; omega) | (simp at *; omega))) | ((with_reducible refine Below.alloc ?_ ?_ _); rotate_left; focus (first | omega | (simp; done) | (simp; omega) | (simp at *; omega))) | (with_reducible exact Below.refl _ _)))
  have HZ : Hid (Row W Z 89 #[.int .i64 28, .int .u32 arg]) := by unfold Hid; rw [hW, hZ]; exact (Row.fresh _ _ _).alloc _
  have HRr : Hid (Row W (Z + 1) 56 nilAn) := by
    unfold Hid; rw [hW, hZ]
    have := Row.fresh (w.alloc (.cells #[.int .i64 28, .int .u32 arg] 89)) 56 nilAn
    simpa using this
  have hA0 := h.below HBW.out
  have HA0 := Lib.hid hA0
  have HTl := Lib.hid (And.intro h.Tlt h.Flt)
  have HZl : Hid (w.heap.size = Z ∧ Z + 1 < W.heap.size) := ⟨hZ.symm, HRr.out.lt⟩
  have z0 : W.cell? ⟨Z, 0, none⟩ = some (.int .i64 28) := by rw [HZ.out.cell]; rfl
  have z1 : W.cell? ⟨Z, 1, none⟩ = some (.int .u32 arg) := by rw [HZ.out.cell]; rfl
  unfold nilAn at hW
  have HC := Lib.hid (H W hA0)
  clear h hA0 H
  go_enter Tryz.func71, Tryz.ntmps71
  go_wp2_with fail
  rw [← hZ]
  rw [hZ, ← hW, ← hZ]
  clear hW hZ
  refine HC.out.mono ?_
  rintro e w2 ⟨v, rfl, hx⟩
  have HX := Lib.hid hx
  clear hx HC z0 z1
  have HR2 : Hid (Row w2 (Z + 1) 56 nilAn) := HX.out.turns.row HRr.out (fun hm => by have := HTl.out.1 _ hm; have := HZl.out; omega)
  have m0 : w2.cell? ⟨Z + 1, 0, none⟩ = some (.bool false) := by rw [HR2.out.cell]; rfl
  have m1 : w2.cell? ⟨Z + 1, 1, none⟩ = some (.slice none 0 0) := by rw [HR2.out.cell]; rfl
  have m2 : w2.cell? ⟨Z + 1, 2, none⟩ = some (.int .u32 0) := by rw [HR2.out.cell]; rfl
  have m3 : w2.cell? ⟨Z + 1, 3, none⟩ = some (.slice none 0 0) := by rw [HR2.out.cell]; rfl
  have g0 := HR2.out.frozen 0
  have g1 := HR2.out.frozen 1
  have g2 := HR2.out.frozen 2
  have g3 := HR2.out.frozen 3
  obtain ⟨ak, A1, n1, c1, an0, A2, n2, c2, hv⟩ := HX.out.shape
  have hT9 : Turns w2 ((((w2.setCell ⟨Z + 1, 0, none⟩ (.bool ak)).setCell ⟨Z + 1, 1, none⟩ (.slice A1 n1 c1)).setCell ⟨Z + 1, 2, none⟩ (.int .u32 an0)).setCell ⟨Z + 1, 3, none⟩ (.slice A2 n2 c2)) [Z + 1] := ((((Turns.refl _ _).setCell (by simp) _).setCell (by simp) _).setCell (by simp) _).setCell (by simp) _
  have HZ9 : Hid (Row ((((w2.setCell ⟨Z + 1, 0, none⟩ (.bool ak)).setCell ⟨Z + 1, 1, none⟩ (.slice A1 n1 c1)).setCell ⟨Z + 1, 2, none⟩ (.int .u32 an0)).setCell ⟨Z + 1, 3, none⟩ (.slice A2 n2 c2)) (Z + 1) 56 #[.bool ak, .slice A1 n1 c1, .int .u32 an0, .slice A2 n2 c2]) := by
    have := (((HR2.out.put 0 (.bool ak)).put 1 (.slice A1 n1 c1)).put 2 (.int .u32 an0)).put 3 (.slice A2 n2 c2)
    unfold Hid; simpa [nilAn] using this
  have HX9 := Lib.hid (HX.out.out HBW.out hT9 (fun k hk => by obtain rfl := List.mem_singleton.1 hk; have := HZl.out; omega) HTl.out.1 HTl.out.2)
  subst hv
  clear hT9 HR2 HX
  go_wp2
  exact bodyPost_ret (v := .agg #[.bool ak, .slice A1 n1 c1, .int .u32 an0, .slice A2 n2 c2]) (results_cell_row rfl _ _ (Z + 1) 56 _ (0, 0) _ rfl HZ9.out Tryz.underlying56 rfl (by kernel_rfl)) rfl ⟨_, rfl, HX9.out⟩
theorem do_prot29 (h : AbIs w b T F c S) (arg : Nat) (H : ∀ W, AbIs W b T F c S → Calls Tryz.prog 142 #[.pointer (some ⟨b.E, 0, none⟩), .agg #[.int .i64 29, .int .u32 arg]] W fun e w' => ∃ v, e = .returned v ∧ NxA W w' b T F c S' v an) :
    Calls Tryz.prog 71 #[.pointer (some ⟨b.E, 0, none⟩), .agg #[.int .i64 29, .int .u32 arg]] w fun e w' => ∃ v, e = .returned v ∧ NxA w w' b T F c S' v an := by
  obtain ⟨W, hW⟩ : ∃ W, W = (w.alloc (.cells #[.int .i64 29, .int .u32 arg] 89)).alloc (.cells nilAn 56) := ⟨_, rfl⟩
  obtain ⟨Z, hZ⟩ : ∃ Z, Z = w.heap.size := ⟨_, rfl⟩
  have HBW : Hid (Below w.heap.size w W) := by unfold Hid; rw [hW]; (repeat (first | (with_reducible refine Below.drew ?_) | (with_reducible refine below_drewN0 ?_ _) | ((with_reducible refine Below.setCell ?_ ?_ _); rotate_left; focus (first | omega | (simp; done) | (simp; omega) | (simp at *; omega))) | ((with_reducible refine Below.alloc ?_ ?_ _); rotate_left; focus (first | omega | (simp; done) | (simp; omega) | (simp at *; omega))) | (with_reducible exact Below.refl _ _)))
  have HZ : Hid (Row W Z 89 #[.int .i64 29, .int .u32 arg]) := by unfold Hid; rw [hW, hZ]; exact (Row.fresh _ _ _).alloc _
  have HRr : Hid (Row W (Z + 1) 56 nilAn) := by
    unfold Hid; rw [hW, hZ]
    have := Row.fresh (w.alloc (.cells #[.int .i64 29, .int .u32 arg] 89)) 56 nilAn
    simpa using this
  have hA0 := h.below HBW.out
  have HA0 := Lib.hid hA0
  have HTl := Lib.hid (And.intro h.Tlt h.Flt)
  have HZl : Hid (w.heap.size = Z ∧ Z + 1 < W.heap.size) := ⟨hZ.symm, HRr.out.lt⟩
  have z0 : W.cell? ⟨Z, 0, none⟩ = some (.int .i64 29) := by rw [HZ.out.cell]; rfl
  have z1 : W.cell? ⟨Z, 1, none⟩ = some (.int .u32 arg) := by rw [HZ.out.cell]; rfl
  unfold nilAn at hW
  have HC := Lib.hid (H W hA0)
  clear h hA0 H
  go_enter Tryz.func71, Tryz.ntmps71
  go_wp2_with fail
  rw [← hZ]
  rw [hZ, ← hW, ← hZ]
  clear hW hZ
  refine HC.out.mono ?_
  rintro e w2 ⟨v, rfl, hx⟩
  have HX := Lib.hid hx
  clear hx HC z0 z1
  have HR2 : Hid (Row w2 (Z + 1) 56 nilAn) := HX.out.turns.row HRr.out (fun hm => by have := HTl.out.1 _ hm; have := HZl.out; omega)
  have m0 : w2.cell? ⟨Z + 1, 0, none⟩ = some (.bool false) := by rw [HR2.out.cell]; rfl
  have m1 : w2.cell? ⟨Z + 1, 1, none⟩ = some (.slice none 0 0) := by rw [HR2.out.cell]; rfl
  have m2 : w2.cell? ⟨Z + 1, 2, none⟩ = some (.int .u32 0) := by rw [HR2.out.cell]; rfl
  have m3 : w2.cell? ⟨Z + 1, 3, none⟩ = some (.slice none 0 0) := by rw [HR2.out.cell]; rfl
  have g0 := HR2.out.frozen 0
  have g1 := HR2.out.frozen 1
  have g2 := HR2.out.frozen 2
  have g3 := HR2.out.frozen 3
  obtain ⟨ak, A1, n1, c1, an0, A2, n2, c2, hv⟩ := HX.out.shape
  have hT9 : Turns w2 ((((w2.setCell ⟨Z + 1, 0, none⟩ (.bool ak)).setCell ⟨Z + 1, 1, none⟩ (.slice A1 n1 c1)).setCell ⟨Z + 1, 2, none⟩ (.int .u32 an0)).setCell ⟨Z + 1, 3, none⟩ (.slice A2 n2 c2)) [Z + 1] := ((((Turns.refl _ _).setCell (by simp) _).setCell (by simp) _).setCell (by simp) _).setCell (by simp) _
  have HZ9 : Hid (Row ((((w2.setCell ⟨Z + 1, 0, none⟩ (.bool ak)).setCell ⟨Z + 1, 1, none⟩ (.slice A1 n1 c1)).setCell ⟨Z + 1, 2, none⟩ (.int .u32 an0)).setCell ⟨Z + 1, 3, none⟩ (.slice A2 n2 c2)) (Z + 1) 56 #[.bool ak, .slice A1 n1 c1, .int .u32 an0, .slice A2 n2 c2]) := by
    have := (((HR2.out.put 0 (.bool ak)).put 1 (.slice A1 n1 c1)).put 2 (.int .u32 an0)).put 3 (.slice A2 n2 c2)
    unfold Hid; simpa [nilAn] using this
  have HX9 := Lib.hid (HX.out.out HBW.out hT9 (fun k hk => by obtain rfl := List.mem_singleton.1 hk; have := HZl.out; omega) HTl.out.1 HTl.out.2)
  subst hv
  clear hT9 HR2 HX
  go_wp2
  exact bodyPost_ret (v := .agg #[.bool ak, .slice A1 n1 c1, .int .u32 an0, .slice A2 n2 c2]) (results_cell_row rfl _ _ (Z + 1) 56 _ (0, 0) _ rfl HZ9.out Tryz.underlying56 rfl (by kernel_rfl)) rfl ⟨_, rfl, HX9.out⟩
/- The word behind a command, in the command's answer. -/
/- A command that a function of its own does, and the word is told. -/
theorem do_change (h : AbIs w b T F c S) (arg : Nat) (H : ∀ W, AbIs W b T F c S → Calls Tryz.prog 143 #[.pointer (some ⟨b.E, 0, none⟩), .int .u32 arg] W fun e w' => e = .returned (.tuple #[]) ∧ Nx W w' b T F c S') :
    Calls Tryz.prog 71 #[.pointer (some ⟨b.E, 0, none⟩), .agg #[.int .i64 6, .int .u32 arg]] w fun e w' => ∃ v, e = .returned v ∧ NxA w w' b T F c S'.told v ⟨false, [], stN S', []⟩ := by
  obtain ⟨W, hW⟩ : ∃ W, W = (w.alloc (.cells #[.int .i64 6, .int .u32 arg] 89)).alloc (.cells nilAn 56) := ⟨_, rfl⟩
  obtain ⟨Z, hZ⟩ : ∃ Z, Z = w.heap.size := ⟨_, rfl⟩
  have HBW : Hid (Below w.heap.size w W) := by unfold Hid; rw [hW]; (repeat (first | (with_reducible refine Below.drew ?_) | (with_reducible refine below_drewN0 ?_ _) | ((with_reducible refine Below.setCell ?_ ?_ _); rotate_left; focus (first | omega | (simp; done) | (simp; omega) | (simp at *; omega))) | ((with_reducible refine Below.alloc ?_ ?_ _); rotate_left; focus (first | omega | (simp; done) | (simp; omega) | (simp at *; omega))) | (with_reducible exact Below.refl _ _)))
  have HZ : Hid (Row W Z 89 #[.int .i64 6, .int .u32 arg]) := by unfold Hid; rw [hW, hZ]; exact (Row.fresh _ _ _).alloc _
  have HRr : Hid (Row W (Z + 1) 56 nilAn) := by
    unfold Hid; rw [hW, hZ]
    have := Row.fresh (w.alloc (.cells #[.int .i64 6, .int .u32 arg] 89)) 56 nilAn
    simpa using this
  have hA0 := h.below HBW.out
  have HA0 := Lib.hid hA0
  have HTl := Lib.hid (And.intro h.Tlt h.Flt)
  have HZl : Hid (w.heap.size = Z ∧ Z + 1 < W.heap.size) := ⟨hZ.symm, HRr.out.lt⟩
  have z0 : W.cell? ⟨Z, 0, none⟩ = some (.int .i64 6) := by rw [HZ.out.cell]; rfl
  have z1 : W.cell? ⟨Z, 1, none⟩ = some (.int .u32 arg) := by rw [HZ.out.cell]; rfl
  unfold nilAn at hW
  have HC := Lib.hid (H W hA0)
  clear h hA0 H
  go_enter Tryz.func71, Tryz.ntmps71
  go_wp2_with fail
  rw [← hZ]
  rw [hZ, ← hW, ← hZ]
  clear hW hZ
  refine HC.out.mono ?_
  rintro e w2 ⟨rfl, hx⟩
  obtain ⟨b2, T2, F2, hA2, hE2, hn2, ht2, hTT2, hTn2, hFn2⟩ := hx
  have HA2 := Lib.hid hA2
  have HP2 := Lib.hid (And.intro hE2 (And.intro hn2 (And.intro ht2 (And.intro hTT2 (And.intro hTn2 hFn2)))))
  have hx : True := trivial
  clear hA2 hn2 ht2 hTT2 hTn2 hFn2 HC
  have HSt := Lib.hid (status_any HA2.out)
  rw [hE2] at HSt
  have HNx := Lib.hid hx
  clear hx z0 z1
  go_wp2_with fail
  refine HSt.out.mono ?_
  rintro e w3 ⟨rfl, hA3, ht3⟩
  have HX : Hid (NxA W w3 b T F c S'.told (.agg #[.bool false, .slice none 0 0, .int .u32 (stN S' : Nat), .slice none 0 0]) ⟨false, [], stN S', []⟩) := by
    have hx : Nx W w3 b T F c S'.told := by
      obtain ⟨hE, hn, hT, hTT, hTn, hFn⟩ := HP2.out
      exact ⟨b2, T2, F2, hA3, hE, hn, hT.trans ht3 (fun k hk => by obtain rfl := List.mem_singleton.1 hk; exact hTn _ (hE ▸ HA2.out.inT _ (by simp [Bn.ts]))), hTT, hTn, hFn⟩
    exact NxA.word hx false _
  clear hA3 ht3 HNx HSt HA2 HP2
  clear w2
  obtain ⟨w2, hw2⟩ : ∃ w2, w2 = w3 := ⟨_, rfl⟩
  subst hw2
  obtain ⟨v, hvv⟩ : ∃ v, v = Value.agg #[.bool false, .slice none 0 0, .int .u32 (stN S' : Nat), .slice none 0 0] := ⟨_, rfl⟩
  rw [← hvv] at HX ⊢
  clear hvv
  have HR2 : Hid (Row w2 (Z + 1) 56 nilAn) := HX.out.turns.row HRr.out (fun hm => by have := HTl.out.1 _ hm; have := HZl.out; omega)
  have m0 : w2.cell? ⟨Z + 1, 0, none⟩ = some (.bool false) := by rw [HR2.out.cell]; rfl
  have m1 : w2.cell? ⟨Z + 1, 1, none⟩ = some (.slice none 0 0) := by rw [HR2.out.cell]; rfl
  have m2 : w2.cell? ⟨Z + 1, 2, none⟩ = some (.int .u32 0) := by rw [HR2.out.cell]; rfl
  have m3 : w2.cell? ⟨Z + 1, 3, none⟩ = some (.slice none 0 0) := by rw [HR2.out.cell]; rfl
  have g0 := HR2.out.frozen 0
  have g1 := HR2.out.frozen 1
  have g2 := HR2.out.frozen 2
  have g3 := HR2.out.frozen 3
  obtain ⟨ak, A1, n1, c1, an0, A2, n2, c2, hv⟩ := HX.out.shape
  have hT9 : Turns w2 ((((w2.setCell ⟨Z + 1, 0, none⟩ (.bool ak)).setCell ⟨Z + 1, 1, none⟩ (.slice A1 n1 c1)).setCell ⟨Z + 1, 2, none⟩ (.int .u32 an0)).setCell ⟨Z + 1, 3, none⟩ (.slice A2 n2 c2)) [Z + 1] := ((((Turns.refl _ _).setCell (by simp) _).setCell (by simp) _).setCell (by simp) _).setCell (by simp) _
  have HZ9 : Hid (Row ((((w2.setCell ⟨Z + 1, 0, none⟩ (.bool ak)).setCell ⟨Z + 1, 1, none⟩ (.slice A1 n1 c1)).setCell ⟨Z + 1, 2, none⟩ (.int .u32 an0)).setCell ⟨Z + 1, 3, none⟩ (.slice A2 n2 c2)) (Z + 1) 56 #[.bool ak, .slice A1 n1 c1, .int .u32 an0, .slice A2 n2 c2]) := by
    have := (((HR2.out.put 0 (.bool ak)).put 1 (.slice A1 n1 c1)).put 2 (.int .u32 an0)).put 3 (.slice A2 n2 c2)
    unfold Hid; simpa [nilAn] using this
  have HX9 := Lib.hid (HX.out.out HBW.out hT9 (fun k hk => by obtain rfl := List.mem_singleton.1 hk; have := HZl.out; omega) HTl.out.1 HTl.out.2)
  subst hv
  clear hT9 HR2 HX
  go_wp2
  exact bodyPost_ret (v := .agg #[.bool ak, .slice A1 n1 c1, .int .u32 an0, .slice A2 n2 c2]) (results_cell_row rfl _ _ (Z + 1) 56 _ (0, 0) _ rfl HZ9.out Tryz.underlying56 rfl (by kernel_rfl)) rfl ⟨_, rfl, HX9.out⟩
theorem do_write24 (h : AbIs w b T F c S) (arg : Nat) (H : ∀ W, AbIs W b T F c S → Calls Tryz.prog 145 #[.pointer (some ⟨b.E, 0, none⟩), .agg #[.int .i64 24, .int .u32 arg]] W fun e w' => e = .returned (.tuple #[]) ∧ Nx W w' b T F c S') :
    Calls Tryz.prog 71 #[.pointer (some ⟨b.E, 0, none⟩), .agg #[.int .i64 24, .int .u32 arg]] w fun e w' => ∃ v, e = .returned v ∧ NxA w w' b T F c S'.told v ⟨false, [], stN S', []⟩ := by
  obtain ⟨W, hW⟩ : ∃ W, W = (w.alloc (.cells #[.int .i64 24, .int .u32 arg] 89)).alloc (.cells nilAn 56) := ⟨_, rfl⟩
  obtain ⟨Z, hZ⟩ : ∃ Z, Z = w.heap.size := ⟨_, rfl⟩
  have HBW : Hid (Below w.heap.size w W) := by unfold Hid; rw [hW]; (repeat (first | (with_reducible refine Below.drew ?_) | (with_reducible refine below_drewN0 ?_ _) | ((with_reducible refine Below.setCell ?_ ?_ _); rotate_left; focus (first | omega | (simp; done) | (simp; omega) | (simp at *; omega))) | ((with_reducible refine Below.alloc ?_ ?_ _); rotate_left; focus (first | omega | (simp; done) | (simp; omega) | (simp at *; omega))) | (with_reducible exact Below.refl _ _)))
  have HZ : Hid (Row W Z 89 #[.int .i64 24, .int .u32 arg]) := by unfold Hid; rw [hW, hZ]; exact (Row.fresh _ _ _).alloc _
  have HRr : Hid (Row W (Z + 1) 56 nilAn) := by
    unfold Hid; rw [hW, hZ]
    have := Row.fresh (w.alloc (.cells #[.int .i64 24, .int .u32 arg] 89)) 56 nilAn
    simpa using this
  have hA0 := h.below HBW.out
  have HA0 := Lib.hid hA0
  have HTl := Lib.hid (And.intro h.Tlt h.Flt)
  have HZl : Hid (w.heap.size = Z ∧ Z + 1 < W.heap.size) := ⟨hZ.symm, HRr.out.lt⟩
  have z0 : W.cell? ⟨Z, 0, none⟩ = some (.int .i64 24) := by rw [HZ.out.cell]; rfl
  have z1 : W.cell? ⟨Z, 1, none⟩ = some (.int .u32 arg) := by rw [HZ.out.cell]; rfl
  unfold nilAn at hW
  have HC := Lib.hid (H W hA0)
  clear h hA0 H
  go_enter Tryz.func71, Tryz.ntmps71
  go_wp2_with fail
  rw [← hZ]
  rw [hZ, ← hW, ← hZ]
  clear hW hZ
  refine HC.out.mono ?_
  rintro e w2 ⟨rfl, hx⟩
  obtain ⟨b2, T2, F2, hA2, hE2, hn2, ht2, hTT2, hTn2, hFn2⟩ := hx
  have HA2 := Lib.hid hA2
  have HP2 := Lib.hid (And.intro hE2 (And.intro hn2 (And.intro ht2 (And.intro hTT2 (And.intro hTn2 hFn2)))))
  have hx : True := trivial
  clear hA2 hn2 ht2 hTT2 hTn2 hFn2 HC
  have HSt := Lib.hid (status_any HA2.out)
  rw [hE2] at HSt
  have HNx := Lib.hid hx
  clear hx z0 z1
  go_wp2_with fail
  refine HSt.out.mono ?_
  rintro e w3 ⟨rfl, hA3, ht3⟩
  have HX : Hid (NxA W w3 b T F c S'.told (.agg #[.bool false, .slice none 0 0, .int .u32 (stN S' : Nat), .slice none 0 0]) ⟨false, [], stN S', []⟩) := by
    have hx : Nx W w3 b T F c S'.told := by
      obtain ⟨hE, hn, hT, hTT, hTn, hFn⟩ := HP2.out
      exact ⟨b2, T2, F2, hA3, hE, hn, hT.trans ht3 (fun k hk => by obtain rfl := List.mem_singleton.1 hk; exact hTn _ (hE ▸ HA2.out.inT _ (by simp [Bn.ts]))), hTT, hTn, hFn⟩
    exact NxA.word hx false _
  clear hA3 ht3 HNx HSt HA2 HP2
  clear w2
  obtain ⟨w2, hw2⟩ : ∃ w2, w2 = w3 := ⟨_, rfl⟩
  subst hw2
  obtain ⟨v, hvv⟩ : ∃ v, v = Value.agg #[.bool false, .slice none 0 0, .int .u32 (stN S' : Nat), .slice none 0 0] := ⟨_, rfl⟩
  rw [← hvv] at HX ⊢
  clear hvv
  have HR2 : Hid (Row w2 (Z + 1) 56 nilAn) := HX.out.turns.row HRr.out (fun hm => by have := HTl.out.1 _ hm; have := HZl.out; omega)
  have m0 : w2.cell? ⟨Z + 1, 0, none⟩ = some (.bool false) := by rw [HR2.out.cell]; rfl
  have m1 : w2.cell? ⟨Z + 1, 1, none⟩ = some (.slice none 0 0) := by rw [HR2.out.cell]; rfl
  have m2 : w2.cell? ⟨Z + 1, 2, none⟩ = some (.int .u32 0) := by rw [HR2.out.cell]; rfl
  have m3 : w2.cell? ⟨Z + 1, 3, none⟩ = some (.slice none 0 0) := by rw [HR2.out.cell]; rfl
  have g0 := HR2.out.frozen 0
  have g1 := HR2.out.frozen 1
  have g2 := HR2.out.frozen 2
  have g3 := HR2.out.frozen 3
  obtain ⟨ak, A1, n1, c1, an0, A2, n2, c2, hv⟩ := HX.out.shape
  have hT9 : Turns w2 ((((w2.setCell ⟨Z + 1, 0, none⟩ (.bool ak)).setCell ⟨Z + 1, 1, none⟩ (.slice A1 n1 c1)).setCell ⟨Z + 1, 2, none⟩ (.int .u32 an0)).setCell ⟨Z + 1, 3, none⟩ (.slice A2 n2 c2)) [Z + 1] := ((((Turns.refl _ _).setCell (by simp) _).setCell (by simp) _).setCell (by simp) _).setCell (by simp) _
  have HZ9 : Hid (Row ((((w2.setCell ⟨Z + 1, 0, none⟩ (.bool ak)).setCell ⟨Z + 1, 1, none⟩ (.slice A1 n1 c1)).setCell ⟨Z + 1, 2, none⟩ (.int .u32 an0)).setCell ⟨Z + 1, 3, none⟩ (.slice A2 n2 c2)) (Z + 1) 56 #[.bool ak, .slice A1 n1 c1, .int .u32 an0, .slice A2 n2 c2]) := by
    have := (((HR2.out.put 0 (.bool ak)).put 1 (.slice A1 n1 c1)).put 2 (.int .u32 an0)).put 3 (.slice A2 n2 c2)
    unfold Hid; simpa [nilAn] using this
  have HX9 := Lib.hid (HX.out.out HBW.out hT9 (fun k hk => by obtain rfl := List.mem_singleton.1 hk; have := HZl.out; omega) HTl.out.1 HTl.out.2)
  subst hv
  clear hT9 HR2 HX
  go_wp2
  exact bodyPost_ret (v := .agg #[.bool ak, .slice A1 n1 c1, .int .u32 an0, .slice A2 n2 c2]) (results_cell_row rfl _ _ (Z + 1) 56 _ (0, 0) _ rfl HZ9.out Tryz.underlying56 rfl (by kernel_rfl)) rfl ⟨_, rfl, HX9.out⟩
theorem do_erase35 (h : AbIs w b T F c S) (arg : Nat) (H : ∀ W, AbIs W b T F c S → Calls Tryz.prog 146 #[.pointer (some ⟨b.E, 0, none⟩), .agg #[.int .i64 35, .int .u32 arg]] W fun e w' => e = .returned (.tuple #[]) ∧ Nx W w' b T F c S') :
    Calls Tryz.prog 71 #[.pointer (some ⟨b.E, 0, none⟩), .agg #[.int .i64 35, .int .u32 arg]] w fun e w' => ∃ v, e = .returned v ∧ NxA w w' b T F c S'.told v ⟨false, [], stN S', []⟩ := by
  obtain ⟨W, hW⟩ : ∃ W, W = (w.alloc (.cells #[.int .i64 35, .int .u32 arg] 89)).alloc (.cells nilAn 56) := ⟨_, rfl⟩
  obtain ⟨Z, hZ⟩ : ∃ Z, Z = w.heap.size := ⟨_, rfl⟩
  have HBW : Hid (Below w.heap.size w W) := by unfold Hid; rw [hW]; (repeat (first | (with_reducible refine Below.drew ?_) | (with_reducible refine below_drewN0 ?_ _) | ((with_reducible refine Below.setCell ?_ ?_ _); rotate_left; focus (first | omega | (simp; done) | (simp; omega) | (simp at *; omega))) | ((with_reducible refine Below.alloc ?_ ?_ _); rotate_left; focus (first | omega | (simp; done) | (simp; omega) | (simp at *; omega))) | (with_reducible exact Below.refl _ _)))
  have HZ : Hid (Row W Z 89 #[.int .i64 35, .int .u32 arg]) := by unfold Hid; rw [hW, hZ]; exact (Row.fresh _ _ _).alloc _
  have HRr : Hid (Row W (Z + 1) 56 nilAn) := by
    unfold Hid; rw [hW, hZ]
    have := Row.fresh (w.alloc (.cells #[.int .i64 35, .int .u32 arg] 89)) 56 nilAn
    simpa using this
  have hA0 := h.below HBW.out
  have HA0 := Lib.hid hA0
  have HTl := Lib.hid (And.intro h.Tlt h.Flt)
  have HZl : Hid (w.heap.size = Z ∧ Z + 1 < W.heap.size) := ⟨hZ.symm, HRr.out.lt⟩
  have z0 : W.cell? ⟨Z, 0, none⟩ = some (.int .i64 35) := by rw [HZ.out.cell]; rfl
  have z1 : W.cell? ⟨Z, 1, none⟩ = some (.int .u32 arg) := by rw [HZ.out.cell]; rfl
  unfold nilAn at hW
  have HC := Lib.hid (H W hA0)
  clear h hA0 H
  go_enter Tryz.func71, Tryz.ntmps71
  go_wp2_with fail
  rw [← hZ]
  rw [hZ, ← hW, ← hZ]
  clear hW hZ
  refine HC.out.mono ?_
  rintro e w2 ⟨rfl, hx⟩
  obtain ⟨b2, T2, F2, hA2, hE2, hn2, ht2, hTT2, hTn2, hFn2⟩ := hx
  have HA2 := Lib.hid hA2
  have HP2 := Lib.hid (And.intro hE2 (And.intro hn2 (And.intro ht2 (And.intro hTT2 (And.intro hTn2 hFn2)))))
  have hx : True := trivial
  clear hA2 hn2 ht2 hTT2 hTn2 hFn2 HC
  have HSt := Lib.hid (status_any HA2.out)
  rw [hE2] at HSt
  have HNx := Lib.hid hx
  clear hx z0 z1
  go_wp2_with fail
  refine HSt.out.mono ?_
  rintro e w3 ⟨rfl, hA3, ht3⟩
  have HX : Hid (NxA W w3 b T F c S'.told (.agg #[.bool false, .slice none 0 0, .int .u32 (stN S' : Nat), .slice none 0 0]) ⟨false, [], stN S', []⟩) := by
    have hx : Nx W w3 b T F c S'.told := by
      obtain ⟨hE, hn, hT, hTT, hTn, hFn⟩ := HP2.out
      exact ⟨b2, T2, F2, hA3, hE, hn, hT.trans ht3 (fun k hk => by obtain rfl := List.mem_singleton.1 hk; exact hTn _ (hE ▸ HA2.out.inT _ (by simp [Bn.ts]))), hTT, hTn, hFn⟩
    exact NxA.word hx false _
  clear hA3 ht3 HNx HSt HA2 HP2
  clear w2
  obtain ⟨w2, hw2⟩ : ∃ w2, w2 = w3 := ⟨_, rfl⟩
  subst hw2
  obtain ⟨v, hvv⟩ : ∃ v, v = Value.agg #[.bool false, .slice none 0 0, .int .u32 (stN S' : Nat), .slice none 0 0] := ⟨_, rfl⟩
  rw [← hvv] at HX ⊢
  clear hvv
  have HR2 : Hid (Row w2 (Z + 1) 56 nilAn) := HX.out.turns.row HRr.out (fun hm => by have := HTl.out.1 _ hm; have := HZl.out; omega)
  have m0 : w2.cell? ⟨Z + 1, 0, none⟩ = some (.bool false) := by rw [HR2.out.cell]; rfl
  have m1 : w2.cell? ⟨Z + 1, 1, none⟩ = some (.slice none 0 0) := by rw [HR2.out.cell]; rfl
  have m2 : w2.cell? ⟨Z + 1, 2, none⟩ = some (.int .u32 0) := by rw [HR2.out.cell]; rfl
  have m3 : w2.cell? ⟨Z + 1, 3, none⟩ = some (.slice none 0 0) := by rw [HR2.out.cell]; rfl
  have g0 := HR2.out.frozen 0
  have g1 := HR2.out.frozen 1
  have g2 := HR2.out.frozen 2
  have g3 := HR2.out.frozen 3
  obtain ⟨ak, A1, n1, c1, an0, A2, n2, c2, hv⟩ := HX.out.shape
  have hT9 : Turns w2 ((((w2.setCell ⟨Z + 1, 0, none⟩ (.bool ak)).setCell ⟨Z + 1, 1, none⟩ (.slice A1 n1 c1)).setCell ⟨Z + 1, 2, none⟩ (.int .u32 an0)).setCell ⟨Z + 1, 3, none⟩ (.slice A2 n2 c2)) [Z + 1] := ((((Turns.refl _ _).setCell (by simp) _).setCell (by simp) _).setCell (by simp) _).setCell (by simp) _
  have HZ9 : Hid (Row ((((w2.setCell ⟨Z + 1, 0, none⟩ (.bool ak)).setCell ⟨Z + 1, 1, none⟩ (.slice A1 n1 c1)).setCell ⟨Z + 1, 2, none⟩ (.int .u32 an0)).setCell ⟨Z + 1, 3, none⟩ (.slice A2 n2 c2)) (Z + 1) 56 #[.bool ak, .slice A1 n1 c1, .int .u32 an0, .slice A2 n2 c2]) := by
    have := (((HR2.out.put 0 (.bool ak)).put 1 (.slice A1 n1 c1)).put 2 (.int .u32 an0)).put 3 (.slice A2 n2 c2)
    unfold Hid; simpa [nilAn] using this
  have HX9 := Lib.hid (HX.out.out HBW.out hT9 (fun k hk => by obtain rfl := List.mem_singleton.1 hk; have := HZl.out; omega) HTl.out.1 HTl.out.2)
  subst hv
  clear hT9 HR2 HX
  go_wp2
  exact bodyPost_ret (v := .agg #[.bool ak, .slice A1 n1 c1, .int .u32 an0, .slice A2 n2 c2]) (results_cell_row rfl _ _ (Z + 1) 56 _ (0, 0) _ rfl HZ9.out Tryz.underlying56 rfl (by kernel_rfl)) rfl ⟨_, rfl, HX9.out⟩
theorem do_erase36 (h : AbIs w b T F c S) (arg : Nat) (H : ∀ W, AbIs W b T F c S → Calls Tryz.prog 146 #[.pointer (some ⟨b.E, 0, none⟩), .agg #[.int .i64 36, .int .u32 arg]] W fun e w' => e = .returned (.tuple #[]) ∧ Nx W w' b T F c S') :
    Calls Tryz.prog 71 #[.pointer (some ⟨b.E, 0, none⟩), .agg #[.int .i64 36, .int .u32 arg]] w fun e w' => ∃ v, e = .returned v ∧ NxA w w' b T F c S'.told v ⟨false, [], stN S', []⟩ := by
  obtain ⟨W, hW⟩ : ∃ W, W = (w.alloc (.cells #[.int .i64 36, .int .u32 arg] 89)).alloc (.cells nilAn 56) := ⟨_, rfl⟩
  obtain ⟨Z, hZ⟩ : ∃ Z, Z = w.heap.size := ⟨_, rfl⟩
  have HBW : Hid (Below w.heap.size w W) := by unfold Hid; rw [hW]; (repeat (first | (with_reducible refine Below.drew ?_) | (with_reducible refine below_drewN0 ?_ _) | ((with_reducible refine Below.setCell ?_ ?_ _); rotate_left; focus (first | omega | (simp; done) | (simp; omega) | (simp at *; omega))) | ((with_reducible refine Below.alloc ?_ ?_ _); rotate_left; focus (first | omega | (simp; done) | (simp; omega) | (simp at *; omega))) | (with_reducible exact Below.refl _ _)))
  have HZ : Hid (Row W Z 89 #[.int .i64 36, .int .u32 arg]) := by unfold Hid; rw [hW, hZ]; exact (Row.fresh _ _ _).alloc _
  have HRr : Hid (Row W (Z + 1) 56 nilAn) := by
    unfold Hid; rw [hW, hZ]
    have := Row.fresh (w.alloc (.cells #[.int .i64 36, .int .u32 arg] 89)) 56 nilAn
    simpa using this
  have hA0 := h.below HBW.out
  have HA0 := Lib.hid hA0
  have HTl := Lib.hid (And.intro h.Tlt h.Flt)
  have HZl : Hid (w.heap.size = Z ∧ Z + 1 < W.heap.size) := ⟨hZ.symm, HRr.out.lt⟩
  have z0 : W.cell? ⟨Z, 0, none⟩ = some (.int .i64 36) := by rw [HZ.out.cell]; rfl
  have z1 : W.cell? ⟨Z, 1, none⟩ = some (.int .u32 arg) := by rw [HZ.out.cell]; rfl
  unfold nilAn at hW
  have HC := Lib.hid (H W hA0)
  clear h hA0 H
  go_enter Tryz.func71, Tryz.ntmps71
  go_wp2_with fail
  rw [← hZ]
  rw [hZ, ← hW, ← hZ]
  clear hW hZ
  refine HC.out.mono ?_
  rintro e w2 ⟨rfl, hx⟩
  obtain ⟨b2, T2, F2, hA2, hE2, hn2, ht2, hTT2, hTn2, hFn2⟩ := hx
  have HA2 := Lib.hid hA2
  have HP2 := Lib.hid (And.intro hE2 (And.intro hn2 (And.intro ht2 (And.intro hTT2 (And.intro hTn2 hFn2)))))
  have hx : True := trivial
  clear hA2 hn2 ht2 hTT2 hTn2 hFn2 HC
  have HSt := Lib.hid (status_any HA2.out)
  rw [hE2] at HSt
  have HNx := Lib.hid hx
  clear hx z0 z1
  go_wp2_with fail
  refine HSt.out.mono ?_
  rintro e w3 ⟨rfl, hA3, ht3⟩
  have HX : Hid (NxA W w3 b T F c S'.told (.agg #[.bool false, .slice none 0 0, .int .u32 (stN S' : Nat), .slice none 0 0]) ⟨false, [], stN S', []⟩) := by
    have hx : Nx W w3 b T F c S'.told := by
      obtain ⟨hE, hn, hT, hTT, hTn, hFn⟩ := HP2.out
      exact ⟨b2, T2, F2, hA3, hE, hn, hT.trans ht3 (fun k hk => by obtain rfl := List.mem_singleton.1 hk; exact hTn _ (hE ▸ HA2.out.inT _ (by simp [Bn.ts]))), hTT, hTn, hFn⟩
    exact NxA.word hx false _
  clear hA3 ht3 HNx HSt HA2 HP2
  clear w2
  obtain ⟨w2, hw2⟩ : ∃ w2, w2 = w3 := ⟨_, rfl⟩
  subst hw2
  obtain ⟨v, hvv⟩ : ∃ v, v = Value.agg #[.bool false, .slice none 0 0, .int .u32 (stN S' : Nat), .slice none 0 0] := ⟨_, rfl⟩
  rw [← hvv] at HX ⊢
  clear hvv
  have HR2 : Hid (Row w2 (Z + 1) 56 nilAn) := HX.out.turns.row HRr.out (fun hm => by have := HTl.out.1 _ hm; have := HZl.out; omega)
  have m0 : w2.cell? ⟨Z + 1, 0, none⟩ = some (.bool false) := by rw [HR2.out.cell]; rfl
  have m1 : w2.cell? ⟨Z + 1, 1, none⟩ = some (.slice none 0 0) := by rw [HR2.out.cell]; rfl
  have m2 : w2.cell? ⟨Z + 1, 2, none⟩ = some (.int .u32 0) := by rw [HR2.out.cell]; rfl
  have m3 : w2.cell? ⟨Z + 1, 3, none⟩ = some (.slice none 0 0) := by rw [HR2.out.cell]; rfl
  have g0 := HR2.out.frozen 0
  have g1 := HR2.out.frozen 1
  have g2 := HR2.out.frozen 2
  have g3 := HR2.out.frozen 3
  obtain ⟨ak, A1, n1, c1, an0, A2, n2, c2, hv⟩ := HX.out.shape
  have hT9 : Turns w2 ((((w2.setCell ⟨Z + 1, 0, none⟩ (.bool ak)).setCell ⟨Z + 1, 1, none⟩ (.slice A1 n1 c1)).setCell ⟨Z + 1, 2, none⟩ (.int .u32 an0)).setCell ⟨Z + 1, 3, none⟩ (.slice A2 n2 c2)) [Z + 1] := ((((Turns.refl _ _).setCell (by simp) _).setCell (by simp) _).setCell (by simp) _).setCell (by simp) _
  have HZ9 : Hid (Row ((((w2.setCell ⟨Z + 1, 0, none⟩ (.bool ak)).setCell ⟨Z + 1, 1, none⟩ (.slice A1 n1 c1)).setCell ⟨Z + 1, 2, none⟩ (.int .u32 an0)).setCell ⟨Z + 1, 3, none⟩ (.slice A2 n2 c2)) (Z + 1) 56 #[.bool ak, .slice A1 n1 c1, .int .u32 an0, .slice A2 n2 c2]) := by
    have := (((HR2.out.put 0 (.bool ak)).put 1 (.slice A1 n1 c1)).put 2 (.int .u32 an0)).put 3 (.slice A2 n2 c2)
    unfold Hid; simpa [nilAn] using this
  have HX9 := Lib.hid (HX.out.out HBW.out hT9 (fun k hk => by obtain rfl := List.mem_singleton.1 hk; have := HZl.out; omega) HTl.out.1 HTl.out.2)
  subst hv
  clear hT9 HR2 HX
  go_wp2
  exact bodyPost_ret (v := .agg #[.bool ak, .slice A1 n1 c1, .int .u32 an0, .slice A2 n2 c2]) (results_cell_row rfl _ _ (Z + 1) 56 _ (0, 0) _ rfl HZ9.out Tryz.underlying56 rfl (by kernel_rfl)) rfl ⟨_, rfl, HX9.out⟩
theorem do_erase38 (h : AbIs w b T F c S) (arg : Nat) (H : ∀ W, AbIs W b T F c S → Calls Tryz.prog 146 #[.pointer (some ⟨b.E, 0, none⟩), .agg #[.int .i64 38, .int .u32 arg]] W fun e w' => e = .returned (.tuple #[]) ∧ Nx W w' b T F c S') :
    Calls Tryz.prog 71 #[.pointer (some ⟨b.E, 0, none⟩), .agg #[.int .i64 38, .int .u32 arg]] w fun e w' => ∃ v, e = .returned v ∧ NxA w w' b T F c S'.told v ⟨false, [], stN S', []⟩ := by
  obtain ⟨W, hW⟩ : ∃ W, W = (w.alloc (.cells #[.int .i64 38, .int .u32 arg] 89)).alloc (.cells nilAn 56) := ⟨_, rfl⟩
  obtain ⟨Z, hZ⟩ : ∃ Z, Z = w.heap.size := ⟨_, rfl⟩
  have HBW : Hid (Below w.heap.size w W) := by unfold Hid; rw [hW]; (repeat (first | (with_reducible refine Below.drew ?_) | (with_reducible refine below_drewN0 ?_ _) | ((with_reducible refine Below.setCell ?_ ?_ _); rotate_left; focus (first | omega | (simp; done) | (simp; omega) | (simp at *; omega))) | ((with_reducible refine Below.alloc ?_ ?_ _); rotate_left; focus (first | omega | (simp; done) | (simp; omega) | (simp at *; omega))) | (with_reducible exact Below.refl _ _)))
  have HZ : Hid (Row W Z 89 #[.int .i64 38, .int .u32 arg]) := by unfold Hid; rw [hW, hZ]; exact (Row.fresh _ _ _).alloc _
  have HRr : Hid (Row W (Z + 1) 56 nilAn) := by
    unfold Hid; rw [hW, hZ]
    have := Row.fresh (w.alloc (.cells #[.int .i64 38, .int .u32 arg] 89)) 56 nilAn
    simpa using this
  have hA0 := h.below HBW.out
  have HA0 := Lib.hid hA0
  have HTl := Lib.hid (And.intro h.Tlt h.Flt)
  have HZl : Hid (w.heap.size = Z ∧ Z + 1 < W.heap.size) := ⟨hZ.symm, HRr.out.lt⟩
  have z0 : W.cell? ⟨Z, 0, none⟩ = some (.int .i64 38) := by rw [HZ.out.cell]; rfl
  have z1 : W.cell? ⟨Z, 1, none⟩ = some (.int .u32 arg) := by rw [HZ.out.cell]; rfl
  unfold nilAn at hW
  have HC := Lib.hid (H W hA0)
  clear h hA0 H
  go_enter Tryz.func71, Tryz.ntmps71
  go_wp2_with fail
  rw [← hZ]
  rw [hZ, ← hW, ← hZ]
  clear hW hZ
  refine HC.out.mono ?_
  rintro e w2 ⟨rfl, hx⟩
  obtain ⟨b2, T2, F2, hA2, hE2, hn2, ht2, hTT2, hTn2, hFn2⟩ := hx
  have HA2 := Lib.hid hA2
  have HP2 := Lib.hid (And.intro hE2 (And.intro hn2 (And.intro ht2 (And.intro hTT2 (And.intro hTn2 hFn2)))))
  have hx : True := trivial
  clear hA2 hn2 ht2 hTT2 hTn2 hFn2 HC
  have HSt := Lib.hid (status_any HA2.out)
  rw [hE2] at HSt
  have HNx := Lib.hid hx
  clear hx z0 z1
  go_wp2_with fail
  refine HSt.out.mono ?_
  rintro e w3 ⟨rfl, hA3, ht3⟩
  have HX : Hid (NxA W w3 b T F c S'.told (.agg #[.bool false, .slice none 0 0, .int .u32 (stN S' : Nat), .slice none 0 0]) ⟨false, [], stN S', []⟩) := by
    have hx : Nx W w3 b T F c S'.told := by
      obtain ⟨hE, hn, hT, hTT, hTn, hFn⟩ := HP2.out
      exact ⟨b2, T2, F2, hA3, hE, hn, hT.trans ht3 (fun k hk => by obtain rfl := List.mem_singleton.1 hk; exact hTn _ (hE ▸ HA2.out.inT _ (by simp [Bn.ts]))), hTT, hTn, hFn⟩
    exact NxA.word hx false _
  clear hA3 ht3 HNx HSt HA2 HP2
  clear w2
  obtain ⟨w2, hw2⟩ : ∃ w2, w2 = w3 := ⟨_, rfl⟩
  subst hw2
  obtain ⟨v, hvv⟩ : ∃ v, v = Value.agg #[.bool false, .slice none 0 0, .int .u32 (stN S' : Nat), .slice none 0 0] := ⟨_, rfl⟩
  rw [← hvv] at HX ⊢
  clear hvv
  have HR2 : Hid (Row w2 (Z + 1) 56 nilAn) := HX.out.turns.row HRr.out (fun hm => by have := HTl.out.1 _ hm; have := HZl.out; omega)
  have m0 : w2.cell? ⟨Z + 1, 0, none⟩ = some (.bool false) := by rw [HR2.out.cell]; rfl
  have m1 : w2.cell? ⟨Z + 1, 1, none⟩ = some (.slice none 0 0) := by rw [HR2.out.cell]; rfl
  have m2 : w2.cell? ⟨Z + 1, 2, none⟩ = some (.int .u32 0) := by rw [HR2.out.cell]; rfl
  have m3 : w2.cell? ⟨Z + 1, 3, none⟩ = some (.slice none 0 0) := by rw [HR2.out.cell]; rfl
  have g0 := HR2.out.frozen 0
  have g1 := HR2.out.frozen 1
  have g2 := HR2.out.frozen 2
  have g3 := HR2.out.frozen 3
  obtain ⟨ak, A1, n1, c1, an0, A2, n2, c2, hv⟩ := HX.out.shape
  have hT9 : Turns w2 ((((w2.setCell ⟨Z + 1, 0, none⟩ (.bool ak)).setCell ⟨Z + 1, 1, none⟩ (.slice A1 n1 c1)).setCell ⟨Z + 1, 2, none⟩ (.int .u32 an0)).setCell ⟨Z + 1, 3, none⟩ (.slice A2 n2 c2)) [Z + 1] := ((((Turns.refl _ _).setCell (by simp) _).setCell (by simp) _).setCell (by simp) _).setCell (by simp) _
  have HZ9 : Hid (Row ((((w2.setCell ⟨Z + 1, 0, none⟩ (.bool ak)).setCell ⟨Z + 1, 1, none⟩ (.slice A1 n1 c1)).setCell ⟨Z + 1, 2, none⟩ (.int .u32 an0)).setCell ⟨Z + 1, 3, none⟩ (.slice A2 n2 c2)) (Z + 1) 56 #[.bool ak, .slice A1 n1 c1, .int .u32 an0, .slice A2 n2 c2]) := by
    have := (((HR2.out.put 0 (.bool ak)).put 1 (.slice A1 n1 c1)).put 2 (.int .u32 an0)).put 3 (.slice A2 n2 c2)
    unfold Hid; simpa [nilAn] using this
  have HX9 := Lib.hid (HX.out.out HBW.out hT9 (fun k hk => by obtain rfl := List.mem_singleton.1 hk; have := HZl.out; omega) HTl.out.1 HTl.out.2)
  subst hv
  clear hT9 HR2 HX
  go_wp2
  exact bodyPost_ret (v := .agg #[.bool ak, .slice A1 n1 c1, .int .u32 an0, .slice A2 n2 c2]) (results_cell_row rfl _ _ (Z + 1) 56 _ (0, 0) _ rfl HZ9.out Tryz.underlying56 rfl (by kernel_rfl)) rfl ⟨_, rfl, HX9.out⟩
/- A command of the states alone. -/
theorem do_else3 (h : AbIs w b T F c S) (arg : Nat) :
    Calls Tryz.prog 71 #[.pointer (some ⟨b.E, 0, none⟩), .agg #[.int .i64 3, .int .u32 arg]] w fun e w' => ∃ v, e = .returned v ∧ NxA w w' b T F c S.told v ⟨false, [], stN S, []⟩ := by
  obtain ⟨W, hW⟩ : ∃ W, W = (w.alloc (.cells #[.int .i64 3, .int .u32 arg] 89)).alloc (.cells nilAn 56) := ⟨_, rfl⟩
  obtain ⟨Z, hZ⟩ : ∃ Z, Z = w.heap.size := ⟨_, rfl⟩
  have HBW : Hid (Below w.heap.size w W) := by unfold Hid; rw [hW]; (repeat (first | (with_reducible refine Below.drew ?_) | (with_reducible refine below_drewN0 ?_ _) | ((with_reducible refine Below.setCell ?_ ?_ _); rotate_left; focus (first | omega | (simp; done) | (simp; omega) | (simp at *; omega))) | ((with_reducible refine Below.alloc ?_ ?_ _); rotate_left; focus (first | omega | (simp; done) | (simp; omega) | (simp at *; omega))) | (with_reducible exact Below.refl _ _)))
  have HZ : Hid (Row W Z 89 #[.int .i64 3, .int .u32 arg]) := by unfold Hid; rw [hW, hZ]; exact (Row.fresh _ _ _).alloc _
  have HRr : Hid (Row W (Z + 1) 56 nilAn) := by
    unfold Hid; rw [hW, hZ]
    have := Row.fresh (w.alloc (.cells #[.int .i64 3, .int .u32 arg] 89)) 56 nilAn
    simpa using this
  have hA0 := h.below HBW.out
  have HA0 := Lib.hid hA0
  have HTl := Lib.hid (And.intro h.Tlt h.Flt)
  have HZl : Hid (w.heap.size = Z ∧ Z + 1 < W.heap.size) := ⟨hZ.symm, HRr.out.lt⟩
  have z0 : W.cell? ⟨Z, 0, none⟩ = some (.int .i64 3) := by rw [HZ.out.cell]; rfl
  have z1 : W.cell? ⟨Z, 1, none⟩ = some (.int .u32 arg) := by rw [HZ.out.cell]; rfl
  unfold nilAn at hW
  obtain ⟨S', hS'⟩ : ∃ S', S' = S := ⟨_, rfl⟩
  rw [← hS'] at hA0 ⊢
  clear hS' HA0
  have HA2 := Lib.hid hA0
  have HP2 : Hid (b.E = b.E ∧ b.n = b.n ∧ Turns W W T ∧ (∀ k ∈ T, k ∈ T) ∧ (∀ k ∈ T, k ∈ T ∨ W.heap.size ≤ k) ∧ ∀ k ∈ F, k ∈ F ∨ W.heap.size ≤ k) := ⟨rfl, rfl, Turns.refl _ _, fun _ hk => hk, fun _ hk => .inl hk, fun _ hk => .inl hk⟩
  have hx : True := trivial
  have hE2 : b.E = b.E := rfl
  obtain ⟨b2, hb2⟩ : ∃ b2, b2 = b := ⟨_, rfl⟩
  obtain ⟨T2, hT2⟩ : ∃ T2, T2 = T := ⟨_, rfl⟩
  obtain ⟨F2, hF2⟩ : ∃ F2, F2 = F := ⟨_, rfl⟩
  obtain ⟨w2, hw2⟩ : ∃ w2 : World, w2 = w := ⟨_, rfl⟩
  clear hw2 h hA0
  have HSt := Lib.hid (status_any HA2.out)
  clear hx z1
  go_enter Tryz.func71, Tryz.ntmps71
  go_wp2_with fail
  rw [← hZ]
  rw [hZ, ← hW, ← hZ]
  clear hW hZ
  refine HSt.out.mono ?_
  rintro e w3 ⟨rfl, hA3, ht3⟩
  have HX : Hid (NxA W w3 b T F c S'.told (.agg #[.bool false, .slice none 0 0, .int .u32 (stN S' : Nat), .slice none 0 0]) ⟨false, [], stN S', []⟩) := NxA.word ⟨b, T, F, hA3, rfl, rfl, ht3.mono (fun k hk => by obtain rfl := List.mem_singleton.1 hk; exact HA2.out.inT _ (by simp [Bn.ts])), fun _ hk => hk, fun _ hk => .inl hk, fun _ hk => .inl hk⟩ false _
  clear hA3 ht3 HSt HA2 HP2 w2 hb2 hT2 hF2 b2 T2 F2 z0
  obtain ⟨w2, hw2⟩ : ∃ w2, w2 = w3 := ⟨_, rfl⟩
  subst hw2
  obtain ⟨v, hvv⟩ : ∃ v, v = Value.agg #[.bool false, .slice none 0 0, .int .u32 (stN S' : Nat), .slice none 0 0] := ⟨_, rfl⟩
  rw [← hvv] at HX ⊢
  clear hvv
  have HR2 : Hid (Row w2 (Z + 1) 56 nilAn) := HX.out.turns.row HRr.out (fun hm => by have := HTl.out.1 _ hm; have := HZl.out; omega)
  have m0 : w2.cell? ⟨Z + 1, 0, none⟩ = some (.bool false) := by rw [HR2.out.cell]; rfl
  have m1 : w2.cell? ⟨Z + 1, 1, none⟩ = some (.slice none 0 0) := by rw [HR2.out.cell]; rfl
  have m2 : w2.cell? ⟨Z + 1, 2, none⟩ = some (.int .u32 0) := by rw [HR2.out.cell]; rfl
  have m3 : w2.cell? ⟨Z + 1, 3, none⟩ = some (.slice none 0 0) := by rw [HR2.out.cell]; rfl
  have g0 := HR2.out.frozen 0
  have g1 := HR2.out.frozen 1
  have g2 := HR2.out.frozen 2
  have g3 := HR2.out.frozen 3
  obtain ⟨ak, A1, n1, c1, an0, A2, n2, c2, hv⟩ := HX.out.shape
  have hT9 : Turns w2 ((((w2.setCell ⟨Z + 1, 0, none⟩ (.bool ak)).setCell ⟨Z + 1, 1, none⟩ (.slice A1 n1 c1)).setCell ⟨Z + 1, 2, none⟩ (.int .u32 an0)).setCell ⟨Z + 1, 3, none⟩ (.slice A2 n2 c2)) [Z + 1] := ((((Turns.refl _ _).setCell (by simp) _).setCell (by simp) _).setCell (by simp) _).setCell (by simp) _
  have HZ9 : Hid (Row ((((w2.setCell ⟨Z + 1, 0, none⟩ (.bool ak)).setCell ⟨Z + 1, 1, none⟩ (.slice A1 n1 c1)).setCell ⟨Z + 1, 2, none⟩ (.int .u32 an0)).setCell ⟨Z + 1, 3, none⟩ (.slice A2 n2 c2)) (Z + 1) 56 #[.bool ak, .slice A1 n1 c1, .int .u32 an0, .slice A2 n2 c2]) := by
    have := (((HR2.out.put 0 (.bool ak)).put 1 (.slice A1 n1 c1)).put 2 (.int .u32 an0)).put 3 (.slice A2 n2 c2)
    unfold Hid; simpa [nilAn] using this
  have HX9 := Lib.hid (HX.out.out HBW.out hT9 (fun k hk => by obtain rfl := List.mem_singleton.1 hk; have := HZl.out; omega) HTl.out.1 HTl.out.2)
  subst hv
  clear hT9 HR2 HX
  go_wp2
  exact bodyPost_ret (v := .agg #[.bool ak, .slice A1 n1 c1, .int .u32 an0, .slice A2 n2 c2]) (results_cell_row rfl _ _ (Z + 1) 56 _ (0, 0) _ rfl HZ9.out Tryz.underlying56 rfl (by kernel_rfl)) rfl ⟨_, rfl, HX9.out⟩
theorem do_else7 (h : AbIs w b T F c S) (arg : Nat) :
    Calls Tryz.prog 71 #[.pointer (some ⟨b.E, 0, none⟩), .agg #[.int .i64 7, .int .u32 arg]] w fun e w' => ∃ v, e = .returned v ∧ NxA w w' b T F c S.told v ⟨false, [], stN S, []⟩ := by
  obtain ⟨W, hW⟩ : ∃ W, W = (w.alloc (.cells #[.int .i64 7, .int .u32 arg] 89)).alloc (.cells nilAn 56) := ⟨_, rfl⟩
  obtain ⟨Z, hZ⟩ : ∃ Z, Z = w.heap.size := ⟨_, rfl⟩
  have HBW : Hid (Below w.heap.size w W) := by unfold Hid; rw [hW]; (repeat (first | (with_reducible refine Below.drew ?_) | (with_reducible refine below_drewN0 ?_ _) | ((with_reducible refine Below.setCell ?_ ?_ _); rotate_left; focus (first | omega | (simp; done) | (simp; omega) | (simp at *; omega))) | ((with_reducible refine Below.alloc ?_ ?_ _); rotate_left; focus (first | omega | (simp; done) | (simp; omega) | (simp at *; omega))) | (with_reducible exact Below.refl _ _)))
  have HZ : Hid (Row W Z 89 #[.int .i64 7, .int .u32 arg]) := by unfold Hid; rw [hW, hZ]; exact (Row.fresh _ _ _).alloc _
  have HRr : Hid (Row W (Z + 1) 56 nilAn) := by
    unfold Hid; rw [hW, hZ]
    have := Row.fresh (w.alloc (.cells #[.int .i64 7, .int .u32 arg] 89)) 56 nilAn
    simpa using this
  have hA0 := h.below HBW.out
  have HA0 := Lib.hid hA0
  have HTl := Lib.hid (And.intro h.Tlt h.Flt)
  have HZl : Hid (w.heap.size = Z ∧ Z + 1 < W.heap.size) := ⟨hZ.symm, HRr.out.lt⟩
  have z0 : W.cell? ⟨Z, 0, none⟩ = some (.int .i64 7) := by rw [HZ.out.cell]; rfl
  have z1 : W.cell? ⟨Z, 1, none⟩ = some (.int .u32 arg) := by rw [HZ.out.cell]; rfl
  unfold nilAn at hW
  obtain ⟨S', hS'⟩ : ∃ S', S' = S := ⟨_, rfl⟩
  rw [← hS'] at hA0 ⊢
  clear hS' HA0
  have HA2 := Lib.hid hA0
  have HP2 : Hid (b.E = b.E ∧ b.n = b.n ∧ Turns W W T ∧ (∀ k ∈ T, k ∈ T) ∧ (∀ k ∈ T, k ∈ T ∨ W.heap.size ≤ k) ∧ ∀ k ∈ F, k ∈ F ∨ W.heap.size ≤ k) := ⟨rfl, rfl, Turns.refl _ _, fun _ hk => hk, fun _ hk => .inl hk, fun _ hk => .inl hk⟩
  have hx : True := trivial
  have hE2 : b.E = b.E := rfl
  obtain ⟨b2, hb2⟩ : ∃ b2, b2 = b := ⟨_, rfl⟩
  obtain ⟨T2, hT2⟩ : ∃ T2, T2 = T := ⟨_, rfl⟩
  obtain ⟨F2, hF2⟩ : ∃ F2, F2 = F := ⟨_, rfl⟩
  obtain ⟨w2, hw2⟩ : ∃ w2 : World, w2 = w := ⟨_, rfl⟩
  clear hw2 h hA0
  have HSt := Lib.hid (status_any HA2.out)
  clear hx z1
  go_enter Tryz.func71, Tryz.ntmps71
  go_wp2_with fail
  rw [← hZ]
  rw [hZ, ← hW, ← hZ]
  clear hW hZ
  refine HSt.out.mono ?_
  rintro e w3 ⟨rfl, hA3, ht3⟩
  have HX : Hid (NxA W w3 b T F c S'.told (.agg #[.bool false, .slice none 0 0, .int .u32 (stN S' : Nat), .slice none 0 0]) ⟨false, [], stN S', []⟩) := NxA.word ⟨b, T, F, hA3, rfl, rfl, ht3.mono (fun k hk => by obtain rfl := List.mem_singleton.1 hk; exact HA2.out.inT _ (by simp [Bn.ts])), fun _ hk => hk, fun _ hk => .inl hk, fun _ hk => .inl hk⟩ false _
  clear hA3 ht3 HSt HA2 HP2 w2 hb2 hT2 hF2 b2 T2 F2 z0
  obtain ⟨w2, hw2⟩ : ∃ w2, w2 = w3 := ⟨_, rfl⟩
  subst hw2
  obtain ⟨v, hvv⟩ : ∃ v, v = Value.agg #[.bool false, .slice none 0 0, .int .u32 (stN S' : Nat), .slice none 0 0] := ⟨_, rfl⟩
  rw [← hvv] at HX ⊢
  clear hvv
  have HR2 : Hid (Row w2 (Z + 1) 56 nilAn) := HX.out.turns.row HRr.out (fun hm => by have := HTl.out.1 _ hm; have := HZl.out; omega)
  have m0 : w2.cell? ⟨Z + 1, 0, none⟩ = some (.bool false) := by rw [HR2.out.cell]; rfl
  have m1 : w2.cell? ⟨Z + 1, 1, none⟩ = some (.slice none 0 0) := by rw [HR2.out.cell]; rfl
  have m2 : w2.cell? ⟨Z + 1, 2, none⟩ = some (.int .u32 0) := by rw [HR2.out.cell]; rfl
  have m3 : w2.cell? ⟨Z + 1, 3, none⟩ = some (.slice none 0 0) := by rw [HR2.out.cell]; rfl
  have g0 := HR2.out.frozen 0
  have g1 := HR2.out.frozen 1
  have g2 := HR2.out.frozen 2
  have g3 := HR2.out.frozen 3
  obtain ⟨ak, A1, n1, c1, an0, A2, n2, c2, hv⟩ := HX.out.shape
  have hT9 : Turns w2 ((((w2.setCell ⟨Z + 1, 0, none⟩ (.bool ak)).setCell ⟨Z + 1, 1, none⟩ (.slice A1 n1 c1)).setCell ⟨Z + 1, 2, none⟩ (.int .u32 an0)).setCell ⟨Z + 1, 3, none⟩ (.slice A2 n2 c2)) [Z + 1] := ((((Turns.refl _ _).setCell (by simp) _).setCell (by simp) _).setCell (by simp) _).setCell (by simp) _
  have HZ9 : Hid (Row ((((w2.setCell ⟨Z + 1, 0, none⟩ (.bool ak)).setCell ⟨Z + 1, 1, none⟩ (.slice A1 n1 c1)).setCell ⟨Z + 1, 2, none⟩ (.int .u32 an0)).setCell ⟨Z + 1, 3, none⟩ (.slice A2 n2 c2)) (Z + 1) 56 #[.bool ak, .slice A1 n1 c1, .int .u32 an0, .slice A2 n2 c2]) := by
    have := (((HR2.out.put 0 (.bool ak)).put 1 (.slice A1 n1 c1)).put 2 (.int .u32 an0)).put 3 (.slice A2 n2 c2)
    unfold Hid; simpa [nilAn] using this
  have HX9 := Lib.hid (HX.out.out HBW.out hT9 (fun k hk => by obtain rfl := List.mem_singleton.1 hk; have := HZl.out; omega) HTl.out.1 HTl.out.2)
  subst hv
  clear hT9 HR2 HX
  go_wp2
  exact bodyPost_ret (v := .agg #[.bool ak, .slice A1 n1 c1, .int .u32 an0, .slice A2 n2 c2]) (results_cell_row rfl _ _ (Z + 1) 56 _ (0, 0) _ rfl HZ9.out Tryz.underlying56 rfl (by kernel_rfl)) rfl ⟨_, rfl, HX9.out⟩
end
end Go.Proofs.YtclhhdodebdmjaaGreat

namespace Go.Proofs.YtclhhdodebdmjaaGreat
open Go.RowKit Go.MapKept Go.ChangeMaps
set_option linter.unusedVariables false
set_option linter.unusedSimpArgs false
set_option maxRecDepth 100000

/-- The state behind a command that was had. -/
def Ab.go (S : Ab) (i : Int) (arg : Nat) : Ab := { S with s := (nextV S.s i (ownB S.addr arg)).1, addr := addrTo i S.addr arg, left := leftTo S.s (nextV S.s i (ownB S.addr arg)).1 S.left }
/-- The card when a command was had, ahead of its own part. -/
def Ab.calm (S : Ab) : Ab := if S.s = 6 then S else { S with next := [], e := { S.e with head := 0 } }
def Ab.taken (S : Ab) (i : Int) (arg : Nat) : Ab := ((S.go i arg).forget i).calm
theorem goF_from (s j : Int) (x : Int × Int × Int) : ∀ d, goF d s j = some x → ∃ i ∈ d, valI i = x
  | [], h => by simp [goF] at h
  | i :: d, h => by
    unfold goF at h
    split at h
    · injection h with h; exact ⟨i, by simp, h⟩
    · obtain ⟨k, hk, e⟩ := goF_from s j x d h
      exact ⟨k, by simp [hk], e⟩
theorem ways_to (s i h t o : Int) (hw : waysV s i = some (h, t, o)) : t ∈ statesL ∧ (h = 2 → o ∈ statesL) := by
  unfold waysV at hw
  split at hw
  · injection hw with hw; injection hw with h1 h2; injection h2 with h2 h3; subst h1; subst h2; subst h3; exact ⟨by decide, by decide⟩
  split at hw
  · injection hw with hw; injection hw with h1 h2; injection h2 with h2 h3; subst h1; subst h2; subst h3; exact ⟨by decide, by decide⟩
  obtain ⟨x, hx, e⟩ := goF_from s i (h, t, o) insI hw
  have key : ∀ y ∈ insI, (valI y).2.1 ∈ statesL ∧ ((valI y).1 = 2 → (valI y).2.2 ∈ statesL) := by decide
  have h1 := key x hx
  rw [e] at h1
  exact h1
theorem nextV_mem {s : Int} (hs : s ∈ statesL) (i : Int) (own : Bool) : (nextV s i own).1 ∈ statesL := by
  unfold nextV
  split
  · decide
  · cases hw : waysV s i with
    | none => exact hs
    | some x =>
      obtain ⟨h, t, o⟩ := x
      have := ways_to s i h t o hw
      simp only
      split
      · exact hs
      · split
        · rename_i h2; exact this.2 h2.1
        · exact this.1
section
variable {w w' : World} {b : Bn} {T F : List Nat} {c : Cf} {S S' : Ab} {v : Value} {an : An}
theorem go_ok (h : AbOk c S) (i : Int) (arg : Nat) (harg : arg < 4294967296) : AbOk c (S.go i arg) := { h with
  st := nextV_mem h.st i _
  addr := by
    have := h.addr
    show addrTo i S.addr arg < 65536
    unfold addrTo; split <;> omega
  recv := fun h6 => by
    have h6' : (nextV S.s i (ownB S.addr arg)).1 = 6 := h6
    show 1 ≤ leftTo S.s (nextV S.s i (ownB S.addr arg)).1 S.left ∧ leftTo S.s (nextV S.s i (ownB S.addr arg)).1 S.left ≤ 64
    unfold leftTo
    rw [h6']
    by_cases hs : S.s = 6
    · rw [if_pos hs]; exact h.recv hs
    · rw [if_neg hs, if_pos rfl]; omega }
theorem NxA.below (h : NxA w w' b T F c S v an) {w'' : World} (hb : Below w'.heap.size w' w'') : NxA w w'' b T F c S v an := by
  obtain ⟨b', T', F', h1, h2, h3, h4, h5, h6, h7, h8⟩ := h
  exact ⟨b', T', F', h1.below hb, h2, h3, h4.then_below hb, h5, h6, h7, h8.turns (Turns.of_below hb []) (by simp)⟩
/- Up to the state's own word on the command. -/
/- Up to the card's own part. -/
theorem cmd_do (h : AbIs w b T F c S) (i : Int) (hi : W64 i) (arg : Nat) (harg : arg < 4294967296) (hleg : (nextV S.s i (ownB S.addr arg)).2 = true) (hans : answersB i (ownB S.addr arg) = true)
    (H : ∀ W b', b'.E = b.E → b'.n = b.n → AbIs W b' T F c (S.taken i arg) → Calls Tryz.prog 71 #[.pointer (some ⟨b.E, 0, none⟩), .agg #[.int .i64 i, .int .u32 arg]] W fun e w' => ∃ v, e = .returned v ∧ NxA W w' b' T F c S' v an) :
    Calls Tryz.prog 23 #[.pointer (some ⟨b.E, 0, none⟩), .agg #[.int .i64 i, .int .u32 arg], .bool true] w fun e w' => ∃ v, e = .returned v ∧ NxA w w' b T F c S' v an := by
  have HD := Lib.hid H
  clear H
  obtain ⟨s1, hs1⟩ : ∃ s1, nextV S.s i (ownB S.addr arg) = (s1, true) := ⟨_, Prod.ext rfl hleg⟩
  obtain ⟨W, hW⟩ : ∃ W, W = (w.alloc (.cells #[.int .i64 i, .int .u32 arg] 89)).alloc (.cells nilAn 56) := ⟨_, rfl⟩
  obtain ⟨Z, hZ⟩ : ∃ Z, Z = w.heap.size := ⟨_, rfl⟩
  have HBW : Hid (Below w.heap.size w W) := by unfold Hid; rw [hW]; (repeat (first | (with_reducible refine Below.drew ?_) | (with_reducible refine below_drewN0 ?_ _) | ((with_reducible refine Below.setCell ?_ ?_ _); rotate_left; focus (first | omega | (simp; done) | (simp; omega) | (simp at *; omega))) | ((with_reducible refine Below.alloc ?_ ?_ _); rotate_left; focus (first | omega | (simp; done) | (simp; omega) | (simp at *; omega))) | (with_reducible exact Below.refl _ _)))
  have HZ : Hid (Row W Z 89 #[.int .i64 i, .int .u32 arg]) := by unfold Hid; rw [hW, hZ]; exact (Row.fresh _ _ _).alloc _
  have HRr : Hid (Row W (Z + 1) 56 nilAn) := by
    unfold Hid; rw [hW, hZ]
    have := Row.fresh (w.alloc (.cells #[.int .i64 i, .int .u32 arg] 89)) 56 nilAn
    simpa using this
  have hA0 := h.below HBW.out
  have HA0 := Lib.hid hA0
  have HTl := Lib.hid (And.intro h.Tlt h.Flt)
  have HZl : Hid (w.heap.size = Z ∧ Z + 1 < W.heap.size) := ⟨hZ.symm, HRr.out.lt⟩
  have z0 : W.cell? ⟨Z, 0, none⟩ = some (.int .i64 i) := by rw [HZ.out.cell]; rfl
  have z1 : W.cell? ⟨Z, 1, none⟩ = some (.int .u32 arg) := by rw [HZ.out.cell]; rfl
  unfold nilAn at hW
  have e27 := hA0.xDown
  have hL := Legal_ph hA0.drew.ph hA0.ok.st i hi arg hA0.ok.addr harg
  rw [hleg] at hL
  have HLg := Lib.hid hL
  have q1 : ∀ t : Kept W [], t.u.cell? ⟨b.E, 0, none⟩ = some (.pointer (some ⟨b.n.P, 0, none⟩)) := fun t => (hA0.turns t.h (by simp)).xP
  have q2 : ∀ t : Kept W [], t.u.cell? ⟨Z, 0, none⟩ = some (.int .i64 i) := fun t => by rw [(t.h.row HZ.out (by simp)).cell]; rfl
  have q3 : ∀ t : Kept W [], t.u.cell? ⟨Z, 1, none⟩ = some (.int .u32 arg) := fun t => by rw [(t.h.row HZ.out (by simp)).cell]; rfl
  clear h hA0 z0 z1 hL
  go_enter Tryz.func23, Tryz.ntmps23
  go_upto_region 1 with fail
  rw [← hZ]
  rw [hZ, ← hW, ← hZ]
  clear hW hZ
  go_wp2_with fail
  (refine wp_region_noPanic ?_; refine region_treeW (fun u => ∃ t : Kept W [], u = t.u) (Tn.takes [0, 1, 2, 3, 4, 5, 6, 7] (.one 8 (Tn.takes [9, 10] .nil))) (by kernel_rfl) (by kernel_rfl) (fun _ _ _ _ _ h => h) ⟨⟨_, Turns.of_below (Below.refl _ _).drew _⟩, rfl⟩ ?_; simp only [Tn.takes])
  (repeat ((with_reducible refine wpTree_take (by with_unfolding_all exact rfl) ?_); (with_reducible (show wpQuiet _ _ _ _ (_ :: _) _)); go_big_quiet_step (fail); (with_reducible refine wpQuiet_nil ?_)))
  clear q1 q2 q3
  (with_reducible refine wpTree_one (by with_unfolding_all exact rfl) ?_)
  gi_wp2_with fail
  (first | refine ⟨trivial, ((callsIn_wide (n := 8)).2 (HLg.out)).mono ?_⟩ | refine ((callsIn_wide (n := 8)).2 (HLg.out)).mono ?_)
  rintro e w1 ⟨rfl, hb⟩
  have hb1 : Below W.heap.size W w1 := (Below.refl _ _).drew.trans hb
  have HA1 := Lib.hid (HA0.out.below hb1)
  have HZ1 := Lib.hid (HZ.out.below hb1 HZ.out.lt)
  have HB1 := Lib.hid hb1
  clear hb hb1 HLg HZ HA0
  gi_wp2_with fail
  ((with_reducible refine outQ_normal ?_ ?_); exact ⟨⟨_, Turns.of_below HB1.out _⟩, rfl⟩)
  (repeat ((with_reducible refine wpTree_take (by with_unfolding_all exact rfl) ?_); (with_reducible (show wpQuiet _ _ _ _ (_ :: _) _)); go_big_quiet_step (fail); (with_reducible refine wpQuiet_nil ?_)))
  with_reducible refine wpTree_nil ?_
  refine NoPanic.normal ?_
  have hGo := Go_yes HA1.out.drew.ph HA1.out.ok.st i hi arg HA1.out.ok.addr harg s1 hs1
  have HGo := Lib.hid hGo
  have hS1 : S.go i arg = { S with s := s1, addr := addrTo i S.addr arg, left := leftTo S.s s1 S.left } := by unfold Ab.go; rw [hs1]
  have HS1 := Lib.hid hS1
  have hP : b.E ≠ b.n.P := HA1.out.rE.ne_type HA1.out.ph (by decide)
  have hZP : Z ≠ b.n.P := HZ1.out.ne_type HA1.out.ph (by decide)
  have q1 : ∀ t : Kept w1 [b.n.P], t.u.cell? ⟨b.E, 0, none⟩ = some (.pointer (some ⟨b.n.P, 0, none⟩)) := fun t => t.h.cell (p := ⟨b.E, 0, none⟩) HA1.out.xP (by simpa using hP)
  have q2 : ∀ t : Kept w1 [b.n.P], t.u.cell? ⟨Z, 0, none⟩ = some (.int .i64 i) := fun t => by rw [(t.h.row HZ1.out (by simpa using hZP)).cell]; rfl
  have q3 : ∀ t : Kept w1 [b.n.P], t.u.cell? ⟨Z, 1, none⟩ = some (.int .u32 arg) := fun t => by rw [(t.h.row HZ1.out (by simpa using hZP)).cell]; rfl
  clear hGo hS1 hP hs1 e27 hleg
  go_wp2_with fail
  (refine wp_region_noPanic ?_; refine region_treeW (fun u => ∃ t : Kept w1 [b.n.P], u = t.u) (Tn.takes [0, 1, 2, 3, 4, 5, 6, 7] (.one 8 (Tn.takes [9, 10, 11, 12, 13] .nil))) (by kernel_rfl) (by kernel_rfl) (fun _ _ _ _ _ h => h) ⟨⟨_, Turns.of_below (Below.refl _ _).drew _⟩, rfl⟩ ?_; simp only [Tn.takes])
  (repeat ((with_reducible refine wpTree_take (by with_unfolding_all exact rfl) ?_); (with_reducible (show wpQuiet _ _ _ _ (_ :: _) _)); go_big_quiet_step (fail); (with_reducible refine wpQuiet_nil ?_)))
  clear q1 q2 q3
  (with_reducible refine wpTree_one (by with_unfolding_all exact rfl) ?_)
  gi_wp2_with fail
  (first | refine ⟨trivial, ((callsIn_wide (n := 8)).2 (HGo.out)).mono ?_⟩ | refine ((callsIn_wide (n := 8)).2 (HGo.out)).mono ?_)
  rintro e w2 ⟨rfl, hp, ht⟩
  have ht2 : Turns w1 w2 [b.n.P] := (Turns.refl w1 [b.n.P]).drew.trans ht (by simp)
  have hok1 : AbOk c (S.go i arg) := go_ok HA1.out.ok i arg harg
  have hA2 : AbIs w2 b T F c (S.go i arg) := by
    rw [HS1.out] at hok1 ⊢
    exact HA1.out.phase ht2 hp hok1
  have HA2 := Lib.hid hA2
  have HT2 : Hid (Turns W w2 T) := (Turns.of_below HB1.out T).trans ht2 (fun k hk => .inl (by obtain rfl := List.mem_singleton.1 hk; exact HA1.out.inT _ (by simp [Bn.ts])))
  have HTT2 := Lib.hid ht2
  have HZ2 := Lib.hid (ht2.row HZ1.out (by simpa using hZP))
  clear hp ht ht2 hok1 hA2 HGo HA1 HZ1 HB1 hZP HS1
  gi_wp2_with fail
  ((with_reducible refine outQ_normal ?_ ?_); exact ⟨⟨_, HTT2.out⟩, rfl⟩)
  (repeat ((with_reducible refine wpTree_take (by with_unfolding_all exact rfl) ?_); (with_reducible (show wpQuiet _ _ _ _ (_ :: _) _)); go_big_quiet_step (fail); (with_reducible refine wpQuiet_nil ?_)))
  with_reducible refine wpTree_nil ?_
  refine NoPanic.normal ?_
  have HFo := Lib.hid (forget_any HA2.out i)
  have z0 : w2.cell? ⟨Z, 0, none⟩ = some (.int .i64 i) := by rw [HZ2.out.cell]; rfl
  clear HTT2
  go_wp2_with fail
  refine HFo.out.mono ?_
  rintro e w3 ⟨rfl, hA3, ht3⟩
  obtain ⟨S3, hS3⟩ : ∃ S3, S3 = (S.go i arg).forget i := ⟨_, rfl⟩
  rw [← hS3] at hA3
  have HS3 := Lib.hid hS3
  have hZE : Z ≠ b.E := HZ2.out.ne_type HA2.out.rE (by decide)
  have HZ3 := Lib.hid (ht3.row HZ2.out (by simpa using hZE))
  have HET : Hid (b.E ∈ T) := HA2.out.inT _ (by simp [Bn.ts])
  have HT3 : Hid (Turns W w3 T) := HT2.out.trans ht3 (fun k hk => .inl (by obtain rfl := List.mem_singleton.1 hk; exact HET.out))
  obtain ⟨w4, hw4⟩ : ∃ w4, w4 = w3.setCell ⟨b.E, 26, none⟩ (.slice none 0 0) := ⟨_, rfl⟩
  have e26 := hA3.xWr
  have f26 := hA3.rE.frozen 26
  obtain ⟨hA4, ht4⟩ := wrote_nil hA3
  rw [← hw4] at hA4 ht4
  obtain ⟨b4, hb4⟩ : ∃ b4, b4 = { b with wr := none, nwr := 0, cwr := 0 } := ⟨_, rfl⟩
  rw [← hb4] at hA4
  have HE4 : Hid (b4.E = b.E ∧ b4.n = b.n) := by rw [hb4]; exact ⟨rfl, rfl⟩
  have HA4 := Lib.hid hA4
  have HZ4 := Lib.hid (ht4.row HZ3.out (by simpa using hZE))
  have HT4 : Hid (Turns W w4 T) := HT3.out.trans ht4 (fun k hk => .inl (by obtain rfl := List.mem_singleton.1 hk; exact HET.out))
  have hSt := State_ph hA4.ph
  rw [show b4.n.P = b.n.P by rw [hb4]] at hSt
  have HSt := Lib.hid hSt
  have e0 : w4.cell? ⟨b.E, 0, none⟩ = some (.pointer (some ⟨b.n.P, 0, none⟩)) := by have h := hA4.xP; rw [HE4.out.1, HE4.out.2] at h; exact h
  have HW4 := Lib.hid hw4
  clear hA3 ht3 hS3 hw4 hA4 ht4 hb4 hSt HFo z0 HA2 HZ2 HT2 HT3 HZ3
  go_upto_region 12 with fail
  rw [← HW4.out]
  clear HW4 e26 f26
  clear w3
  go_wp2_with fail
  refine HSt.out.mono ?_
  rintro e w4' ⟨rfl, rfl⟩
  clear hans
  by_cases h6 : S3.s = 6
  · skip
    have b6 : (S3.s != 6) = false := by simp [h6]
    have HA5 : Hid (AbIs w4 b4 T F c (S.taken i arg)) := by unfold Hid Ab.taken; rw [← HS3.out]; unfold Ab.calm; rw [if_pos h6]; exact HA4.out
    have HT5 := HT4
    have HZ5 := HZ4
    have HE5 := HE4
    clear h6 HA4 HT4 HZ4 HE4 HSt HS3 e0
    obtain ⟨b5, hb5⟩ : ∃ b5, b5 = b4 := ⟨_, rfl⟩
    obtain ⟨w5, hw5⟩ : ∃ w5, w5 = w4 := ⟨_, rfl⟩
    subst hb5
    subst hw5
    have HC := Lib.hid (HD.out w5 b5 HE5.out.1 HE5.out.2 HA5.out)
    have z0 : w5.cell? ⟨Z, 0, none⟩ = some (.int .i64 i) := by rw [HZ5.out.cell]; rfl
    have z1 : w5.cell? ⟨Z, 1, none⟩ = some (.int .u32 arg) := by rw [HZ5.out.cell]; rfl
    go_wp2_with fail
    refine HC.out.mono ?_
    rintro e wz ⟨v, rfl, hx⟩
    obtain ⟨ak, A1, n1, c1, an0, A2, n2, c2, rfl⟩ := hx.shape
    obtain ⟨b2, T2, F2, hA2, hE2, hn2, ht2, hTT2, hTn2, hFn2, hAn2⟩ := hx
    have e27 := hA2.xDown
    rw [hE2, HE5.out.1] at e27
    have HX0 : Hid (NxA W wz b T F c S' (.agg #[.bool ak, .slice A1 n1 c1, .int .u32 an0, .slice A2 n2 c2]) an) := NxA.after HT5.out HE5.out.1 HE5.out.2 (fun _ hk => hk) (fun _ hk => .inl hk) (fun _ hk => .inl hk) ⟨b2, T2, F2, hA2, hE2, hn2, ht2, hTT2, hTn2, hFn2, hAn2⟩
    clear hA2 hE2 hn2 ht2 hTT2 hTn2 hFn2 hAn2 HC HD z0 z1 HA5 HT5 HZ5 HE5
    clear w2
    obtain ⟨w2, hw2⟩ : ∃ w2, w2 = wz.alloc (.cells #[.bool ak, .slice A1 n1 c1, .int .u32 an0, .slice A2 n2 c2] 56) := ⟨_, rfl⟩
    obtain ⟨Y, hY⟩ : ∃ Y, Y = wz.heap.size := ⟨_, rfl⟩
    have hbz : Below wz.heap.size wz w2 := by rw [hw2]; exact (Below.refl _ _).alloc (Nat.le_refl _) _
    have HYr : Hid (Row w2 Y 56 #[.bool ak, .slice A1 n1 c1, .int .u32 an0, .slice A2 n2 c2]) := by unfold Hid; rw [hw2, hY]; exact Row.fresh _ _ _
    have HX := Lib.hid (HX0.out.below hbz)
    have y27 : w2.cell? ⟨b.E, 27, none⟩ = some (.bool false) := keep_below hbz _ _ e27
    clear hbz HX0 e27
    go_upto_region 17 with fail
    rw [← hY]
    rw [hY, ← hw2, ← hY]
    clear hw2 hY
    have y0 : w2.cell? ⟨Y, 0, none⟩ = some (.bool ak) := by rw [HYr.out.cell]; rfl
    have y1 : w2.cell? ⟨Y, 1, none⟩ = some (.slice A1 n1 c1) := by rw [HYr.out.cell]; rfl
    have y2 : w2.cell? ⟨Y, 2, none⟩ = some (.int .u32 an0) := by rw [HYr.out.cell]; rfl
    have y3 : w2.cell? ⟨Y, 3, none⟩ = some (.slice A2 n2 c2) := by rw [HYr.out.cell]; rfl
    have HR2 : Hid (Row w2 (Z + 1) 56 nilAn) := HX.out.turns.row HRr.out (fun hm => by have := HTl.out.1 _ hm; have := HZl.out; omega)
    have m0 : w2.cell? ⟨Z + 1, 0, none⟩ = some (.bool false) := by rw [HR2.out.cell]; rfl
    have m1 : w2.cell? ⟨Z + 1, 1, none⟩ = some (.slice none 0 0) := by rw [HR2.out.cell]; rfl
    have m2 : w2.cell? ⟨Z + 1, 2, none⟩ = some (.int .u32 0) := by rw [HR2.out.cell]; rfl
    have m3 : w2.cell? ⟨Z + 1, 3, none⟩ = some (.slice none 0 0) := by rw [HR2.out.cell]; rfl
    have g0 := HR2.out.frozen 0
    have g1 := HR2.out.frozen 1
    have g2 := HR2.out.frozen 2
    have g3 := HR2.out.frozen 3
    have hT9 : Turns w2 ((((w2.setCell ⟨Z + 1, 0, none⟩ (.bool ak)).setCell ⟨Z + 1, 1, none⟩ (.slice A1 n1 c1)).setCell ⟨Z + 1, 2, none⟩ (.int .u32 an0)).setCell ⟨Z + 1, 3, none⟩ (.slice A2 n2 c2)) [Z + 1] := ((((Turns.refl _ _).setCell (by simp) _).setCell (by simp) _).setCell (by simp) _).setCell (by simp) _
    have HZ9 : Hid (Row ((((w2.setCell ⟨Z + 1, 0, none⟩ (.bool ak)).setCell ⟨Z + 1, 1, none⟩ (.slice A1 n1 c1)).setCell ⟨Z + 1, 2, none⟩ (.int .u32 an0)).setCell ⟨Z + 1, 3, none⟩ (.slice A2 n2 c2)) (Z + 1) 56 #[.bool ak, .slice A1 n1 c1, .int .u32 an0, .slice A2 n2 c2]) := by
      have := (((HR2.out.put 0 (.bool ak)).put 1 (.slice A1 n1 c1)).put 2 (.int .u32 an0)).put 3 (.slice A2 n2 c2)
      unfold Hid; simpa [nilAn] using this
    have HX9 := Lib.hid (HX.out.out HBW.out hT9 (fun k hk => by obtain rfl := List.mem_singleton.1 hk; have := HZl.out; omega) HTl.out.1 HTl.out.2)
    clear hT9 HR2 HX
    go_wp2
    exact bodyPost_ret (v := .agg #[.bool ak, .slice A1 n1 c1, .int .u32 an0, .slice A2 n2 c2]) (results_cell_row rfl _ _ (Z + 1) 56 _ (0, 0) _ rfl HZ9.out Tryz.underlying56 rfl (by kernel_rfl)) rfl ⟨_, rfl, HX9.out⟩
  · skip
    have b6 : (S3.s != 6) = true := by simpa using h6
    obtain ⟨w5, hw5⟩ : ∃ w5, w5 = (w4.setCell ⟨b.E, 23, none⟩ (.slice none 0 0)).setCell ⟨b.E, 24, none⟩ (.int .i64 0) := ⟨_, rfl⟩
    have hT5 : Turns w4 w5 [b.E] := by rw [hw5]; exact ((Turns.refl _ _).setCell (by simp) _).setCell (by simp) _
    have hET : b4.E = b.E := HE4.out.1
    have hrE := HA4.out.rE
    rw [hET] at hrE
    have HA5 : Hid (AbIs w5 { b4 with nx := none, cnx := 0 } T F c (S.taken i arg)) := by
      have hr := (hrE.put 23 (.slice none 0 0)).put 24 (.int .i64 ((0 : Nat) : Int))
      rw [show (((0 : Nat) : Int)) = 0 from rfl, ← hw5, ← hET] at hr
      have hT5' := hT5
      rw [← hET] at hT5'
      have := HA4.out.next (e' := { S3.e with head := 0 }) (nx' := []) (A' := none) (c' := 0) (T' := T) hT5' hr { HA4.out.ok with head := by simp, recv := fun h => absurd h h6, next := by simp, nlen := by simp } (World.ownsRow_nil _ _ _ _) (fun k hk => hk) (by simp [Vca.blk]) HA4.out.TF (fun k hk => Nat.lt_of_lt_of_le (HA4.out.Tlt k hk) hT5.size)
      unfold Hid Ab.taken
      rw [← HS3.out]
      unfold Ab.calm
      rw [if_neg h6]
      exact this
    have HT5 : Hid (Turns W w5 T) := HT4.out.trans hT5 (fun k hk => .inl (by obtain rfl := List.mem_singleton.1 hk; exact HET.out))
    have HZ5 := Lib.hid (hT5.row HZ4.out (by simpa using hZE))
    have HE5 : Hid (({ b4 with nx := none, cnx := 0 } : Bn).E = b.E ∧ ({ b4 with nx := none, cnx := 0 } : Bn).n = b.n) := HE4.out
    have HW5 := Lib.hid hw5
    have e23 := hrE.cell 23
    have f23 := hrE.frozen 23
    have e24 := hrE.cell 24
    have f24 := hrE.frozen 24
    obtain ⟨b5, hb5⟩ : ∃ b5, b5 = ({ b4 with nx := none, cnx := 0 } : Bn) := ⟨_, rfl⟩
    rw [← hb5] at HA5 HE5
    clear h6 hb5 hT5 hET hrE hw5 HA4 HT4 HZ4 HE4 HSt HS3 e0
    go_upto_region 14 with fail
    rw [← HW5.out]
    have HC := Lib.hid (HD.out w5 b5 HE5.out.1 HE5.out.2 HA5.out)
    have z0 : w5.cell? ⟨Z, 0, none⟩ = some (.int .i64 i) := by rw [HZ5.out.cell]; rfl
    have z1 : w5.cell? ⟨Z, 1, none⟩ = some (.int .u32 arg) := by rw [HZ5.out.cell]; rfl
    clear HW5 e23 f23 e24 f24
    go_wp2_with fail
    refine HC.out.mono ?_
    rintro e wz ⟨v, rfl, hx⟩
    obtain ⟨ak, A1, n1, c1, an0, A2, n2, c2, rfl⟩ := hx.shape
    obtain ⟨b2, T2, F2, hA2, hE2, hn2, ht2, hTT2, hTn2, hFn2, hAn2⟩ := hx
    have e27 := hA2.xDown
    rw [hE2, HE5.out.1] at e27
    have HX0 : Hid (NxA W wz b T F c S' (.agg #[.bool ak, .slice A1 n1 c1, .int .u32 an0, .slice A2 n2 c2]) an) := NxA.after HT5.out HE5.out.1 HE5.out.2 (fun _ hk => hk) (fun _ hk => .inl hk) (fun _ hk => .inl hk) ⟨b2, T2, F2, hA2, hE2, hn2, ht2, hTT2, hTn2, hFn2, hAn2⟩
    clear hA2 hE2 hn2 ht2 hTT2 hTn2 hFn2 hAn2 HC HD z0 z1 HA5 HT5 HZ5 HE5
    clear w2
    obtain ⟨w2, hw2⟩ : ∃ w2, w2 = wz.alloc (.cells #[.bool ak, .slice A1 n1 c1, .int .u32 an0, .slice A2 n2 c2] 56) := ⟨_, rfl⟩
    obtain ⟨Y, hY⟩ : ∃ Y, Y = wz.heap.size := ⟨_, rfl⟩
    have hbz : Below wz.heap.size wz w2 := by rw [hw2]; exact (Below.refl _ _).alloc (Nat.le_refl _) _
    have HYr : Hid (Row w2 Y 56 #[.bool ak, .slice A1 n1 c1, .int .u32 an0, .slice A2 n2 c2]) := by unfold Hid; rw [hw2, hY]; exact Row.fresh _ _ _
    have HX := Lib.hid (HX0.out.below hbz)
    have y27 : w2.cell? ⟨b.E, 27, none⟩ = some (.bool false) := keep_below hbz _ _ e27
    clear hbz HX0 e27
    go_upto_region 17 with fail
    rw [← hY]
    rw [hY, ← hw2, ← hY]
    clear hw2 hY
    have y0 : w2.cell? ⟨Y, 0, none⟩ = some (.bool ak) := by rw [HYr.out.cell]; rfl
    have y1 : w2.cell? ⟨Y, 1, none⟩ = some (.slice A1 n1 c1) := by rw [HYr.out.cell]; rfl
    have y2 : w2.cell? ⟨Y, 2, none⟩ = some (.int .u32 an0) := by rw [HYr.out.cell]; rfl
    have y3 : w2.cell? ⟨Y, 3, none⟩ = some (.slice A2 n2 c2) := by rw [HYr.out.cell]; rfl
    have HR2 : Hid (Row w2 (Z + 1) 56 nilAn) := HX.out.turns.row HRr.out (fun hm => by have := HTl.out.1 _ hm; have := HZl.out; omega)
    have m0 : w2.cell? ⟨Z + 1, 0, none⟩ = some (.bool false) := by rw [HR2.out.cell]; rfl
    have m1 : w2.cell? ⟨Z + 1, 1, none⟩ = some (.slice none 0 0) := by rw [HR2.out.cell]; rfl
    have m2 : w2.cell? ⟨Z + 1, 2, none⟩ = some (.int .u32 0) := by rw [HR2.out.cell]; rfl
    have m3 : w2.cell? ⟨Z + 1, 3, none⟩ = some (.slice none 0 0) := by rw [HR2.out.cell]; rfl
    have g0 := HR2.out.frozen 0
    have g1 := HR2.out.frozen 1
    have g2 := HR2.out.frozen 2
    have g3 := HR2.out.frozen 3
    have hT9 : Turns w2 ((((w2.setCell ⟨Z + 1, 0, none⟩ (.bool ak)).setCell ⟨Z + 1, 1, none⟩ (.slice A1 n1 c1)).setCell ⟨Z + 1, 2, none⟩ (.int .u32 an0)).setCell ⟨Z + 1, 3, none⟩ (.slice A2 n2 c2)) [Z + 1] := ((((Turns.refl _ _).setCell (by simp) _).setCell (by simp) _).setCell (by simp) _).setCell (by simp) _
    have HZ9 : Hid (Row ((((w2.setCell ⟨Z + 1, 0, none⟩ (.bool ak)).setCell ⟨Z + 1, 1, none⟩ (.slice A1 n1 c1)).setCell ⟨Z + 1, 2, none⟩ (.int .u32 an0)).setCell ⟨Z + 1, 3, none⟩ (.slice A2 n2 c2)) (Z + 1) 56 #[.bool ak, .slice A1 n1 c1, .int .u32 an0, .slice A2 n2 c2]) := by
      have := (((HR2.out.put 0 (.bool ak)).put 1 (.slice A1 n1 c1)).put 2 (.int .u32 an0)).put 3 (.slice A2 n2 c2)
      unfold Hid; simpa [nilAn] using this
    have HX9 := Lib.hid (HX.out.out HBW.out hT9 (fun k hk => by obtain rfl := List.mem_singleton.1 hk; have := HZl.out; omega) HTl.out.1 HTl.out.2)
    clear hT9 HR2 HX
    go_wp2
    exact bodyPost_ret (v := .agg #[.bool ak, .slice A1 n1 c1, .int .u32 an0, .slice A2 n2 c2]) (results_cell_row rfl _ _ (Z + 1) 56 _ (0, 0) _ rfl HZ9.out Tryz.underlying56 rfl (by kernel_rfl)) rfl ⟨_, rfl, HX9.out⟩
end
end Go.Proofs.YtclhhdodebdmjaaGreat

namespace Go.Proofs.YtclhhdodebdmjaaGreat
open Go.RowKit Go.MapKept Go.ChangeMaps
set_option linter.unusedVariables false
set_option linter.unusedSimpArgs false
set_option maxRecDepth 100000

section
variable {w w' : World} {b : Bn} {T F : List Nat} {c : Cf} {S S' : Ab} {v : Value} {an : An}
theorem NxA.same (h : AbIs w b T F c S) (hb : Below w.heap.size w w') (ha : AnIs w' w.heap.size [] v an) : NxA w w' b T F c S v an :=
  NxA.of (h.below hb) (Turns.of_below hb T) h.Tlt ha
theorem do_opcond (h : AbIs w b T F c S) (arg : Nat) :
    Calls Tryz.prog 71 #[.pointer (some ⟨b.E, 0, none⟩), .agg #[.int .i64 1, .int .u32 arg]] w fun e w' => ∃ v, e = .returned v ∧ NxA w w' b T F c S v ⟨false, [], 2164228224, []⟩ := by
  obtain ⟨W, hW⟩ : ∃ W, W = (w.alloc (.cells #[.int .i64 1, .int .u32 arg] 89)).alloc (.cells nilAn 56) := ⟨_, rfl⟩
  obtain ⟨Z, hZ⟩ : ∃ Z, Z = w.heap.size := ⟨_, rfl⟩
  have HBW : Hid (Below w.heap.size w W) := by unfold Hid; rw [hW]; (repeat (first | (with_reducible refine Below.drew ?_) | (with_reducible refine below_drewN0 ?_ _) | ((with_reducible refine Below.setCell ?_ ?_ _); rotate_left; focus (first | omega | (simp; done) | (simp; omega) | (simp at *; omega))) | ((with_reducible refine Below.alloc ?_ ?_ _); rotate_left; focus (first | omega | (simp; done) | (simp; omega) | (simp at *; omega))) | (with_reducible exact Below.refl _ _)))
  have HZ : Hid (Row W Z 89 #[.int .i64 1, .int .u32 arg]) := by unfold Hid; rw [hW, hZ]; exact (Row.fresh _ _ _).alloc _
  have HRr : Hid (Row W (Z + 1) 56 nilAn) := by
    unfold Hid; rw [hW, hZ]
    have := Row.fresh (w.alloc (.cells #[.int .i64 1, .int .u32 arg] 89)) 56 nilAn
    simpa using this
  have hA0 := h.below HBW.out
  have HA0 := Lib.hid hA0
  have HTl := Lib.hid (And.intro h.Tlt h.Flt)
  have HZl : Hid (w.heap.size = Z ∧ Z + 1 < W.heap.size) := ⟨hZ.symm, HRr.out.lt⟩
  have z0 : W.cell? ⟨Z, 0, none⟩ = some (.int .i64 1) := by rw [HZ.out.cell]; rfl
  have z1 : W.cell? ⟨Z, 1, none⟩ = some (.int .u32 arg) := by rw [HZ.out.cell]; rfl
  unfold nilAn at hW
  have hX0 : NxA W W b T F c S (.agg #[.bool false, .slice none 0 0, .int .u32 2164228224, .slice none 0 0]) ⟨false, [], 2164228224, []⟩ := NxA.same hA0 (Below.refl _ _) (AnIs.word _ _ _ _ _)
  obtain ⟨w2, hw2⟩ : ∃ w2, w2 = W := ⟨_, rfl⟩
  have HX : Hid (NxA W w2 b T F c S (.agg #[.bool false, .slice none 0 0, .int .u32 2164228224, .slice none 0 0]) ⟨false, [], 2164228224, []⟩) := by rw [hw2]; exact hX0
  have HW2 := Lib.hid hw2
  have z0 : w2.cell? ⟨Z, 0, none⟩ = some (.int .i64 1) := by rw [hw2]; exact z0
  clear h hA0 z1 HA0 hX0 hw2
  go_enter Tryz.func71, Tryz.ntmps71
  go_upto_region 1 with fail
  rw [← hZ]
  rw [hZ, ← hW, ← hZ, ← HW2.out]
  clear hW hZ
  have HR2 : Hid (Row w2 (Z + 1) 56 nilAn) := HX.out.turns.row HRr.out (fun hm => by have := HTl.out.1 _ hm; have := HZl.out; omega)
  have m0 : w2.cell? ⟨Z + 1, 0, none⟩ = some (.bool false) := by rw [HR2.out.cell]; rfl
  have m1 : w2.cell? ⟨Z + 1, 1, none⟩ = some (.slice none 0 0) := by rw [HR2.out.cell]; rfl
  have m2 : w2.cell? ⟨Z + 1, 2, none⟩ = some (.int .u32 0) := by rw [HR2.out.cell]; rfl
  have m3 : w2.cell? ⟨Z + 1, 3, none⟩ = some (.slice none 0 0) := by rw [HR2.out.cell]; rfl
  have g0 := HR2.out.frozen 0
  have g1 := HR2.out.frozen 1
  have g2 := HR2.out.frozen 2
  have g3 := HR2.out.frozen 3
  have hT9 : Turns w2 ((((w2.setCell ⟨Z + 1, 0, none⟩ (.bool false)).setCell ⟨Z + 1, 1, none⟩ (.slice none 0 0)).setCell ⟨Z + 1, 2, none⟩ (.int .u32 2164228224)).setCell ⟨Z + 1, 3, none⟩ (.slice none 0 0)) [Z + 1] := ((((Turns.refl _ _).setCell (by simp) _).setCell (by simp) _).setCell (by simp) _).setCell (by simp) _
  have HZ9 : Hid (Row ((((w2.setCell ⟨Z + 1, 0, none⟩ (.bool false)).setCell ⟨Z + 1, 1, none⟩ (.slice none 0 0)).setCell ⟨Z + 1, 2, none⟩ (.int .u32 2164228224)).setCell ⟨Z + 1, 3, none⟩ (.slice none 0 0)) (Z + 1) 56 #[.bool false, .slice none 0 0, .int .u32 2164228224, .slice none 0 0]) := by
    have := (((HR2.out.put 0 (.bool false)).put 1 (.slice none 0 0)).put 2 (.int .u32 2164228224)).put 3 (.slice none 0 0)
    unfold Hid; simpa [nilAn] using this
  have HX9 := Lib.hid (HX.out.out HBW.out hT9 (fun k hk => by obtain rfl := List.mem_singleton.1 hk; have := HZl.out; omega) HTl.out.1 HTl.out.2)
  clear hT9 HR2 HX
  clear HW2
  go_wp2
  exact bodyPost_ret (v := .agg #[.bool false, .slice none 0 0, .int .u32 2164228224, .slice none 0 0]) (results_cell_row rfl _ _ (Z + 1) 56 _ (0, 0) _ rfl HZ9.out Tryz.underlying56 rfl (by kernel_rfl)) rfl ⟨_, rfl, HX9.out⟩
theorem do_allcid (h : AbIs w b T F c S) (arg : Nat) :
    Calls Tryz.prog 71 #[.pointer (some ⟨b.E, 0, none⟩), .agg #[.int .i64 2, .int .u32 arg]] w fun e w' => ∃ v, e = .returned v ∧ NxA w w' b T F c S v ⟨false, cidL, 0, []⟩ := by
  obtain ⟨W, hW⟩ : ∃ W, W = (w.alloc (.cells #[.int .i64 2, .int .u32 arg] 89)).alloc (.cells nilAn 56) := ⟨_, rfl⟩
  obtain ⟨Z, hZ⟩ : ∃ Z, Z = w.heap.size := ⟨_, rfl⟩
  have HBW : Hid (Below w.heap.size w W) := by unfold Hid; rw [hW]; (repeat (first | (with_reducible refine Below.drew ?_) | (with_reducible refine below_drewN0 ?_ _) | ((with_reducible refine Below.setCell ?_ ?_ _); rotate_left; focus (first | omega | (simp; done) | (simp; omega) | (simp at *; omega))) | ((with_reducible refine Below.alloc ?_ ?_ _); rotate_left; focus (first | omega | (simp; done) | (simp; omega) | (simp at *; omega))) | (with_reducible exact Below.refl _ _)))
  have HZ : Hid (Row W Z 89 #[.int .i64 2, .int .u32 arg]) := by unfold Hid; rw [hW, hZ]; exact (Row.fresh _ _ _).alloc _
  have HRr : Hid (Row W (Z + 1) 56 nilAn) := by
    unfold Hid; rw [hW, hZ]
    have := Row.fresh (w.alloc (.cells #[.int .i64 2, .int .u32 arg] 89)) 56 nilAn
    simpa using this
  have hA0 := h.below HBW.out
  have HA0 := Lib.hid hA0
  have HTl := Lib.hid (And.intro h.Tlt h.Flt)
  have HZl : Hid (w.heap.size = Z ∧ Z + 1 < W.heap.size) := ⟨hZ.symm, HRr.out.lt⟩
  have z0 : W.cell? ⟨Z, 0, none⟩ = some (.int .i64 2) := by rw [HZ.out.cell]; rfl
  have z1 : W.cell? ⟨Z, 1, none⟩ = some (.int .u32 arg) := by rw [HZ.out.cell]; rfl
  unfold nilAn at hW
  have HCi := Lib.hid (Cid_any W)
  clear h hA0 z1
  go_enter Tryz.func71, Tryz.ntmps71
  go_upto_region 1 with fail
  rw [← hZ]
  rw [hZ, ← hW, ← hZ]
  clear hW hZ
  go_wp2_with fail
  refine HCi.out.mono ?_
  rintro e w2 ⟨A1, n1, rfl, hown, hb⟩
  have HX : Hid (NxA W w2 b T F c S (.agg #[.bool false, .slice A1 16 n1, .int .u32 0, .slice none 0 0]) ⟨false, cidL, 0, []⟩) := NxA.same HA0.out hb ⟨_, _, rfl, ⟨A1, n1, rfl, hown, by simp⟩, BlsIs.nil _ _ _⟩
  clear HCi hown hb HA0 z0
  have HR2 : Hid (Row w2 (Z + 1) 56 nilAn) := HX.out.turns.row HRr.out (fun hm => by have := HTl.out.1 _ hm; have := HZl.out; omega)
  have m0 : w2.cell? ⟨Z + 1, 0, none⟩ = some (.bool false) := by rw [HR2.out.cell]; rfl
  have m1 : w2.cell? ⟨Z + 1, 1, none⟩ = some (.slice none 0 0) := by rw [HR2.out.cell]; rfl
  have m2 : w2.cell? ⟨Z + 1, 2, none⟩ = some (.int .u32 0) := by rw [HR2.out.cell]; rfl
  have m3 : w2.cell? ⟨Z + 1, 3, none⟩ = some (.slice none 0 0) := by rw [HR2.out.cell]; rfl
  have g0 := HR2.out.frozen 0
  have g1 := HR2.out.frozen 1
  have g2 := HR2.out.frozen 2
  have g3 := HR2.out.frozen 3
  have hT9 : Turns w2 ((((w2.setCell ⟨Z + 1, 0, none⟩ (.bool false)).setCell ⟨Z + 1, 1, none⟩ (.slice A1 16 n1)).setCell ⟨Z + 1, 2, none⟩ (.int .u32 0)).setCell ⟨Z + 1, 3, none⟩ (.slice none 0 0)) [Z + 1] := ((((Turns.refl _ _).setCell (by simp) _).setCell (by simp) _).setCell (by simp) _).setCell (by simp) _
  have HZ9 : Hid (Row ((((w2.setCell ⟨Z + 1, 0, none⟩ (.bool false)).setCell ⟨Z + 1, 1, none⟩ (.slice A1 16 n1)).setCell ⟨Z + 1, 2, none⟩ (.int .u32 0)).setCell ⟨Z + 1, 3, none⟩ (.slice none 0 0)) (Z + 1) 56 #[.bool false, .slice A1 16 n1, .int .u32 0, .slice none 0 0]) := by
    have := (((HR2.out.put 0 (.bool false)).put 1 (.slice A1 16 n1)).put 2 (.int .u32 0)).put 3 (.slice none 0 0)
    unfold Hid; simpa [nilAn] using this
  have HX9 := Lib.hid (HX.out.out HBW.out hT9 (fun k hk => by obtain rfl := List.mem_singleton.1 hk; have := HZl.out; omega) HTl.out.1 HTl.out.2)
  clear hT9 HR2 HX
  go_wp2
  exact bodyPost_ret (v := .agg #[.bool false, .slice A1 16 n1, .int .u32 0, .slice none 0 0]) (results_cell_row rfl _ _ (Z + 1) 56 _ (0, 0) _ rfl HZ9.out Tryz.underlying56 rfl (by kernel_rfl)) rfl ⟨_, rfl, HX9.out⟩
end
end Go.Proofs.YtclhhdodebdmjaaGreat
