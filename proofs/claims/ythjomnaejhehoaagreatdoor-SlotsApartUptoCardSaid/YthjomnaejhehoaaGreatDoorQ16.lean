/- What follows is laid together from several texts of mine, in their order. -/
import Derived.Test.YthjomnaejhehoaaGreatDoorQ13
import Derived.Test.YthjomnaejhehoaaGreatDoorQ15
import Derived.WalkMore

namespace Go.Proofs.YthjomnaejhehoaaGreatDoor
open Go.RowKit Go.MapKept Go.ChangeMaps
set_option linter.unusedVariables false
set_option linter.unusedSimpArgs false

section
variable {w : World} {B M Q F L n : Nat} {P : Nat → Nat} {S : Fl} {bad : Nat → Bool} {md : Int}
/-- What newest leaves. -/
def NewPost (w : World) (B M Q F L : Nat) (P : Nat → Nat) (S : Fl) (n : Nat) (bad : Nat → Bool) (x : Option (Nat × Vals)) (e : Ending) (w' : World) : Prop :=
  (∃ md', MedIs w' B M Q F L P S n bad md') ∧ Turns w w' [M, F] ∧ (x = none → e = .returned (.tuple #[.int .u64 0, .map none, .bool false])) ∧
    ∀ q V, x = some (q, V) → ∃ Vb, e = .returned (.tuple #[.int .u64 q, .map (some Vb), .bool true]) ∧ ValsIs w' w.heap.size Vb V ∧ w.heap.size ≤ Vb
theorem mf_med {g : Nat} (hg : g ∈ [M, F]) : g ∈ medT M Q F L P S.nb := mem_medT.2 (by
  simp at hg
  rcases hg with rfl | rfl
  · exact .inl rfl
  · exact .inr (.inr (.inl rfl)))
set_option maxRecDepth 100000 in
set_option maxHeartbeats 4000000 in
theorem newest_any (h : MedIs w B M Q F L P S n bad md) (k : Nat) (hk : k < S.nb) (ho : S.off = false) (x : Option (Nat × Vals)) (hx : NwIs S n k x) (St : Nat) (hc : w.cell? ⟨St, 0, none⟩ = some (.pointer (some ⟨M, 0, none⟩))) (hS : St ∉ medT M Q F L P S.nb) :
    Calls Tryz.prog 49 #[.pointer (some ⟨St, 0, none⟩), .int .i64 k] w (NewPost w B M Q F L P S n bad x) := by
  have HN := Lib.hid (Next_in h.fl k hk)
  have hn0 := nil_next F
  have hm0 := met_next F
  have hM0 := h.cells.1
  have HH := Lib.hid h
  have HK := Lib.hid hk
  have HO := Lib.hid ho
  have HX := Lib.hid hx
  have hn6 : n ≤ 512 := by have := h.bytes; have := h.fl.ok.chunks; omega
  have hn1 : 0 < n := h.bytes.1
  have hnx : (S.b k).next ≤ S.has k := (h.fl.ok.wf k hk).next
  have hle := has_le h.fl.ok k
  have hpg := h.fl.ok.pages
  have HPost : Hid (∀ e w', (∃ md', MedIs w' B M Q F L P S n bad md') → Turns w w' [M, F] → (x = none → e = .returned (.tuple #[.int .u64 0, .map none, .bool false])) → (∀ q V, x = some (q, V) → ∃ Vb, e = .returned (.tuple #[.int .u64 q, .map (some Vb), .bool true]) ∧ ValsIs w' w.heap.size Vb V ∧ w.heap.size ≤ Vb) → NewPost w B M Q F L P S n bad x e w') := fun e w' a b c d => ⟨a, b, c, d⟩
  have HS := Lib.hid hS
  have HLt := Lib.hid (show (S.b k).next ≤ S.has k ∧ S.has k ≤ 256 from ⟨hnx, by omega⟩)
  have hnx2 : (S.b k).next ≤ 256 := by omega
  cases hh : (S.b k).half with
  | true =>
    rw [if_pos hh] at HN
    have HNone : Hid (x = none) := by
      have h1 : S.newest n k = none := by unfold Fl.newest; rw [hh]; rfl
      cases x with
      | none => rfl
      | some y => have := hx.1; rw [h1] at this; cases this
    clear h hk ho hx hS hnx hle hpg hh
    go_enter Tryz.func49, Tryz.ntmps49
    go_wp2
    go_step3
    go_wp2_with fail
    refine HN.out.mono ?_
    rintro e w1 ⟨rfl, rfl⟩
    clear HN hn0 hm0
    go_wp2
    go_step3
    go_wp2
    go_loopw [8] (fun v wr => v = .int .i64 (-2) ∧ wr = w) (fun _ _ => 0)
    case atStart => exact ⟨rfl, rfl⟩
    case round =>
      obtain ⟨rfl, rfl⟩ := hrel
      go_wp2
      rw [Exit.noGoto_ret]
      refine bodyPost_ret (v := .tuple #[.int .u64 0, .map none, .bool false]) (by simp [results, Tryz.results49, go_sem]) rfl (HPost.out _ _ ⟨_, HH.out⟩ (Turns.refl _ _) (fun _ => rfl) (fun q V h => by rw [HNone.out] at h; cases h))
  | false =>
    rw [if_neg (by rw [hh]; simp)] at HN
    have HHf := Lib.hid hh
    have HR : Hid (newP S n k (S.b k).next = S.newest n k) := by unfold Hid Fl.newest; rw [hh]; rfl
    obtain ⟨nx, hnxe⟩ : ∃ nx, nx = (S.b k).next := ⟨_, rfl⟩
    rw [← hnxe] at HN HR HLt hnx2
    clear h hk ho hx hS hnx hle hpg hh hnxe
    go_enter Tryz.func49, Tryz.ntmps49
    go_wp2
    go_step3
    go_wp2_with fail
    refine HN.out.mono ?_
    rintro e w1 ⟨rfl, rfl⟩
    clear HN hn0 hm0
    go_wp2
    go_step3
    go_wp2
    go_loopw [8] (fun v wr => ∃ (m : Nat) (a : Int), v = .int .i64 a ∧ a + 1 = m ∧ m ≤ nx ∧ newP S n k m = S.newest n k ∧ (∃ md', MedIs wr B M Q F L P S n bad md') ∧ Turns w wr [M, F]) (fun v _ => ((intOf v) + 1).toNat)
    case atStart => exact ⟨nx, _, rfl, by omega, Nat.le_refl _, HR.out, ⟨_, HH.out⟩, Turns.refl _ _⟩
    case round =>
      obtain ⟨m, a, rfl, ha, hm, hnp, ⟨md', hmd⟩, ht⟩ := hrel
      have HMd := Lib.hid hmd
      have HT := Lib.hid ht
      have HNp := Lib.hid hnp
      have c0 : wr.cell? ⟨St, 0, none⟩ = some (.pointer (some ⟨M, 0, none⟩)) := ht.cell hc (fun hm => HS.out (mf_med hm))
      clear hmd ht hnp HR hM0
      cases m with
      | zero =>
        obtain rfl : a = -1 := by omega
        clear ha
        go_wp2
        rw [Exit.noGoto_ret]
        refine bodyPost_ret (v := .tuple #[.int .u64 0, .map none, .bool false]) (by simp [results, Tryz.results49, go_sem]) rfl (HPost.out _ _ ⟨_, HMd.out⟩ HT.out (fun _ => rfl) (fun q V h => by
          have h1 := HX.out
          rw [h] at h1
          have h2 := h1.1
          rw [← HNp.out] at h2
          cases h2))
      | succ m =>
        obtain rfl : a = (m : Int) := by omega
        clear ha
        have HRd := Lib.hid (MRead_core HMd.out k HK.out m (by have := HLt.out; omega) HO.out HHf.out)
        have HT2 : Hid (∀ w2, Turns wr w2 [M, F] → Turns w w2 [M, F]) := fun w2 h => HT.out.trans h (fun g hg => .inl hg)
        by_cases hhow : howOf (S.raw k m) S.chunks = 2
        · have HHow := Lib.hid hhow
          have hrd : S.rd n k m = some ((rBytes (S.raw k m) S.chunks).take n) := by unfold Fl.rd; rw [if_pos hhow]
          have hnp := HNp.out
          rw [newP, hrd] at hnp
          have HNw := Lib.hid hnp
          clear hhow hrd hnp
          go_wp2_with fail
          refine HRd.out.mono ?_
          rintro e w2 ⟨hmd2, ht2, _, _, h5⟩
          obtain ⟨A, qc, rfl, ho⟩ := h5 HHow.out
          obtain ⟨g, rfl, hnq⟩ := own_addr ho hn1
          have HMd2 := Lib.hid hmd2
          have HTt := Lib.hid (HT2.out w2 ht2)
          have hz := (HT2.out w2 ht2).size
          have HZ := Lib.hid hz
          cases x with
          | none => exact absurd (HNw.out.trans HX.out) (by simp)
          | some y =>
            obtain ⟨q, V⟩ := y
            have hx := HX.out
            obtain ⟨hx1, hx2, hx3, hx4⟩ := hx
            have hd : (rBytes (S.raw k m) S.chunks).take n = pageB n q V := Option.some.inj (HNw.out.trans hx1)
            rw [hd] at ho
            have hl := pageB_length q hx4
            have hc8 : Cells8 w2 (some ⟨g, 0, none⟩) (pageB n q V) := (Cells8.of_own (show w2.ownsRow _ 5 1 (.slice (some ⟨g, 0, none⟩) n qc) n ((pageB n q V).map fun (x : Nat) => Value.int .u8 (x : Int)) from ho)).2
            have HPa := Lib.hid (parse_page g qc n q V hx3 hx4 hn6 hnq hx2 w2 hc8)
            clear HRd hmd2 ht2 h5 ho hx1 hx2 hx3 hx4 hd hl hc8 hz c0
            go_wp2_with fail
            refine HPa.out.mono ?_
            rintro e w3 ⟨Vb, rfl, hv, hvb, hb3⟩
            have HV := Lib.hid (hv.low HZ.out)
            have HVb := Lib.hid (Nat.le_trans HZ.out hvb)
            have HB3 := Lib.hid hb3
            clear HPa hv hvb hb3
            go_wp2
            rw [Exit.noGoto_ret]
            refine bodyPost_ret (v := .tuple #[.int .u64 q, .map (some Vb), .bool true]) (by simp [results, Tryz.results49, go_sem]) rfl (HPost.out _ _ ⟨_, HMd2.out.below HB3.out⟩ (HTt.out.then_below HB3.out) (fun h => by cases h) (fun q' V' h => ?_))
            injection h with h
            injection h with h1 h2
            subst h1
            subst h2
            exact ⟨_, rfl, HV.out, HVb.out⟩
        · have hrd : S.rd n k m = none := by unfold Fl.rd; rw [if_neg hhow]
          have hnp := HNp.out
          rw [newP, hrd] at hnp
          have HNw : Hid (newP S n k m = S.newest n k) := hnp
          have how := howOf_of (S.raw k m) S.chunks
          have h01 : (howOf (S.raw k m) S.chunks = 0 ∨ howOf (S.raw k m) S.chunks = 1) ∨ howOf (S.raw k m) S.chunks = 3 := by omega
          clear hnp hrd how hhow
          rcases h01 with h01 | h01
          · have H01 := Lib.hid h01
            clear h01
            go_wp2_with fail
            refine HRd.out.mono ?_
            rintro e w2 ⟨hmd2, ht2, h3, _, _⟩
            obtain rfl := h3 H01.out
            have HMd2 := Lib.hid hmd2
            have HTt := Lib.hid (HT2.out w2 ht2)
            clear HRd hmd2 ht2 h3 c0
            go_wp2
            go_roundw
            case rel => exact ⟨m, _, by go_num, by omega, by omega, HNw.out, ⟨_, HMd2.out⟩, HTt.out⟩
            case measure => simp [intOf]
          · have H01 := Lib.hid h01
            clear h01
            go_wp2_with fail
            refine HRd.out.mono ?_
            rintro e w2 ⟨hmd2, ht2, _, h3, _⟩
            obtain rfl := h3 H01.out
            have HMd2 := Lib.hid hmd2
            have HTt := Lib.hid (HT2.out w2 ht2)
            clear HRd hmd2 ht2 h3 c0
            go_wp2
            go_roundw
            case rel => exact ⟨m, _, by go_num, by omega, by omega, HNw.out, ⟨_, HMd2.out⟩, HTt.out⟩
            case measure => simp [intOf]
end
end Go.Proofs.YthjomnaejhehoaaGreatDoor

namespace Go.Proofs.YthjomnaejhehoaaGreatDoor
open Go.RowKit Go.MapKept Go.ChangeMaps
set_option linter.unusedVariables false
set_option linter.unusedSimpArgs false

/-- All but one block is as it was. -/
structure Keeps (S S' : Fl) (k : Nat) : Prop where
  b : ∀ i, i ≠ k → S'.b i = S.b i
  chunks : S'.chunks = S.chunks
  nb : S'.nb = S.nb
  pages : S'.pages = S.pages
  failed : ∀ i, (S'.b i).failed = (S.b i).failed
section
variable {w w' : World} {B M Q F L n : Nat} {P : Nat → Nat} {S : Fl} {bad : Nat → Bool} {md : Int}
theorem MedIs.no_row (h : MedIs w B M Q F L P S n bad md) {g : Nat} {t : TypeId} {cs : Array Value} (hr : Row w g t cs) (h1 : t ≠ 93) (h2 : t ≠ 46) (h3 : t ≠ 85) (h4 : t ≠ 22) : g ∉ medT M Q F L P S.nb := fun hm => by
  rcases mem_medT.1 hm with rfl | rfl | rfl | rfl | ⟨i, hi, rfl⟩
  · exact Row.ne_type hr h.row h1 rfl
  · exact h.bad.not_row _ _ hr
  · obtain ⟨_, hr'⟩ := h.fl.rowF; exact Row.ne_type hr hr' h2 rfl
  · obtain ⟨_, hr'⟩ := h.fl.rowL; exact Row.ne_type hr hr' h3 rfl
  · obtain ⟨_, hr'⟩ := h.fl.rowP hi; exact Row.ne_type hr hr' h4 rfl
theorem MedIs.aside {T : List Nat} (h : MedIs w B M Q F L P S n bad md) (ht : Turns w w' T) (hT : ∀ g ∈ T, g ∉ medT M Q F L P S.nb) (hb : NoU8 w T) (h0 : 0 ∉ T) : MedIs w' B M Q F L P S n bad md :=
  ⟨h.hB, h.hM, h.hQ, h.fl.turns ht (fun g hg hx => hT g hg (fl_med hx)) hb, ht.row h.row (fun hm => hT _ hm (mem_medT.2 (.inl rfl))), h.bad.turns ht (fun hm => hT _ hm (mem_medT.2 (.inr (.inl rfl)))), h.bytes, h.tab.turns ht h0⟩
theorem MedIs.noU8 (h : MedIs w B M Q F L P S n bad md) : NoU8 w (medT M Q F L P S.nb) := fun g cs hr => h.no_bytes hr
/-- A map of values stands aside. -/
theorem MedIs.no_vals (h : MedIs w B M Q F L P S n bad md) {B' Vb : Nat} {V : Vals} (hv : ValsIs w B' Vb V) (hq : Vb ≠ Q) : Vb ∉ medT M Q F L P S.nb := fun hm => by
  rcases mem_medT.1 hm with rfl | rfl | rfl | rfl | ⟨i, hi, rfl⟩
  · exact hv.not_row _ _ h.row
  · exact hq rfl
  · obtain ⟨_, hr'⟩ := h.fl.rowF; exact hv.not_row _ _ hr'
  · obtain ⟨_, hr'⟩ := h.fl.rowL; exact hv.not_row _ _ hr'
  · obtain ⟨_, hr'⟩ := h.fl.rowP hi; exact hv.not_row _ _ hr'
/-- A store stands aside of what a media turns. -/
theorem StIs.behind {St Bk Vb : Nat} {l : List Nat} {c : Nat} {a : Int} {q : Nat} {V : Vals} {T : List Nat} (h : StIs w B St Bk Vb M l c a q V) (hm : MedIs w B M Q F L P S n bad md) (hq : Vb ≠ Q) (ht : Turns w w' T) (hT : ∀ g ∈ T, g ∈ medT M Q F L P S.nb) : StIs w' B St Bk Vb M l c a q V := by
  obtain ⟨cur, hr, _⟩ := h.bl_row
  exact h.turns ht (fun hg => hm.no_row h.row (by decide) (by decide) (by decide) (by decide) (hT _ hg)) (fun hg => hm.no_row hr (by decide) (by decide) (by decide) (by decide) (hT _ hg)) (fun hg => hm.no_vals h.vals hq (hT _ hg)) (fun g cs hr hg => hm.no_bytes hr (hT _ hg))
end
theorem keeps_erased (S : Fl) (k : Nat) (one : Bool) : Keeps S (S.erased k one) k := ⟨fun i hi => erased_ne S one hi, rfl, rfl, rfl, fun i => erased_failed S k i one⟩
theorem keeps_wrote (S : Fl) (k : Nat) (r : List Nat) : Keeps S (S.wrote k r) k := ⟨fun i hi => wrote_ne S r hi, rfl, rfl, rfl, fun i => wrote_failed S k i r⟩
theorem keeps_torn (S : Fl) (k : Nat) (r : List Nat) : Keeps S (S.torn k r) k := ⟨fun i hi => torn_ne S r hi, rfl, rfl, rfl, fun i => torn_failed S k i r⟩
theorem keeps_cutE (S : Fl) (k : Nat) : Keeps S (S.cutE k) k := ⟨fun i hi => cutE_ne S hi, cutE_chunks S k, cutE_nb S k, cutE_pages S k, cutE_failed S k⟩
theorem Keeps.trans {S S1 S2 : Fl} {k : Nat} (h : Keeps S S1 k) (h' : Keeps S1 S2 k) : Keeps S S2 k :=
  ⟨fun i hi => (h'.b i hi).trans (h.b i hi), h'.chunks.trans h.chunks, h'.nb.trans h.nb, h'.pages.trans h.pages, fun i => (h'.failed i).trans (h.failed i)⟩
theorem cutE_off (S : Fl) (k : Nat) : (S.cutE k).off = true := by unfold Fl.cutE; split <;> rfl
theorem torn_half (S : Fl) (k : Nat) (r : List Nat) : ((S.torn k r).b k).half = (S.b k).half := by
  show ((S.setB k (progB S k r (S.armed - 1))).b k).half = _
  rw [Fl.setB_self]
  unfold progB
  split <;> rfl
theorem armed_wrote (S : Fl) (k : Nat) (r : List Nat) (h : S.armed = 0) : (S.wrote k r).armed = 0 := by
  show S.armed - S.chunks = 0
  omega
theorem armed_erased (S : Fl) (k : Nat) (one : Bool) (h : S.armed = 0) : (S.erased k one).armed = 0 := by
  show S.armed - 2 = 0
  omega
/-- What put leaves. -/
def PutPost (w : World) (B M Q F L : Nat) (P : Nat → Nat) (S : Fl) (n St Bk Vb Nb : Nat) (l : List Nat) (c : Nat) (a : Int) (q : Nat) (V V' : Vals) (e : Ending) (w' : World) : Prop :=
  ∃ (md' : Int) (bad' : Nat → Bool), (∀ i, bad' i = true → (S.b i).failed = true) ∧ Turns w w' (St :: medT M Q F L P S.nb) ∧
    ((∃ k S', k ∈ l ∧ e = .returned (.int .i64 0) ∧ MedIs w' B M Q F L P S' n bad' md' ∧ StIs w' B St Bk Nb M l c (k : Nat) (q + 1) V' ∧ Keeps S S' k ∧ S'.off = false ∧ S'.newest n k = some (pageB n (q + 1) V') ∧ S'.progs = IntKind.i64.wrap (S.progs + 1) ∧ (S.armed = 0 → S'.armed = 0)) ∨
     (∃ k S', S.armed ≠ 0 ∧ k ∈ l ∧ e = .returned (.int .i64 4) ∧ MedIs w' B M Q F L P S' n bad' md' ∧ StIs w' B St Bk Vb M l c a q V ∧ Keeps S S' k ∧ S'.off = true ∧ ((((k : Nat) : Int) ≠ a ∧ (S'.newest n k = S.newest n k ∨ S'.newest n k = none)) ∨ (((k : Nat) : Int) = a ∧ S'.newest n k = S.newest n k ∧ (S'.b k).half = (S.b k).half))) ∨
     (e = .returned (.int .i64 7) ∧ MedIs w' B M Q F L P S n bad' md' ∧ StIs w' B St Bk Vb M l c a q V ∧ ∀ k ∈ l, ((k : Nat) : Int) ≠ a → (S.b k).failed = true))
theorem erased_room (S : Fl) (bad : Nat → Bool) (k : Nat) (hb : bad k = false) (hp : 2 ≤ S.pages) : (S.erased k false).room bad k ≠ 0 := by
  have hpg : (S.erased k false).pages = S.pages := rfl
  unfold Fl.room Fl.has hasOf
  rw [erased_b, hb, hpg]
  simp; omega
section
variable {w w' : World} {B M Q F L n : Nat} {P : Nat → Nat} {S : Fl} {bad : Nat → Bool} {md : Int}
theorem q_med {g : Nat} (hg : g ∈ [Q]) : g ∈ medT M Q F L P S.nb := mem_medT.2 (.inr (.inl (List.mem_singleton.1 hg)))
/-- A write that is refused, as the next block is then sought. -/
theorem MWrite_7 (h : MedIs w B M Q F L P S n bad md) (hbad : ∀ k, bad k = true → (S.b k).failed = true) (k : Nat) (hk : k < S.nb) (A : Option Addr) (c : Nat) (d : List Nat) (hd : d.length = n) (h256 : ∀ u ∈ d, u < 256) (hc : Cells8 w A d) (ho : S.off = false) (hx : bad k = true ∨ (S.room bad k ≠ 0 ∧ (S.b k).failed = true)) :
    Calls Tryz.prog 63 #[.pointer (some ⟨M, 0, none⟩), .int .i64 k, .slice A n c] w fun e w' => e = .returned (.tuple #[.int .i64 0, .int .i64 7]) ∧ ∃ (bad3 : Nat → Bool) (md3 : Int), MedIs w' B M Q F L P S n bad3 md3 ∧ (∀ i, bad3 i = true → (S.b i).failed = true) ∧ Turns w w' (medT M Q F L P S.nb) := by
  by_cases hb : bad k = true
  · exact (MWrite_bad h k hk A c hb).mono fun e w' ⟨he, m, hw⟩ => ⟨he, bad, md, by rw [hw]; exact h.drewN m, hbad, by rw [hw]; exact (Turns.refl _ _).drewN m⟩
  · rcases hx with hx | ⟨hr, hf⟩
    · exact absurd hx hb
    · exact (MWrite_failed h k hk A c d hd h256 hc hr ho hf).mono fun e w' ⟨he, hm, ht⟩ => ⟨he, _, _, hm, fun i hi => by
        unfold setBad at hi
        by_cases e1 : i = k
        · rw [e1]; exact hf
        · have e2 : (i == k) = false := by simpa using e1
          rw [e2, Bool.false_or] at hi
          exact hbad i hi, ht.mono (fun g hg => q_med hg)⟩
theorem MWrite_3 (h : MedIs w B M Q F L P S n bad md) (k : Nat) (hk : k < S.nb) (A : Option Addr) (c : Nat) (hb : bad k = false) (hr : S.room bad k = 0) :
    Calls Tryz.prog 63 #[.pointer (some ⟨M, 0, none⟩), .int .i64 k, .slice A n c] w fun e w' => e = .returned (.tuple #[.int .i64 0, .int .i64 3]) ∧ MedIs w' B M Q F L P S n bad md ∧ Turns w w' (medT M Q F L P S.nb) :=
  (MWrite_full h k hk A c hb hr).mono fun e w' ⟨he, m, hw⟩ => ⟨he, by rw [hw]; exact h.drewN m, by rw [hw]; exact (Turns.refl _ _).drewN m⟩
theorem MErase_7 (h : MedIs w B M Q F L P S n bad md) (hbad : ∀ k, bad k = true → (S.b k).failed = true) (k : Nat) (hk : k < S.nb) (hb : bad k = false) (ho : S.off = false) (hf : (S.b k).failed = true) :
    Calls Tryz.prog 41 #[.pointer (some ⟨M, 0, none⟩), .int .i64 k, .bool false] w fun e w' => e = .returned (.int .i64 7) ∧ ∃ (bad3 : Nat → Bool) (md3 : Int), MedIs w' B M Q F L P S n bad3 md3 ∧ (∀ i, bad3 i = true → (S.b i).failed = true) ∧ Turns w w' (medT M Q F L P S.nb) :=
  (MErase_failed h k hk false hb ho hf).mono fun e w' ⟨he, hm, ht⟩ => ⟨he, _, _, hm, fun i hi => by
    unfold setBad at hi
    by_cases e1 : i = k
    · rw [e1]; exact hf
    · have e2 : (i == k) = false := by simpa using e1
      rw [e2, Bool.false_or] at hi
      exact hbad i hi, ht.mono (fun g hg => q_med hg)⟩
theorem MWrite_4 (h : MedIs w B M Q F L P S n bad md) (k : Nat) (hk : k < S.nb) (A : Option Addr) (c : Nat) (d : List Nat) (hd : d.length = n) (h256 : ∀ u ∈ d, u < 256) (hc : Cells8 w A d) (hA : ∀ a, A = some a → a.block ∉ medT M Q F L P S.nb) (hr : S.room bad k ≠ 0) (ho : S.off = false) (hf : (S.b k).failed = false) (ha : 1 ≤ S.armed ∧ S.armed ≤ S.chunks) :
    Calls Tryz.prog 63 #[.pointer (some ⟨M, 0, none⟩), .int .i64 k, .slice A n c] w fun e w' => e = .returned (.tuple #[.int .i64 0, .int .i64 4]) ∧ MedIs w' B M Q F L P (S.torn k (laid d S.chunks)) n bad md ∧ Turns w w' (medT M Q F L P S.nb) :=
  (MWrite_cut h k hk A c d hd h256 hc hA hr ho hf ha).mono fun e w' ⟨ht, _, h2⟩ => ⟨(h2 ha.1 ha.2).1, (h2 ha.1 ha.2).2, ht⟩
theorem MWrite_0 (h : MedIs w B M Q F L P S n bad md) (k : Nat) (hk : k < S.nb) (A : Option Addr) (c : Nat) (d : List Nat) (hd : d.length = n) (h256 : ∀ u ∈ d, u < 256) (hc : Cells8 w A d) (hA : ∀ a, A = some a → a.block ∉ medT M Q F L P S.nb) (hr : S.room bad k ≠ 0) (ho : S.off = false) (hf : (S.b k).failed = false) (ha : S.armed = 0 ∨ S.chunks < S.armed) :
    Calls Tryz.prog 63 #[.pointer (some ⟨M, 0, none⟩), .int .i64 k, .slice A n c] w fun e w' => (∃ x : Nat, e = .returned (.tuple #[.int .i64 x, .int .i64 0])) ∧ (∃ md3, MedIs w' B M Q F L P (S.wrote k (laid d S.chunks)) n bad md3) ∧ Turns w w' (medT M Q F L P S.nb) :=
  (MWrite_done h k hk A c d hd h256 hc hA hr ho hf ha).mono fun e w' ⟨ht, h1, _⟩ => ⟨⟨_, (h1 ha).1⟩, ⟨_, (h1 ha).2⟩, ht⟩
end
set_option maxRecDepth 100000 in
set_option maxHeartbeats 16000000 in
theorem sput_any {w : World} {B M Q F L n : Nat} {P : Nat → Nat} {S : Fl} {bad : Nat → Bool} {md : Int} (h : MedIs w B M Q F L P S n bad md) {St Bk Vb : Nat} {l : List Nat} {c : Nat} {a : Int} {q : Nat} {V : Vals} (st : StIs w B St Bk Vb M l c a q V) (hVQ : Vb ≠ Q)
    (Nb : Nat) (V' : Vals) (hN : ValsIs w B Nb V') (hNB : B ≤ Nb) (hNQ : Nb ≠ Q) (hV : OkV V') (hF : FitV n V') (ho : S.off = false) (hbad : ∀ k, bad k = true → (S.b k).failed = true) (hl : ∀ k ∈ l, k < S.nb) (hne : 0 < l.length) (hq : q + 1 < 9223372036854775808) :
    Calls Tryz.prog 42 #[.pointer (some ⟨St, 0, none⟩), .map (some Nb)] w (PutPost w B M Q F L P S n St Bk Vb Nb l c a q V V') := by
  have hn6 : n ≤ 512 := by have := h.bytes; have := h.fl.ok.chunks; omega
  obtain ⟨c0, _, _, c3, _⟩ := st.cells
  have HBy := Lib.hid (bytes_any h St c0 B Nb V' hN hV hF hn6 (q + 1) (by omega))
  have HOr : Hid (∀ w', Below w.heap.size w w' → Calls Tryz.prog 62 #[.pointer (some ⟨St, 0, none⟩)] w' fun e w'' => ∃ g c', e = .returned (.slice (some ⟨g, 0, none⟩) l.length c') ∧ w''.ownsRow w'.heap.size 3 1 (.slice (some ⟨g, 0, none⟩) l.length c') l.length (natsV (ordOf l a)) ∧ Below w'.heap.size w' w'') := fun w' hb => order_any (st.below hb) hne
  have H0 := Lib.hid h
  have HSt := Lib.hid st
  have HN := Lib.hid hN
  have HO := Lib.hid ho
  have HBad := Lib.hid hbad
  have HL := Lib.hid hl
  have HV := Lib.hid hV
  have HF := Lib.hid hF
  have HQs := Lib.hid (And.intro hVQ (And.intro hNQ hNB))
  obtain ⟨ln, hln⟩ : ∃ ln, ln = l.length := ⟨_, rfl⟩
  have HLn := Lib.hid hln
  have hfew : ln ≤ 1024 := by rw [hln]; exact st.few
  rw [← hln] at HOr hne
  clear h st hN ho hbad hl hV hF hVQ hNQ hNB hln
  go_enter Tryz.func42, Tryz.ntmps42
  go_wp2_with fail
  refine HBy.out.mono ?_
  rintro e w1 ⟨Ab, cb, rfl, hob, hb1⟩
  have HOb := Lib.hid hob
  have HB1 := Lib.hid hb1
  clear HBy hob hb1 c3 c0
  go_wp2_with fail
  refine (HOr.out _ HB1.out).mono ?_
  rintro e w2 ⟨go, co, rfl, hoo, hb2⟩
  have HB2 : Hid (Below w.heap.size w w2) := HB1.out.trans (hb2.mono HB1.out.size)
  have HOo := Lib.hid (own_mono hoo HB1.out.size)
  have HOb2 := Lib.hid (own_below HOb.out hb2)
  clear HOr hoo hb2 HOb HB1
  have HCell : Hid (∀ wr, Turns w2 wr (medT M Q F L P S.nb) → ∀ j, j < ln → wr.cell? ⟨go, j, none⟩ = some (.int .i64 ((ordOf l a).getD j 0 : Nat))) := fun wr ht j hj => by
    obtain ⟨_, cur, hr, _⟩ := own_row HOo.out
    have hm := H0.out.below HB2.out
    have h1 := (ht.own HOo.out (fun g hg => by
      have e : go = g := by injection hg
      subst e
      exact hm.no_row hr (by decide) (by decide) (by decide) (by decide))).cells (g := go) rfl j _ (natsV_get (ordOf l a) j (by rw [ordOf_length, ← HLn.out]; exact hj))
    rwa [addr_add, Nat.zero_add] at h1
  have HDat : Hid (∀ wr, Turns w2 wr (medT M Q F L P S.nb) → Cells8 wr Ab (pageB n (q + 1) V')) := fun wr ht => by
    have hm := H0.out.below HB2.out
    exact (Cells8.of_own (show wr.ownsRow _ 5 1 (.slice Ab n cb) n ((pageB n (q + 1) V').map fun (x : Nat) => Value.int .u8 (x : Int)) from hm.own ht (fun g hg => hg) HOb2.out)).2
  have HA : Hid (∀ ad, Ab = some ad → ad.block ∉ medT M Q F L P S.nb) := fun ad e => by
    have hm := H0.out.below HB2.out
    rcases HOb2.out.2 with ⟨h1, _⟩ | ⟨g, cap, cur, h1, _, hr, _⟩
    · injection h1 with h1; rw [e] at h1; cases h1
    · injection h1 with h1
      rw [e] at h1
      injection h1 with h1
      rw [h1]
      exact hm.no_bytes hr
  have HStr : Hid (∀ wr, Turns w2 wr (medT M Q F L P S.nb) → StIs wr B St Bk Vb M l c a q V) := fun wr ht => (HSt.out.below HB2.out).behind (H0.out.below HB2.out) HQs.out.1 ht (fun g hg => hg)
  have HNr : Hid (∀ wr, Turns w2 wr (medT M Q F L P S.nb) → ValsIs wr B Nb V') := fun wr ht => (HN.out.below HB2.out).turns ht ((H0.out.below HB2.out).no_vals (HN.out.below HB2.out) HQs.out.2.1) (H0.out.below HB2.out).noU8
  have HTw : Hid (∀ wr, Turns w2 wr (medT M Q F L P S.nb) → Turns w wr (St :: medT M Q F L P S.nb)) := fun wr ht => (Turns.of_below HB2.out _).trans ht (fun g hg => .inl (List.mem_cons_of_mem _ hg))
  have HM2 := Lib.hid (H0.out.below HB2.out)
  have HMem : Hid (∀ j, j < ln → (ordOf l a).getD j 0 ∈ l) := fun j hj => by
    rw [← (ordOf_perm l a).mem_iff, List.getD_eq_getElem?_getD, List.getElem?_eq_getElem (by rw [ordOf_length, ← HLn.out]; exact hj)]
    exact List.getElem_mem _
  have HAll : Hid (∀ k ∈ l, ∃ j, j < ln ∧ k = (ordOf l a).getD j 0) := fun k hk => by
    rw [← (ordOf_perm l a).mem_iff] at hk
    obtain ⟨j, hj, e⟩ := List.getElem_of_mem hk
    exact ⟨j, by rw [HLn.out, ← ordOf_length l a]; exact hj, by rw [List.getD_eq_getElem?_getD, List.getElem?_eq_getElem hj]; exact e.symm⟩
  have HPl : Hid ((pageB n (q + 1) V').length = n ∧ ∀ u ∈ pageB n (q + 1) V', u < 256) := ⟨pageB_length _ HF.out, pageB_lt _ HV.out⟩
  clear HB2 HOo HOb2 HSt HN H0
  go_wp2
  go_loopw [22] (fun i wr => ∃ (j : Nat) (bad' : Nat → Bool) (md' : Int), i = .int .i64 j ∧ j ≤ ln ∧ MedIs wr B M Q F L P S n bad' md' ∧ (∀ i, bad' i = true → (S.b i).failed = true) ∧ Turns w2 wr (medT M Q F L P S.nb) ∧ ∀ t, t < j → (((ordOf l a).getD t 0 : Nat) : Int) ≠ a → (S.b ((ordOf l a).getD t 0)).failed = true) (fun i _ => ln - (intOf i).toNat)
  case atStart => exact ⟨0, bad, md, rfl, by omega, HM2.out, HBad.out, Turns.refl _ _, fun t ht => by omega⟩
  case round =>
    obtain ⟨j, bad', md', rfl, hj, hm, hb, ht, hs⟩ := hrel
    have HMr := Lib.hid hm
    have HBr := Lib.hid hb
    have HTr := Lib.hid ht
    have HSr := Lib.hid hs
    have HStw := Lib.hid (HStr.out wr ht)
    obtain ⟨c0, _, c2, c3, _⟩ := (HStr.out wr ht).cells
    clear hm hb ht hs HM2
    by_cases hjn : j < ln
    · have ck := HCell.out wr HTr.out j hjn
      have hkl := HMem.out j hjn
      obtain ⟨k, hk⟩ : ∃ k, k = (ordOf l a).getD j 0 := ⟨_, rfl⟩
      have HK := Lib.hid hk
      rw [← hk] at ck hkl
      have hknb : k < S.nb := HL.out k hkl
      have HKl := Lib.hid (And.intro hkl hknb)
      have HNext : Hid (∀ (w3 : World) (bad3 : Nat → Bool) (md3 : Int), MedIs w3 B M Q F L P S n bad3 md3 → (∀ i, bad3 i = true → (S.b i).failed = true) → Turns wr w3 (medT M Q F L P S.nb) → ((k : Int) ≠ a → (S.b k).failed = true) →
          ∃ (j' : Nat) (bad' : Nat → Bool) (md' : Int), Value.int .i64 ((j : Int) + 1) = .int .i64 j' ∧ j' ≤ ln ∧ MedIs w3 B M Q F L P S n bad' md' ∧ (∀ i, bad' i = true → (S.b i).failed = true) ∧ Turns w2 w3 (medT M Q F L P S.nb) ∧ ∀ t, t < j' → (((ordOf l a).getD t 0 : Nat) : Int) ≠ a → (S.b ((ordOf l a).getD t 0)).failed = true) := fun w3 bad3 md3 h1 h2 h3 h4 =>
        ⟨j + 1, bad3, md3, by go_num, by omega, h1, h2, HTr.out.trans h3 (fun g hg => .inl hg), fun t ht hne => by
          by_cases e : t = j
          · subst e; rw [← HK.out] at hne ⊢; exact h4 hne
          · exact HSr.out t (by omega) hne⟩
      have HErr : Hid (∀ (w3 : World) (S' : Fl) (md3 : Int), MedIs w3 B M Q F L P S' n bad' md3 → Turns wr w3 (medT M Q F L P S.nb) → S.armed ≠ 0 → Keeps S S' k → S'.off = true → (((k : Int) ≠ a ∧ (S'.newest n k = S.newest n k ∨ S'.newest n k = none)) ∨ ((k : Int) = a ∧ S'.newest n k = S.newest n k ∧ (S'.b k).half = (S.b k).half)) →
          PutPost w B M Q F L P S n St Bk Vb Nb l c a q V V' (.returned (.int .i64 4)) w3) := fun w3 S' md3 h1 h2 h6 h3 h4 h5 =>
        ⟨md3, bad', HBr.out, HTw.out w3 (HTr.out.trans h2 (fun g hg => .inl hg)), .inr (.inl ⟨k, S', h6, HKl.out.1, rfl, h1, HStr.out w3 (HTr.out.trans h2 (fun g hg => .inl hg)), h3, h4, h5⟩)⟩
      have HGood : Hid (∀ (w3 : World) (S' : Fl) (md3 : Int), MedIs w3 B M Q F L P S' n bad' md3 → Turns wr w3 (medT M Q F L P S.nb) → (Keeps S S' k ∧ S'.off = false ∧ S'.newest n k = some (pageB n (q + 1) V') ∧ S'.progs = IntKind.i64.wrap (S.progs + 1) ∧ (S.armed = 0 → S'.armed = 0)) →
          PutPost w B M Q F L P S n St Bk Vb Nb l c a q V V' (.returned (.int .i64 0)) (((w3.setCell ⟨St, 2, none⟩ (.int .i64 k)).setCell ⟨St, 3, none⟩ (.int .u64 ((q : Int) + 1))).setCell ⟨St, 4, none⟩ (.map (some Nb)))) := fun w3 S' md3 h1 h2 ⟨h3, h4, h5, h6, hz⟩ => by
        have h7 := HTr.out.trans h2 (fun g hg => .inl hg)
        have hst := HStr.out w3 h7
        have ht : Turns w3 (((w3.setCell ⟨St, 2, none⟩ (.int .i64 k)).setCell ⟨St, 3, none⟩ (.int .u64 ((q : Int) + 1))).setCell ⟨St, 4, none⟩ (.map (some Nb))) [St] := (((Turns.refl _ _).setCell (by simp) _).setCell (by simp) _).setCell (by simp) _
        have hu : NoU8 w3 [St] := fun g cs hr hg => by
          rw [List.mem_singleton.1 hg] at hr
          exact Row.ne_type hr hst.row (by decide) rfl
        have hnr := h1.no_row hst.row (by decide) (by decide) (by decide) (by decide)
        obtain ⟨cur, hbr, _⟩ := hst.bl_row
        have hv := HNr.out w3 h7
        refine ⟨md3, bad', HBr.out, (HTw.out w3 h7).trans ht (fun g hg => .inl (by rw [List.mem_singleton.1 hg]; exact List.mem_cons_self)), .inl ⟨k, S', HKl.out.1, rfl, h1.aside ht (fun g hg => by rw [List.mem_singleton.1 hg]; exact hnr) hu (by have := hst.hS; have := h1.hB; simp; omega), ⟨hst.hS, HQs.out.2.2, ?_, ht.own hst.bl (fun g hg => ?_), hv.turns ht (fun hm => ?_) hu, hst.few⟩, h3, h4, h5, h6, hz⟩⟩
        · have := ((hst.row.put 2 (.int .i64 k)).put 3 (.int .u64 ((q : Int) + 1))).put 4 (.map (some Nb))
          have e1 : (((q + 1 : Nat) : Int)) = (q : Int) + 1 := by omega
          unfold stCells at this ⊢
          rw [e1]
          simpa using this
        · have e : Bk = g := by injection hg
          subst e
          simp
          exact Row.ne_type hbr hst.row (by decide)
        · rw [List.mem_singleton.1 hm] at hv
          exact hv.not_row _ _ hst.row
      clear hk hkl
      by_cases hka : (k : Int) = a
      · have hkb : ((k : Int) != a) = false := by simpa using hka
        have HKa := Lib.hid hka
        have hd8 := HDat.out wr HTr.out
        have hpl := HPl.out
        cases hbk : bad' k with
        | true =>
          have HW := Lib.hid (MWrite_7 HMr.out HBr.out k hknb Ab cb _ hpl.1 hpl.2 hd8 HO.out (.inl hbk))
          clear hka hbk hd8 hpl
          go_wp2_with fail
          refine HW.out.mono ?_
          rintro e w5 ⟨rfl, (⟨bad3, md3, h1, h2, h3⟩)⟩
          have H1 := Lib.hid h1
          have H2 := Lib.hid h2
          have H3 := Lib.hid h3
          clear HW h1 h2 h3
          go_wp2
          go_roundw
          case rel => exact HNext.out _ _ _ H1.out H2.out H3.out (fun h => absurd HKa.out h)
          case measure => simp [intOf]; omega
        | false =>
          by_cases hr : S.room bad' k = 0
          · have HW := Lib.hid (MWrite_3 HMr.out k hknb Ab cb hbk hr)
            clear hka hbk hd8 hpl hr
            go_wp2_with fail
            refine HW.out.mono ?_
            rintro e w5 ⟨rfl, (⟨h1, h3⟩)⟩
            have H1 := Lib.hid h1
            have H3 := Lib.hid h3
            clear HW h1 h3
            go_wp2
            go_roundw
            case rel => exact HNext.out _ _ _ H1.out HBr.out H3.out (fun h => absurd HKa.out h)
            case measure => simp [intOf]; omega
          · have hrp := room_parts hr
            cases hf : (S.b k).failed with
            | true =>
              have HW := Lib.hid (MWrite_7 HMr.out HBr.out k hknb Ab cb _ hpl.1 hpl.2 hd8 HO.out (.inr ⟨hr, hf⟩))
              clear hka hbk hd8 hpl hr hf hrp
              go_wp2_with fail
              refine HW.out.mono ?_
              rintro e w5 ⟨rfl, (⟨bad3, md3, h1, h2, h3⟩)⟩
              have H1 := Lib.hid h1
              have H2 := Lib.hid h2
              have H3 := Lib.hid h3
              clear HW h1 h2 h3
              go_wp2
              go_roundw
              case rel => exact HNext.out _ _ _ H1.out H2.out H3.out (fun h => absurd HKa.out h)
              case measure => simp [intOf]; omega
            | false =>
              have hch := HMr.out.fl.ok.chunks
              have hby := HMr.out.bytes
              by_cases ha : 1 ≤ S.armed ∧ S.armed ≤ S.chunks
              · have HW := Lib.hid (MWrite_4 HMr.out k hknb Ab cb _ hpl.1 hpl.2 hd8 HA.out hr HO.out hf ha)
                have HE : Hid ((S.torn k (laid (pageB n (q + 1) V') S.chunks)).newest n k = S.newest n k) := newest_torn S n k _ (by rw [hpl.1]; exact hby.2) ha.2
                have HAr : Hid (S.armed ≠ 0) := by unfold Hid; omega
                clear hka hbk hd8 hpl hr hf hrp hch hby ha
                go_wp2_with fail
                refine HW.out.mono ?_
                rintro e w5 ⟨rfl, (⟨h1, h3⟩)⟩
                have H1 := Lib.hid h1
                have H3 := Lib.hid h3
                clear HW h1 h3
                go_wp2
                go_ret
                exact HErr.out _ _ _ H1.out H3.out HAr.out (keeps_torn S k _) rfl (.inr ⟨HKa.out, HE.out, torn_half S k _⟩)
              · have HW := Lib.hid (MWrite_0 HMr.out k hknb Ab cb _ hpl.1 hpl.2 hd8 HA.out hr HO.out hf (by omega))
                have HE : Hid ((S.wrote k (laid (pageB n (q + 1) V') S.chunks)).newest n k = some (pageB n (q + 1) V')) := newest_wrote S n k _ hch.1 hpl.1 hby.2 hpl.2 hrp.2.1
                clear hka hbk hd8 hpl hr hf hrp hch hby ha
                go_wp2_with fail
                refine HW.out.mono ?_
                rintro e w5 ⟨⟨x, rfl⟩, ⟨md5, hm5⟩, ht5⟩
                have HM5 := Lib.hid hm5
                have HT5 : Hid (Turns wr w5 (medT M Q F L P S.nb)) := (Turns.refl wr (medT M Q F L P S.nb)).trans ht5 (fun g hg => .inl hg)
                have HT2 : Hid (Turns w2 w5 (medT M Q F L P S.nb)) := HTr.out.trans HT5.out (fun g hg => .inl hg)
                obtain ⟨_, _, d2, d3, d4⟩ := (HStr.out w5 HT2.out).cells
                have f2 := (HStr.out w5 HT2.out).row.frozen 2
                have f3 := (HStr.out w5 HT2.out).row.frozen 3
                have f4 := (HStr.out w5 HT2.out).row.frozen 4
                clear HW hm5 ht5
                go_wp2
                go_ret
                exact HGood.out w5 _ md5 HM5.out HT5.out (⟨keeps_wrote S k _, rfl, HE.out, rfl, fun hz => armed_wrote S k _ hz⟩)
      · have hkb : ((k : Int) != a) = true := by simpa using hka
        have HKa := Lib.hid hka
        have HIs := Lib.hid (IsBad_in HMr.out k hknb)
        cases hbk : bad' k with
        | true =>
          rw [hbk] at HIs
          have HFk := Lib.hid (HBr.out k hbk)
          clear hka hbk
          go_wp2_with fail
          refine HIs.out.mono ?_
          rintro e w3 ⟨rfl, rfl⟩
          clear HIs
          go_wp2
          go_roundw
          case rel => exact HNext.out _ _ _ HMr.out HBr.out (Turns.refl _ _) (fun _ => HFk.out)
          case measure => simp [intOf]; omega
        | false =>
          rw [hbk] at HIs
          cases hf : (S.b k).failed with
          | true =>
            have HEr := Lib.hid (MErase_7 HMr.out HBr.out k hknb hbk HO.out hf)
            have HFk := Lib.hid hf
            clear hka hbk hf
            go_wp2_with fail
            refine HIs.out.mono ?_
            rintro e w3 ⟨rfl, rfl⟩
            clear HIs
            go_wp2_with fail
            refine HEr.out.mono ?_
            rintro e w3 ⟨rfl, bad3, md3, h1, h2, h3⟩
            have H1 := Lib.hid h1
            have H2 := Lib.hid h2
            have H3 := Lib.hid h3
            clear HEr h1 h2 h3
            go_wp2
            go_roundw
            case rel => exact HNext.out _ _ _ H1.out H2.out H3.out (fun _ => HFk.out)
            case measure => simp [intOf]; omega
          | false =>
            by_cases ha : S.armed = 1 ∨ S.armed = 2
            · have HEr := Lib.hid (MErase_cut HMr.out k hknb false hbk HO.out hf ha)
              have HAr : Hid (S.armed ≠ 0) := by unfold Hid; omega
              clear hka hbk hf ha
              go_wp2_with fail
              refine HIs.out.mono ?_
              rintro e w3 ⟨rfl, rfl⟩
              clear HIs
              go_wp2_with fail
              refine HEr.out.mono ?_
              rintro e w3 ⟨rfl, h1, h3⟩
              have H1 := Lib.hid h1
              have H3 := Lib.hid h3
              clear HEr h1 h3
              go_wp2
              go_ret
              exact HErr.out _ _ _ H1.out H3.out HAr.out (keeps_cutE S k) (cutE_off S k) (.inl ⟨HKa.out, newest_cutE S n k⟩)
            · have HEr := Lib.hid (MErase_done HMr.out k hknb false hbk HO.out hf (by omega))
              have hpg := HMr.out.fl.ok.pages
              have hch := HMr.out.fl.ok.chunks
              have hby := HMr.out.bytes
              have HR := Lib.hid (erased_room S bad' k hbk hpg.1)
              have HFk : Hid (((S.erased k false).b k).failed = false) := by unfold Hid; rw [erased_failed]; exact hf
              have HHf : Hid (((S.erased k false).b k).half = false) := by unfold Hid; rw [erased_b]
              have HCh := Lib.hid hch
              have HBy' := Lib.hid hby
              clear hka hbk hf hpg hch hby ha
              go_wp2_with fail
              refine HIs.out.mono ?_
              rintro e w3 ⟨rfl, rfl⟩
              clear HIs
              go_wp2_with fail
              refine HEr.out.mono ?_
              rintro e w3 ⟨rfl, h1, h3⟩
              have H1 := Lib.hid h1
              have H3 := Lib.hid h3
              have HT3 : Hid (Turns w2 w3 (medT M Q F L P S.nb)) := HTr.out.trans h3 (fun g hg => .inl hg)
              have hd8 := HDat.out w3 HT3.out
              have hpl := HPl.out
              have e0 := (HStr.out w3 HT3.out).cells.1
              clear HEr h1 h3
              by_cases ha : 1 ≤ (S.erased k false).armed ∧ (S.erased k false).armed ≤ (S.erased k false).chunks
              · have HW := Lib.hid (MWrite_4 H1.out k hknb Ab cb _ hpl.1 hpl.2 hd8 HA.out HR.out HO.out HFk.out ha)
                have HE : Hid (((S.erased k false).torn k (laid (pageB n (q + 1) V') S.chunks)).newest n k = none) := (newest_torn (S.erased k false) n k _ (by rw [hpl.1]; exact HBy'.out.2) ha.2).trans (newest_erased S n k false)
                have HAr : Hid (S.armed ≠ 0) := by
                  have e : (S.erased k false).armed = S.armed - 2 := rfl
                  unfold Hid; omega
                clear hd8 hpl ha
                go_wp2_with fail
                refine HW.out.mono ?_
                rintro e w5 ⟨rfl, (⟨h1, h3⟩)⟩
                have H5 := Lib.hid h1
                have H6 := Lib.hid h3
                clear HW h1 h3
                go_wp2
                go_ret
                exact HErr.out _ _ _ H5.out (H3.out.trans H6.out (fun g hg => .inl hg)) HAr.out ((keeps_erased S k false).trans (keeps_torn _ k _)) rfl (.inl ⟨HKa.out, .inr HE.out⟩)
              · have HW := Lib.hid (MWrite_0 H1.out k hknb Ab cb _ hpl.1 hpl.2 hd8 HA.out HR.out HO.out HFk.out (by omega))
                have HE : Hid (((S.erased k false).wrote k (laid (pageB n (q + 1) V') S.chunks)).newest n k = some (pageB n (q + 1) V')) := newest_wrote (S.erased k false) n k _ HCh.out.1 hpl.1 HBy'.out.2 hpl.2 HHf.out
                clear hd8 hpl ha
                go_wp2_with fail
                refine HW.out.mono ?_
                rintro e w5 ⟨⟨x, rfl⟩, ⟨md5, hm5⟩, ht5⟩
                have HM5 := Lib.hid hm5
                have HT5 : Hid (Turns wr w5 (medT M Q F L P S.nb)) := H3.out.trans ht5 (fun g hg => .inl hg)
                have HT2 : Hid (Turns w2 w5 (medT M Q F L P S.nb)) := HTr.out.trans HT5.out (fun g hg => .inl hg)
                obtain ⟨_, _, d2, d3, d4⟩ := (HStr.out w5 HT2.out).cells
                have f2 := (HStr.out w5 HT2.out).row.frozen 2
                have f3 := (HStr.out w5 HT2.out).row.frozen 3
                have f4 := (HStr.out w5 HT2.out).row.frozen 4
                clear HW hm5 ht5
                go_wp2
                go_ret
                exact HGood.out w5 _ md5 HM5.out HT5.out (⟨(keeps_erased S k false).trans (keeps_wrote _ k _), rfl, HE.out, rfl, fun hz => armed_wrote _ k _ (armed_erased S k false hz)⟩)
    · obtain rfl : j = ln := by omega
      go_wp2
      go_ret
      exact ⟨md', bad', HBr.out, HTw.out wr HTr.out, .inr (.inr ⟨rfl, HMr.out, HStw.out, fun k hk hne => by
        obtain ⟨t, ht, e⟩ := HAll.out k hk
        rw [e] at hne ⊢
        exact HSr.out t ht hne⟩)⟩
end Go.Proofs.YthjomnaejhehoaaGreatDoor

namespace Go.Proofs.YthjomnaejhehoaaGreatDoor
open Go.RowKit Go.MapKept Go.ChangeMaps
set_option linter.unusedVariables false
set_option linter.unusedSimpArgs false

set_option maxHeartbeats 400000 in
theorem CloneI_any (A : Option Addr) (n c : Nat) (xs : List Value) (hlen : n ≤ 100000) (w : World) (hs : Src w 1 A n xs) (h1 : ∀ u ∈ xs, u.oneCell' = true) :
    Calls Tryz.prog 47 #[.slice A n c] w fun e w' => ∃ A' c', e = .returned (.slice A' n c') ∧ w'.ownsRow w.heap.size 3 1 (.slice A' n c') n xs ∧ Below w.heap.size w w' := by
  obtain ⟨i0, hi, hz0, hz1, hz2⟩ := info_parts int_info
  have q22 : ∀ (w : World) (a : Option Addr) (n c n' c' : Nat), (binOp .eql 26 (.slice a n c) (.slice none n' c')).run Tryz.prog w = .ok (.bool a.isNone) w := fun w a n c n' c' => Lib.run_eql_slice_nil w _ _ a n c n' c' Tryz.underlying26
  cases A with
  | none =>
    have hn : n = 0 := by
      rcases Nat.eq_zero_or_pos n with h | h
      · exact h
      · obtain ⟨_, e, _⟩ := hs.lies h; cases e
    subst hn
    obtain rfl : xs = [] := List.eq_nil_of_length_eq_zero (by simpa using hs.len)
    clear hs h1
    go_enter Tryz.func47, Tryz.ntmps47
    go_wp2
    go_ret
    exact ⟨_, _, rfl, World.ownsRow_nil _ _ _ _, Below.refl _ _⟩
  | some ad =>
    have H1 := Lib.hid h1
    have HO := Lib.hid (World.ownsRow_made (base := w.heap.size) (size := 1) (e := 3) w #[] 0 (Nat.le_refl _) (Nat.zero_le _) rfl)
    have HS := Lib.hid (hs.keep (w' := w.alloc (.cells #[] 3)) (fun a v h => (World.cell?_alloc_lt _ _ _ (World.block_lt_of_cell? w a h)).trans h))
    have HB : Hid (Below w.heap.size w (w.alloc (.cells #[] 3))) := by unfold Hid; (repeat (first | (with_reducible refine Below.drew ?_) | (with_reducible refine below_drewN0 ?_ _) | ((with_reducible refine Below.setCell ?_ ?_ _); rotate_left; focus (first | omega | (simp; done) | (simp; omega) | (simp at *; omega))) | ((with_reducible refine Below.alloc ?_ ?_ _); rotate_left; focus (first | omega | (simp; done) | (simp; omega) | (simp at *; omega))) | (with_reducible exact Below.refl _ _)))
    clear hs h1
    go_enter Tryz.func47, Tryz.ntmps47
    go_wp2_with (at_builtin; refine wpList_append_src _ rfl _ _ 26 rfl w.heap.size 3 i0 (.int .i64 0) 1 8 Tryz.underlying26 hi hz0 hz1 hz2 rfl (by decide) _ 0 [] rfl HO.out (some ad) n c xs rfl HS.out H1.out (by unfold maxLen; omega) (by omega) (by simp) ?_; intro v' w1 hown hgrow hv)
    rw [Nat.zero_add, List.nil_append] at hown
    obtain ⟨A', c', rfl, _, _⟩ := own_shape hown
    have hown := Lib.hid hown
    go_wp2
    go_ret
    refine ⟨A', c', rfl, hown.out, HB.out.grown hgrow (by simp) ?_⟩
    intro k hk
    have : w.heap.size = k := by injection hk
    omega
/-- Those that are good. -/
def good (bad : Nat → Bool) (l : List Nat) : List Nat := l.filter fun k => !bad k
theorem good_take (bad : Nat → Bool) (l : List Nat) (j : Nat) (h : j < l.length) : good bad (l.take (j + 1)) = if bad (l.getD j 0) then good bad (l.take j) else good bad (l.take j) ++ [l.getD j 0] := by
  have e : l.getD j 0 = l[j] := by rw [List.getD_eq_getElem?_getD, List.getElem?_eq_getElem h]; rfl
  unfold good
  rw [List.take_succ_eq_append_getElem h, List.filter_append, e]
  cases hb : bad l[j] <;> simp [hb]
theorem good_le (bad : Nat → Bool) (l : List Nat) : (good bad l).length ≤ l.length := List.length_filter_le _ _
theorem good_all (bad : Nat → Bool) (l : List Nat) (h : ∀ k ∈ l, bad k = false) : good bad l = l := List.filter_eq_self.2 fun k hk => by rw [h k hk]; rfl
theorem getD_in (l : List Nat) (j : Nat) (h : j < l.length) : l.getD j 0 ∈ l := by
  rw [List.getD_eq_getElem?_getD, List.getElem?_eq_getElem h]; exact List.getElem_mem h
section
variable {w : World} {B M Q F L n : Nat} {P : Nat → Nat} {S : Fl} {bad : Nat → Bool} {md : Int}
set_option maxHeartbeats 1000000 in
theorem IndexB_any (h : MedIs w B M Q F L P S n bad md) (g c : Nat) (l : List Nat) (m : Nat) (hl : l.length = m) (hm : m ≤ 1024) (hk : ∀ k ∈ l, k < S.nb) (hc : ∀ j, j < m → w.cell? ⟨g, j, none⟩ = some (.int .i64 (l.getD j 0 : Nat))) :
    Calls Tryz.prog 56 #[.slice (some ⟨g, 0, none⟩) m c, .func (.func 48) #[.pointer (some ⟨M, 0, none⟩)] #[]] w fun e w' => (∃ i : Int, e = .returned (.int .i64 i) ∧ ((i = -1 ∧ ∀ k ∈ l, bad k = false) ∨ ∃ j : Nat, i = j ∧ j < m ∧ bad (l.getD j 0) = true ∧ ∀ t, t < j → bad (l.getD t 0) = false)) ∧ w = w' := by
  have HH := Lib.hid h
  have HC := Lib.hid hc
  have HK := Lib.hid hk
  have HL := Lib.hid hl
  clear h hc hk hl
  go_enter Tryz.func56, Tryz.ntmps56
  go_wp2
  go_loop [8] (fun i => ∃ k : Nat, k ≤ m ∧ i = .int .i64 k ∧ ∀ t, t < k → bad (l.getD t 0) = false) (fun i => m - (intOf i).toNat)
  case atStart => exact ⟨0, by omega, rfl, fun t ht => by omega⟩
  case round =>
    obtain ⟨k, hk, rfl, hb⟩ := hrel
    have HB := Lib.hid hb
    clear hb
    by_cases hkm : k < m
    · have hcc := HC.out k hkm
      obtain ⟨x, hx⟩ : ∃ x, x = l.getD k 0 := ⟨_, rfl⟩
      have HX := Lib.hid hx
      have HIs := Lib.hid (IsBad_in HH.out x (HK.out x (by rw [hx]; exact getD_in l k (by rw [HL.out]; exact hkm))))
      rw [← hx] at hcc
      clear hx
      cases hbx : bad x with
      | true =>
        rw [hbx] at HIs
        have HBx := Lib.hid hbx
        clear hbx
        go_wp2_with fail
        refine HIs.out.mono ?_
        rintro e w' ⟨rfl, rfl⟩
        go_wp2
        go_ret
        exact ⟨⟨k, rfl, .inr ⟨k, rfl, hkm, by rw [← HX.out]; exact HBx.out, HB.out⟩⟩, rfl⟩
      | false =>
        rw [hbx] at HIs
        have HBx := Lib.hid hbx
        clear hbx
        go_wp2_with fail
        refine HIs.out.mono ?_
        rintro e w' ⟨rfl, rfl⟩
        go_wp2
        go_round
        case rel => exact ⟨k + 1, by omega, by go_num, fun t ht => by
          by_cases e : t = k
          · subst e; rw [← HX.out]; exact HBx.out
          · exact HB.out t (by omega)⟩
        case measure => simp [intOf]; omega
    · obtain rfl : k = m := by omega
      go_wp2
      go_ret
      exact ⟨⟨-1, rfl, .inl ⟨rfl, fun x hx => by
        obtain ⟨j, hj, e⟩ := List.getElem_of_mem hx
        have := HB.out j (by rw [← HL.out]; exact hj)
        rw [List.getD_eq_getElem?_getD, List.getElem?_eq_getElem hj] at this
        rw [← e]; exact this⟩⟩, rfl⟩
theorem zero_int (w : World) : (zeroValue 3).run Tryz.prog w = .ok (.int .i64 0) w := by kernel_rfl
theorem setCells_front {g : Nat} {ty : TypeId} : ∀ (vs : List Value) (o : Nat) (w : World) (cs : Array Value), Row w g ty cs → ∃ cs', Row (w.setCells g o vs) g ty cs' ∧ cs'.size = cs.size ∧ ∀ t, t < o → cs'[t]? = cs[t]?
  | [], _, _, cs, h => ⟨cs, h, rfl, fun _ _ => rfl⟩
  | v :: r, o, w, cs, h => by
    obtain ⟨cs', h1, h2, h3⟩ := setCells_front r (o + 1) _ _ (h.put o v)
    exact ⟨cs', h1, by rw [h2, Array.size_setIfInBounds], fun t ht => by rw [h3 t (by omega), Array.getElem?_setIfInBounds, if_neg (by omega)]⟩
/-- A row of integers, as far as it is read. -/
structure DelIs (w : World) (g c : Nat) (l : List Nat) (bad : Nat → Bool) (j : Nat) : Prop where
  row : ∃ cur, Row w g 3 cur ∧ cur.size = c ∧ (∀ t, t < (good bad (l.take j)).length → cur[t]? = some (.int .i64 ((good bad (l.take j)).getD t 0 : Nat))) ∧ ∀ t, j ≤ t → t < l.length → cur[t]? = some (.int .i64 (l.getD t 0 : Nat))
theorem good_bound (bad : Nat → Bool) (l : List Nat) (j : Nat) : (good bad (l.take j)).length ≤ j := Nat.le_trans (good_le _ _) (List.length_take_le _ _)
set_option maxRecDepth 100000 in
set_option maxHeartbeats 4000000 in
theorem DeleteB_any (h : MedIs w B M Q F L P S n bad md) (B0 g c : Nat) (l : List Nat) (m : Nat) (hl : l.length = m) (hm : m ≤ 1024) (hm0 : 0 < m) (hk : ∀ k ∈ l, k < S.nb) (hown : w.ownsRow B0 3 1 (.slice (some ⟨g, 0, none⟩) m c) m (natsV l)) (hg0 : 0 < g) :
    Calls Tryz.prog 46 #[.slice (some ⟨g, 0, none⟩) m c, .func (.func 48) #[.pointer (some ⟨M, 0, none⟩)] #[]] w fun e w' => ∃ r, e = .returned (.slice (some ⟨g, 0, none⟩) r c) ∧ r = (good bad l).length ∧ w'.ownsRow B0 3 1 (.slice (some ⟨g, 0, none⟩) r c) r (natsV (good bad l)) ∧ Turns w w' [g] := by
  obtain ⟨hB0, cur0, hr0, hs0, hmc, hcm, htk⟩ := own_row hown
  have hcell : ∀ j, j < m → w.cell? ⟨g, j, none⟩ = some (.int .i64 (l.getD j 0 : Nat)) := fun j hj => by
    have h1 := hown.cells (g := g) rfl j _ (natsV_get l j (by rw [hl]; exact hj))
    rwa [addr_add, Nat.zero_add] at h1
  have HIx := Lib.hid (IndexB_any h g c l m hl hm hk hcell)
  have HH := Lib.hid h
  have HK := Lib.hid hk
  have HL := Lib.hid hl
  have HOw := Lib.hid hown
  have HC0 := Lib.hid hcell
  have HR0 := Lib.hid hr0
  have HS0 : Hid (cur0.size = c) := by unfold Hid; omega
  have HBB := Lib.hid hB0
  have hnotm : g ∉ medT M Q F L P S.nb := h.no_row hr0 (by decide) (by decide) (by decide) (by decide)
  have HMw : Hid (∀ w', Turns w w' [g] → MedIs w' B M Q F L P S n bad md) := fun w' ht => h.aside ht (fun x hx => by rw [List.mem_singleton.1 hx]; exact hnotm) (fun x cs hr hx => by
    rw [List.mem_singleton.1 hx] at hr
    exact Row.ne_type hr hr0 (by decide) rfl) (by simp; omega)
  clear h hk hl hown hcell hr0 hs0 hB0 htk hnotm
  go_enter Tryz.func46, Tryz.ntmps46
  go_wp2_with fail
  refine HIx.out.mono ?_
  rintro e w1 ⟨⟨i, rfl, hi⟩, rfl⟩
  clear HIx
  rcases hi with ⟨rfl, hall⟩ | ⟨j0, rfl, hj0, hbj, hlt⟩
  · have hg : good bad l = l := good_all bad l hall
    have HG := Lib.hid hg
    clear hall hg
    go_wp2
    go_ret
    exact ⟨m, rfl, by rw [HG.out, HL.out], by rw [HG.out]; exact HOw.out, Turns.refl _ _⟩
  · have hg0' : good bad (l.take j0) = l.take j0 := good_all bad _ (fun k hk => by
      obtain ⟨t, ht, e⟩ := List.getElem_of_mem hk
      rw [List.length_take] at ht
      have := hlt t (by omega)
      rw [List.getD_eq_getElem?_getD, List.getElem?_eq_getElem (by omega)] at this
      rw [← e, List.getElem_take]
      exact this)
    have hg1 : good bad (l.take (j0 + 1)) = l.take j0 := by
      rw [good_take bad l j0 (by rw [HL.out]; exact hj0), if_pos hbj, hg0']
    have hgl : (l.take j0).length = j0 := by rw [List.length_take, HL.out]; omega
    have HD0 : Hid (DelIs w g c l bad (j0 + 1)) := by
      refine ⟨cur0, HR0.out, HS0.out, fun t ht => ?_, fun t h1 h2 => ?_⟩
      · rw [hg1] at ht ⊢
        rw [← HR0.out.cell, HC0.out t (by omega)]
        congr 3
        rw [List.getD_eq_getElem?_getD, List.getD_eq_getElem?_getD, List.getElem?_take, if_pos (by omega)]
      · rw [← HR0.out.cell]
        exact HC0.out t (by rw [← HL.out]; exact h2)
    have HG1 : Hid ((good bad (l.take (j0 + 1))).length = j0) := by unfold Hid; rw [hg1, hgl]
    have hj0m : ¬ (j0 : Int) = -1 := by omega
    have hj0b : ((j0 : Int) == -1) = false := by simp
    clear hbj hlt hg0' hg1 hgl
    go_wp2
    go_loopw [5, 6] (fun i jv wr => ∃ j : Nat, j0 + 1 ≤ j ∧ j ≤ m ∧ jv = .int .i64 j ∧ i = .int .i64 ((good bad (l.take j)).length : Nat) ∧ (good bad (l.take j)).length < j ∧ DelIs wr g c l bad j ∧ Turns w wr [g]) (fun _ jv _ => m - (intOf jv).toNat)
    case atStart => exact ⟨j0 + 1, by omega, by omega, by go_num, by rw [HG1.out], by rw [HG1.out]; omega, HD0.out, Turns.refl _ _⟩
    case round =>
      obtain ⟨j, hj1, hj2, rfl, rfl, hgj, hd, ht⟩ := hrel
      have HD := Lib.hid hd
      have HT := Lib.hid ht
      clear HD0 hd ht
      by_cases hjm : j < m
      · obtain ⟨x, hx⟩ : ∃ x, x = l.getD j 0 := ⟨_, rfl⟩
        have HX := Lib.hid hx
        have hjl : j < l.length := by rw [HL.out]; exact hjm
        have HIs := Lib.hid (IsBad_in (HMw.out wr HT.out) x (HK.out x (by rw [hx]; exact getD_in l j hjl)))
        obtain ⟨cur, hr, hs, hc1, hc2⟩ := HD.out.row
        have ck : wr.cell? ⟨g, j, none⟩ = some (.int .i64 x) := by rw [hr.cell, hc2 j (Nat.le_refl _) hjl, hx]
        have hgt := good_take bad l j hjl
        rw [← hx] at hgt
        cases hbx : bad x with
        | true =>
          rw [hbx] at HIs hgt
          rw [if_pos rfl] at hgt
          have HD2 : Hid (DelIs wr g c l bad (j + 1)) := ⟨cur, hr, hs, by rw [hgt]; exact hc1, fun t h1 h2 => hc2 t (by omega) h2⟩
          have HGt := Lib.hid hgt
          clear hbx hgt hr hs hc1 hc2 hx
          go_wp2_with fail
          refine HIs.out.mono ?_
          rintro e w' ⟨rfl, rfl⟩
          go_wp2
          go_roundw
          case rel => exact ⟨j + 1, by omega, by omega, by go_num, by rw [HGt.out], by rw [HGt.out]; omega, HD2.out, HT.out⟩
          case measure => simp [intOf]; omega
        | false =>
          rw [hbx] at HIs hgt
          rw [if_neg (by simp)] at hgt
          obtain ⟨r, hrr⟩ : ∃ r, r = (good bad (l.take j)).length := ⟨_, rfl⟩
          have HRr := Lib.hid hrr
          rw [← hrr] at hgj hc1 ⊢
          have hrc : wr.cell? ⟨g, r, none⟩ = cur[r]? := hr.cell r
          obtain ⟨u, hu⟩ : ∃ u, wr.cell? ⟨g, r, none⟩ = some u := by rw [hrc]; exact ⟨_, Array.getElem?_eq_getElem (by omega)⟩
          have hfz := hr.frozen r
          have HD2 : Hid (DelIs (wr.setCell ⟨g, r, none⟩ (.int .i64 x)) g c l bad (j + 1)) := by
            refine ⟨_, hr.put r (.int .i64 x), by rw [Array.size_setIfInBounds]; exact hs, fun t ht => ?_, fun t h1 h2 => ?_⟩
            · rw [hgt, List.length_append, ← hrr] at ht
              simp at ht
              rw [hgt, Array.getElem?_setIfInBounds]
              by_cases e : r = t
              · subst e
                rw [if_pos rfl, if_pos (by omega)]
                congr 3
                rw [List.getD_eq_getElem?_getD, List.getElem?_append_right (by omega)]
                simp [hrr]
              · rw [if_neg e, hc1 t (by omega)]
                congr 3
                rw [List.getD_eq_getElem?_getD, List.getD_eq_getElem?_getD, List.getElem?_append_left (by omega)]
            · rw [Array.getElem?_setIfInBounds, if_neg (by omega)]
              exact hc2 t (by omega) h2
          have HGt : Hid ((good bad (l.take (j + 1))).length = r + 1) := by unfold Hid; rw [hgt, List.length_append, ← hrr]; rfl
          have HT2 : Hid (Turns w (wr.setCell ⟨g, r, none⟩ (.int .i64 x)) [g]) := HT.out.setCell (by simp) _
          have hrm : (r : Int) < m := by omega
          clear hbx hgt hr hs hc1 hc2 hx hrc hrr
          go_wp2_with fail
          refine HIs.out.mono ?_
          rintro e w' ⟨rfl, rfl⟩
          go_wp2
          go_roundw
          case rel => exact ⟨j + 1, by omega, by omega, by go_num, by rw [HGt.out]; go_num, by rw [HGt.out]; omega, HD2.out, HT2.out⟩
          case measure => simp [intOf]; omega
      · obtain rfl : j = m := by omega
        have hfull : l.take j = l := List.take_of_length_le (by rw [HL.out]; exact Nat.le_refl _)
        obtain ⟨r, hrr⟩ : ∃ r, r = (good bad (l.take j)).length := ⟨_, rfl⟩
        have HRr := Lib.hid hrr
        obtain ⟨cur, hr, hs, hc1, hc2⟩ := HD.out.row
        rw [← hrr] at hgj hc1 ⊢
        have hcl := Lib.run_clear_slice (P := Tryz.prog) wr 26 3 0 (.int .i64 0) Tryz.underlying26 zero_int rfl rfl g r (j - r) (c - r) (by omega) (fun t ht => by rw [hr.cell, Array.getElem?_eq_getElem (by omega)]; rfl) (fun t _ => hr.frozen _)
        obtain ⟨cs', hr', hs', hf'⟩ := setCells_front (List.replicate (j - r) (.int .i64 0)) r wr cur hr
        have HT3 : Hid (Turns w (wr.setCells g r (List.replicate (j - r) (.int .i64 0))) [g]) := setCells_turns _ _ _ _ HT.out
        have HOw3 : Hid ((wr.setCells g r (List.replicate (j - r) (.int .i64 0))).ownsRow B0 3 1 (.slice (some ⟨g, 0, none⟩) r c) r (natsV (good bad l))) := by
          refine ⟨by rw [natsV_length, ← hfull, hrr]; simp, .inr ⟨g, c, cs', rfl, HBB.out, hr', by omega, hcm, by omega, ?_⟩⟩
          apply List.ext_getElem?
          intro t
          rw [List.getElem?_take]
          by_cases ht : t < r * 1
          · rw [if_pos ht]
            have h1 := hf' t (by omega)
            rw [hc1 t (by omega)] at h1
            have h2 := natsV_get (good bad l) t (by rw [← hfull, ← hrr]; omega)
            rw [h2, ← hfull]
            simpa using h1
          · rw [if_neg ht, List.getElem?_eq_none (by rw [natsV_length, ← hfull, ← hrr]; omega)]
        have HRl : Hid (r = (good bad l).length) := by unfold Hid; rw [hrr, hfull]
        generalize (wr.setCells g r (List.replicate (j - r) (.int .i64 0))) = w5 at *
        have hrc2 : r < c := by omega
        clear hr hs hc1 hc2 hrr hfull hr' hs' hf'
        go_wp2
        go_ret
        exact ⟨r, rfl, HRl.out, HOw3.out, HT3.out⟩
set_option maxRecDepth 100000 in
set_option maxHeartbeats 2000000 in
theorem Blocks_any (h : MedIs w B M Q F L P S n bad md) {St Bk Vb : Nat} {l : List Nat} {c : Nat} {a : Int} {q : Nat} {V : Vals} (st : StIs w B St Bk Vb M l c a q V) (hne : 0 < l.length) (hl : ∀ k ∈ l, k < S.nb) :
    Calls Tryz.prog 24 #[.pointer (some ⟨St, 0, none⟩)] w fun e w' => ∃ g r c', e = .returned (.slice (some ⟨g, 0, none⟩) r c') ∧ r = (good bad l).length ∧ w'.ownsRow w.heap.size 3 1 (.slice (some ⟨g, 0, none⟩) r c') r (natsV (good bad l)) ∧ Below w.heap.size w w' := by
  obtain ⟨c0, c1, _, _, _⟩ := st.cells
  have HH := Lib.hid h
  have hfew := st.few
  have hbl := st.bl
  obtain ⟨m, hm⟩ : ∃ m, m = l.length := ⟨_, rfl⟩
  have HM := Lib.hid hm
  rw [← hm] at c1 hne hfew hbl
  have HCl : Hid (∀ W, Below w.heap.size w W → Calls Tryz.prog 47 #[.slice (some ⟨Bk, 0, none⟩) m c] W fun e w' => ∃ A' c', e = .returned (.slice A' m c') ∧ w'.ownsRow W.heap.size 3 1 (.slice A' m c') m (natsV l) ∧ Below W.heap.size W w') := fun W hb => CloneI_any _ m c (natsV l) (by omega) W ((Src.of_own hbl).keep (keep_below hb)) (natsV_one l)
  have HL := Lib.hid hl
  have hwz : 0 < w.heap.size := by have := h.hB; have := h.hM; have := h.row.lt; omega
  have k0 : ∀ t : Kept w [], t.u.cell? ⟨St, 0, none⟩ = some (.pointer (some ⟨M, 0, none⟩)) := fun t => t.h.cell c0 (by simp)
  have k1 : ∀ t : Kept w [], t.u.cell? ⟨St, 1, none⟩ = some (.slice (some ⟨Bk, 0, none⟩) m c) := fun t => t.h.cell c1 (by simp)
  clear h st hm hbl hl
  go_enter Tryz.func24, Tryz.ntmps24
  go_wp2
  (refine region_kept ([]) [0, 1, 2, 3, 5, 6, 7, 8, 9] [4, 10, 11] (by kernel_rfl) (by kernel_rfl) (fun _ _ _ _ _ h => h) ?_; simp only [List.filterMap_cons, List.getElem?_cons_zero, List.getElem?_cons_succ, List.filterMap_nil]; (repeat ((show wpQuiet _ _ _ _ (_ :: _) _); go_big_quiet_step (fail))); refine wpQuiet_nil ?_)
  clear k0 k1
  refine wpSeqS_step ?_
  go_wp2_with fail
  refine (HCl.out w.drew (Below.refl _ _).drew).mono ?_
  rintro e w1 ⟨A', c', rfl, ho, hb⟩
  obtain ⟨g, rfl, hmc⟩ := own_addr ho hne
  have hg : w.heap.size ≤ g := own_ge ho g rfl
  have HB1 : Hid (Below w.heap.size w w1) := (Below.refl _ _).drew.trans hb
  have HDe := Lib.hid (DeleteB_any (HH.out.below HB1.out) w.heap.size g c' l m HM.out.symm hfew hne HL.out ho (by omega))
  have HG := Lib.hid hg
  clear HCl ho hb hg
  go_wp2_with fail
  refine outQ_normal (Turns.of_below HB1.out _) ?_
  refine wpSeqS_step ?_
  go_wp2_with fail
  refine HDe.out.mono ?_
  rintro e w2 ⟨r, rfl, hr, ho, ht⟩
  have HR := Lib.hid hr
  have HO := Lib.hid ho
  have HB2 : Hid (Below w.heap.size w w2) := ht.below HB1.out HB1.out.size (by simpa using HG.out)
  clear HDe hr ho ht
  go_wp2_with fail
  refine outQ_normal (Turns.of_below HB2.out _) ?_
  refine wpSeqS_last ?_
  go_wp2
  go_ret
  exact ⟨_, _, _, rfl, HR.out, HO.out, HB2.out⟩
end
end Go.Proofs.YthjomnaejhehoaaGreatDoor
