/- What follows is laid together from several texts of mine, in their order. -/
import Derived.Test.YthjomnaejhehoaaGreatDoorQ21

namespace Go.Proofs.YthjomnaejhehoaaGreatDoor
open Go.RowKit Go.MapKept Go.ChangeMaps
set_option linter.unusedVariables false
set_option linter.unusedSimpArgs false

/-- Where a World lies. -/
structure Ad where
  W : Nat
  St : Nat
  Bk : Nat
  Vb : Nat
  M : Nat
  Q : Nat
  F : Nat
  L : Nat
  H : Nat
  P : Nat → Nat
  A : Option Addr
  cl : Nat
  c : Nat
  vs : List Int
  X : Option (Nat × Array Value)
/-- What a World is. -/
structure X9 where
  S : Fl
  bad : Nat → Bool
  md : Int
  a : Nat
  q : Nat
  V : Vals
  G : Nat → Option (Nat × Vals)
  U : Vals
  um : Value
  op : Bool
  fail : Nat
def w9cells (A : Ad) (x : X9) : Array Value := #[.pointer (some ⟨A.F, 0, none⟩), .pointer (some ⟨A.M, 0, none⟩), .pointer (some ⟨A.St, 0, none⟩), .slice A.A A.vs.length A.cl, .map (some A.H), x.um, .bool x.op, .int .i64 x.fail]
def nfail (S : Fl) (vs : List Int) : Nat := ((natsI vs).filter fun k => (S.b k).failed).length
structure W9 (w0 w : World) (A : Ad) (x : X9) : Prop where
  med : MedIs w w0.heap.size A.M A.Q A.F A.L A.P x.S 192 x.bad x.md
  st : StIs w w0.heap.size A.St A.Bk A.Vb A.M (natsI A.vs) A.c x.a x.q x.V
  hVQ : A.Vb ≠ A.Q
  sl : Sl x.S 192 x.bad (natsI A.vs) x.a x.q x.V x.G
  has : HasIs w A.H x.U
  hH : A.H ≠ A.Q ∧ w0.heap.size ≤ A.H
  okU : OkV x.U ∧ FitV 192 x.U
  row : Row w A.W 36 (w9cells A x)
  hW : w0.heap.size ≤ A.W
  ls : CellsI w A.A A.vs
  hA : ∀ g o, A.A = some ⟨g, o, none⟩ → g < w0.heap.size ∨ ∃ cs, Row w g 3 cs
  ok : okOn x.S.nb A.vs
  few : A.vs.length ≤ 1024
  nf : nfail x.S A.vs = x.fail ∧ x.fail + 2 ≤ A.vs.length
  out : ∀ i, i ∉ natsI A.vs → (x.S.b i).next = 0 ∧ (x.S.b i).half = false
  bel : Below w0.heap.size w0 w
  ext : ∀ g cs, A.X = some (g, cs) → Row w g 4 cs
theorem nfail_same {S S' : Fl} {vs : List Int} (h : ∀ k, (S'.b k).failed = (S.b k).failed) : nfail S' vs = nfail S vs := by
  unfold nfail
  congr 2
  funext k
  exact h k
section
variable {w0 w w' : World} {A : Ad} {x : X9}
theorem W9.cells (h : W9 w0 w A x) : w.cell? ⟨A.W, 0, none⟩ = some (.pointer (some ⟨A.F, 0, none⟩)) ∧ w.cell? ⟨A.W, 1, none⟩ = some (.pointer (some ⟨A.M, 0, none⟩)) ∧ w.cell? ⟨A.W, 2, none⟩ = some (.pointer (some ⟨A.St, 0, none⟩)) ∧ w.cell? ⟨A.W, 3, none⟩ = some (.slice A.A A.vs.length A.cl) ∧
    w.cell? ⟨A.W, 4, none⟩ = some (.map (some A.H)) ∧ w.cell? ⟨A.W, 5, none⟩ = some x.um ∧ w.cell? ⟨A.W, 6, none⟩ = some (.bool x.op) ∧ w.cell? ⟨A.W, 7, none⟩ = some (.int .i64 x.fail) :=
  ⟨h.row.cell 0, h.row.cell 1, h.row.cell 2, h.row.cell 3, h.row.cell 4, h.row.cell 5, h.row.cell 6, h.row.cell 7⟩
theorem HasIs.no_med {w : World} {B M Q F L n : Nat} {P : Nat → Nat} {S : Fl} {bad : Nat → Bool} {md : Int} (h : MedIs w B M Q F L P S n bad md) {H : Nat} {V : Vals} (hv : HasIs w H V) (hq : H ≠ Q) : H ∉ medT M Q F L P S.nb := fun hm => by
  rcases mem_medT.1 hm with rfl | rfl | rfl | rfl | ⟨i, hi, rfl⟩
  · exact hv.not_row _ _ h.row
  · exact hq rfl
  · obtain ⟨_, hr'⟩ := h.fl.rowF; exact hv.not_row _ _ hr'
  · obtain ⟨_, hr'⟩ := h.fl.rowL; exact hv.not_row _ _ hr'
  · obtain ⟨_, hr'⟩ := h.fl.rowP hi; exact hv.not_row _ _ hr'
/-- What a put or the flash's own acts turn stands aside of a map of texts. -/
theorem W9.aside_has (h : W9 w0 w A x) {T : List Nat} (ht : Turns w w' T) (hT : ∀ g ∈ T, g = A.St ∨ g ∈ medT A.M A.Q A.F A.L A.P x.S.nb) {H : Nat} {U : Vals} (hu : HasIs w H U) (hq : H ≠ A.Q) : HasIs w' H U :=
  hu.turns ht (fun hm => by
    rcases hT _ hm with e | hm
    · rw [e] at hu; exact hu.not_row _ _ h.st.row
    · exact hu.no_med h.med hq hm)
theorem W9.turn (h : W9 w0 w A x) {T : List Nat} (ht : Turns w w' T) (hT : ∀ g ∈ T, g = A.St ∨ g ∈ medT A.M A.Q A.F A.L A.P x.S.nb) {Vb' : Nat} {S' : Fl} {bad' : Nat → Bool} {md' : Int} {a' q' : Nat} {V' : Vals} {G' : Nat → Option (Nat × Vals)}
    (hm : MedIs w' w0.heap.size A.M A.Q A.F A.L A.P S' 192 bad' md') (hst : StIs w' w0.heap.size A.St A.Bk Vb' A.M (natsI A.vs) A.c a' q' V') (hv : Vb' ≠ A.Q) (hsl : Sl S' 192 bad' (natsI A.vs) a' q' V' G') (hnb : S'.nb = x.S.nb) (hf : ∀ k, (S'.b k).failed = (x.S.b k).failed) (ho : ∀ i, i ∉ natsI A.vs → S'.b i = x.S.b i) :
    W9 w0 w' { A with Vb := Vb' } { x with S := S', bad := bad', md := md', a := a', q := q', V := V', G := G' } := by
  have hge : ∀ g ∈ T, w0.heap.size ≤ g := fun g hg => by
    rcases hT g hg with e | hm
    · rw [e]; exact h.st.hS
    · exact h.med.at_least g hm
  have hno : ∀ {g : Nat} {t : TypeId} {cs : Array Value}, Row w g t cs → t ≠ 112 → t ≠ 93 → t ≠ 46 → t ≠ 85 → t ≠ 22 → g ∉ T := fun hr h0 h1 h2 h3 h4 hg => by
    rcases hT _ hg with e | hm
    · subst e; exact Row.ne_type hr h.st.row h0 rfl
    · exact h.med.no_row hr h1 h2 h3 h4 hm
  have hAT : ∀ g o, A.A = some ⟨g, o, none⟩ → g ∉ T := fun g o e hg => by
    rcases h.hA g o e with h1 | ⟨cs, hr⟩
    · have := hge g hg; omega
    · exact hno hr (by decide) (by decide) (by decide) (by decide) (by decide) hg
  refine ⟨hm, hst, hv, hsl, h.aside_has ht hT h.has h.hH.1, h.hH, h.okU, ht.row h.row (hno h.row (by decide) (by decide) (by decide) (by decide) (by decide)), h.hW, fun i hi => ?_, fun g o e => ?_, by show okOn S'.nb A.vs; rw [hnb]; exact h.ok, h.few, ⟨(nfail_same hf).trans h.nf.1, h.nf.2⟩, fun i hi => by show (S'.b i).next = 0 ∧ (S'.b i).half = false; rw [ho i hi]; exact h.out i hi, ht.below h.bel h.bel.size hge, fun g cs e => ht.row (h.ext g cs e) (hno (h.ext g cs e) (by decide) (by decide) (by decide) (by decide) (by decide))⟩
  · obtain ⟨b, off, e, hc⟩ := h.ls i hi
    exact ⟨b, off, e, ht.cell hc (hAT b off e)⟩
  · rcases h.hA g o e with h1 | ⟨cs, hr⟩
    · exact .inl h1
    · exact .inr ⟨cs, ht.row hr (hAT g o e)⟩
theorem W9.below (h : W9 w0 w A x) (hb : Below w.heap.size w w') : W9 w0 w' A x :=
  h.turn (Turns.of_below hb []) (by simp) (h.med.below hb) (h.st.below hb) h.hVQ h.sl rfl (fun _ => rfl) (fun _ _ => rfl)
theorem W9.drewN (h : W9 w0 w A x) (k : Nat) : W9 w0 (w.drewN k) A x := h.below (below_drewN0 (Below.refl _ _) k)
/-- A block of the flash's own turned: On, Arm, Cut. -/
theorem W9.flash (h : W9 w0 w A x) {S' : Fl} (hfl : FlIs w' w0.heap.size A.F A.L A.P S') (ht : Turns w w' [A.F]) (hb : ∀ k, S'.b k = x.S.b k) (hn : S'.nb = x.S.nb) (hc : S'.chunks = x.S.chunks) : W9 w0 w' A { x with S := S' } := by
  have hT : ∀ g ∈ [A.F], g ∈ medT A.M A.Q A.F A.L A.P x.S.nb := fun g hg => by rw [List.mem_singleton.1 hg]; exact mem_medT.2 (.inr (.inr (.inl rfl)))
  exact h.turn ht (fun g hg => .inr (hT g hg)) (h.med.flash hfl ht (by simp [flS]) hn hc) (h.st.behind h.med h.hVQ ht hT) h.hVQ (h.sl.same hb hc hn h.sl.bad) hn (fun k => by rw [hb]) (fun i _ => hb i)
theorem W9.on (h : W9 w0 w A x) : Calls Tryz.prog 25 #[.pointer (some ⟨A.F, 0, none⟩)] w fun e w' => e = .returned (.tuple #[]) ∧ W9 w0 w' A { x with S := { x.S with off := false } } ∧ Turns w w' [A.F] :=
  (On_fl h.med.fl).mono fun e w' ⟨he, hf, ht⟩ => ⟨he, h.flash hf ht (fun _ => rfl) rfl rfl, ht⟩
theorem W9.arm (h : W9 w0 w A x) (n : Int) (hn : n < 9223372036854775808) : Calls Tryz.prog 18 #[.pointer (some ⟨A.F, 0, none⟩), .int .i64 n] w fun e w' => e = .returned (.tuple #[]) ∧ W9 w0 w' A { x with S := { x.S with armed := (max n 1).toNat } } ∧ Turns w w' [A.F] :=
  (Arm_fl h.med.fl n hn).mono fun e w' ⟨he, hf, ht⟩ => ⟨he, h.flash hf ht (fun _ => rfl) rfl rfl, ht⟩
theorem Cut_fl {B F L : Nat} {P : Nat → Nat} {S : Fl} (h : FlIs w B F L P S) : Calls Tryz.prog 12 #[.pointer (some ⟨F, 0, none⟩)] w fun e w' => e = .returned (.tuple #[]) ∧ FlIs w' B F L P { S with off := true, armed := 0 } ∧ Turns w w' [F] := by
  obtain ⟨s, r, e, hr⟩ := h.row
  exact (Cut_any F S.off S.armed s _ w hr).mono fun e w' ⟨he, hr', ht⟩ => ⟨he, h.flash ht true 0 (by omega) S.progs ⟨s, r, _, hr'⟩, ht⟩
theorem W9.cut (h : W9 w0 w A x) : Calls Tryz.prog 12 #[.pointer (some ⟨A.F, 0, none⟩)] w fun e w' => e = .returned (.tuple #[]) ∧ W9 w0 w' A { x with S := { x.S with off := true, armed := 0 } } ∧ Turns w w' [A.F] :=
  (Cut_fl h.med.fl).mono fun e w' ⟨he, hf, ht⟩ => ⟨he, h.flash hf ht (fun _ => rfl) rfl rfl, ht⟩
theorem le_sum_mem : ∀ {l : List Nat} {x : Nat}, x ∈ l → x ≤ l.sum
  | y :: l, x, h => by
    rw [List.sum_cons]
    rcases List.mem_cons.1 h with e | h
    · omega
    · have := le_sum_mem h; omega
theorem fit_len {V : Vals} (h : FitV 192 V) (k : Nat) (l : List Nat) (hv : V k = some l) (hV : OkV V) : l.length ≤ 192 := by
  have hk : k ∈ keysOf V := Classical.byContradiction fun hn => by rw [vals_none hV hn] at hv; cases hv
  have h1 : (valOf V k).length ≤ lenV V := le_sum_mem (List.mem_map.2 ⟨k, hk, rfl⟩)
  have e : valOf V k = l := by unfold valOf; rw [hv]; rfl
  rw [e] at h1
  unfold FitV at h
  omega
/-- Its own cells are written. -/
theorem W9.store (h : W9 w0 w A x) {A' : Ad} {x' : X9} (hA : A' = { A with St := A'.St, Bk := A'.Bk, Vb := A'.Vb, c := A'.c, H := A'.H }) (hx : x' = { x with U := x'.U, um := x'.um, op := x'.op, fail := x'.fail, a := x'.a, q := x'.q, V := x'.V, G := x'.G })
    (hr : Row w' A.W 36 (w9cells A' x')) (ht : Turns w w' [A.W]) (hst : StIs w w0.heap.size A'.St A'.Bk A'.Vb A.M (natsI A.vs) A'.c x'.a x'.q x'.V) (hv : A'.Vb ≠ A.Q) (hsl : Sl x.S 192 x.bad (natsI A.vs) x'.a x'.q x'.V x'.G)
    (hh : HasIs w A'.H x'.U) (hH : A'.H ≠ A.Q ∧ w0.heap.size ≤ A'.H) (hU : OkV x'.U ∧ FitV 192 x'.U) (hf : x'.fail = x.fail) : W9 w0 w' A' x' := by
  have hw : ∀ g ∈ [A.W], g ∉ medT A.M A.Q A.F A.L A.P x.S.nb := fun g hg => by rw [List.mem_singleton.1 hg]; exact h.med.no_row h.row (by decide) (by decide) (by decide) (by decide)
  have hu : NoU8 w [A.W] := fun g cs hr hg => by
    rw [List.mem_singleton.1 hg] at hr
    exact Row.ne_type hr h.row (by decide) rfl
  obtain ⟨cur, hbr, _⟩ := hst.bl_row
  have hne : ∀ {g : Nat} {t : TypeId} {cs : Array Value}, Row w g t cs → t ≠ 36 → g ∉ [A.W] := fun hr hn hg => by
    rw [List.mem_singleton.1 hg] at hr; exact Row.ne_type hr h.row hn rfl
  have h0 : 0 ∉ [A.W] := fun hm => by have := List.mem_singleton.1 hm; have := h.hW; have := h.med.hB; omega
  have hAT : ∀ g o, A.A = some ⟨g, o, none⟩ → g ∉ [A.W] := fun g o e hg => by
    rcases h.hA g o e with h1 | ⟨cs, hr⟩
    · have := List.mem_singleton.1 hg; have := h.hW; omega
    · exact hne hr (by decide) hg
  rw [hA, hx] at hr ⊢
  refine ⟨h.med.aside ht hw hu h0, hst.turns ht (hne hst.row (by decide)) (hne hbr (by decide)) (fun hm => by rw [List.mem_singleton.1 hm] at hst; exact hst.vals.not_row _ _ h.row) hu, hv, hsl, hh.turns ht (fun hm => by rw [List.mem_singleton.1 hm] at hh; exact hh.not_row _ _ h.row), hH, hU, hr, h.hW, fun i hi => ?_, fun g o e => ?_, h.ok, h.few, ⟨by show nfail x.S A.vs = x'.fail; rw [hf]; exact h.nf.1, by show x'.fail + 2 ≤ _; rw [hf]; exact h.nf.2⟩, h.out, ht.below h.bel h.bel.size (fun g hg => by rw [List.mem_singleton.1 hg]; exact h.hW), fun g cs e => ht.row (h.ext g cs e) (hne (h.ext g cs e) (by decide))⟩
  · obtain ⟨b, off, e, hc⟩ := h.ls i hi
    exact ⟨b, off, e, ht.cell hc (hAT b off e)⟩
  · rcases h.hA g o e with h1 | ⟨cs, hr⟩
    · exact .inl h1
    · exact .inr ⟨cs, ht.row hr (hAT g o e)⟩
end
end Go.Proofs.YthjomnaejhehoaaGreatDoor
