/- What follows is laid together from several texts of mine, in their order. -/
import Derived.Test.YtlidbkofjchnnaaDoorQ18

namespace Go.Proofs.YtlidbkofjchnnaaDoor
open Go.RowKit Go.MapKept Go.ChangeMaps
open Go.Maps (Keyed)
set_option linter.unusedVariables false
set_option linter.unusedSimpArgs false

theorem laidOut0 : laidOutB Tryd.prog = true := by kernel_rfl
abbrev sv (a b c : Int) : Value := .agg #[.int .i64 a, .int .i64 b, .int .i64 c]
theorem spot_rec : Tryd.prog.keyTypeAt (Tryd.prog.types.size + 1) 101 = true := by kernel_rfl
theorem spot_wide : (match Tryd.prog.underlying 101 with | some (.array _ _) | some (.struct _) => true | _ => false) = true := by kernel_rfl
theorem spot_row : (101 : TypeId) < Tryd.prog.types.size := of_decide_eq_true (by kernel_rfl)
set_option maxRecDepth 100000 in
theorem spotKeyed : Keyed Tryd.prog 101 := Keyed.of_law (deep_law_laid laidOut0 (m := 2) (by omega) spot_row (by kernel_rfl) spot_wide)
theorem spot_under : Tryd.prog.underlying 29 = some (.map 101 4) := Tryd.underlying29
theorem wf_R64 {a : Int} (h : R64 a) : (Lit.int .i64 a).wf = true := by
  unfold R64 at h
  simp [Lit.wf, IntKind.min, IntKind.max, IntKind.signed, IntKind.bits]; exact h
theorem keyOf_struct3 {P : Program} {k e : TypeId} {f0 f1 f2 : Field} (hu : P.underlying k = some (.struct #[f0, f1, f2])) (he : P.underlying e = some (.int .i64)) (hk : P.keyType k = true) (hc : P.cellsOf k = 3) (hce : P.cellsOf e = 1)
    (h0 : f0.type = e ∧ f0.offset = 0 ∧ (f0.name != "_") = true) (h1 : f1.type = e ∧ f1.offset = 1 ∧ (f1.name != "_") = true) (h2 : f2.type = e ∧ f2.offset = 2 ∧ (f2.name != "_") = true) (hsz : 0 < P.types.size) {a b s : Int} (ha : R64 a) (hb : R64 b) (hs : R64 s) :
    keyOf P k (sv a b s) = some (.string (keyBytes [.int .i64 a, .int .i64 b, .int .i64 s])) := by
  obtain ⟨m, hm⟩ : ∃ m, P.types.size = m + 1 := ⟨P.types.size - 1, by omega⟩
  have ha := wf_R64 ha
  have hb := wf_R64 hb
  have hs := wf_R64 hs
  obtain ⟨t0, o0, n0⟩ := h0
  obtain ⟨t1, o1, n1⟩ := h1
  obtain ⟨t2, o2, n2⟩ := h2
  have hl : P.keyLits (m + 1 + 1) k [Value.int .i64 a, Value.int .i64 b, Value.int .i64 s] = some [.int .i64 a, .int .i64 b, .int .i64 s] := by
    simp at n0 n1 n2
    simp [Program.keyLits, hu, hc, t0, o0, n0, t1, o1, n1, t2, o2, n2, hce, he, ha, hb, hs]
  simp [keyOf, hu, hk, Value.formed, hc, Value.cells, hm, hl]
theorem types_pos : 0 < Tryd.prog.types.size := of_decide_eq_true (by kernel_rfl)
theorem spot_key {a b s : Int} (ha : R64 a) (hb : R64 b) (hs : R64 s) : keyOf Tryd.prog 101 (sv a b s) = some (.string (keyBytes [.int .i64 a, .int .i64 b, .int .i64 s])) :=
  keyOf_struct3 Tryd.underlying101 Tryd.underlying3 spot_rec (by kernel_rfl) (by kernel_rfl) ⟨rfl, rfl, by decide⟩ ⟨rfl, rfl, by decide⟩ ⟨rfl, rfl, by decide⟩ types_pos ha hb hs
theorem sv_inj {a b c a' b' c' : Int} (h : sv a b c = sv a' b' c') : a = a' ∧ b = b' ∧ c = c' := by simpa [sv] using h
def tnZ (tn : Nat → Nat → Nat → Bool) (a b c : Int) : Bool := decide (0 ≤ a ∧ 0 ≤ b ∧ 0 ≤ c) && tn a.toNat b.toNat c.toNat
def updT (tn : Nat → Nat → Nat → Bool) (k p s : Nat) : Nat → Nat → Nat → Bool := fun k' p' s' => decide (k' = k ∧ p' = p ∧ s' = s) || tn k' p' s'
section
variable {w w' : World} {g : Nat} {tn : Nat → Nat → Nat → Bool}
theorem TnIs.look (h : TnIs w g tn) {a b c : Int} (ha : R64 a) (hb : R64 b) (hc : R64 c) : (Instr.lookup 29 (.map (some g)) (sv a b c) false).run Tryd.prog w = .ok (.bool (tnZ tn a b c)) w := by
  obtain ⟨n, f, h, h1, h2⟩ := h
  rw [(h.look spotKeyed spot_under (zero_bool w) (spot_key ha hb hc)).1]
  cases hf : f (sv a b c) with
  | none =>
    have : tnZ tn a b c = false := by
      unfold tnZ
      cases hd : decide (0 ≤ a ∧ 0 ≤ b ∧ 0 ≤ c) with
      | false => rfl
      | true =>
        have hd := of_decide_eq_true hd
        cases ht : tn a.toNat b.toNat c.toNat with
        | false => rfl
        | true =>
          have := h2 _ _ _ ht
          unfold spotV at this
          rw [Int.toNat_of_nonneg hd.1, Int.toNat_of_nonneg hd.2.1, Int.toNat_of_nonneg hd.2.2, hf] at this
          cases this
    rw [this]; rfl
  | some v =>
    obtain ⟨k, p, s, e, rfl, ht, _⟩ := h1 _ _ hf
    obtain ⟨rfl, rfl, rfl⟩ := sv_inj e
    have : tnZ tn k p s = true := by
      unfold tnZ
      rw [decide_eq_true ⟨by omega, by omega, by omega⟩]
      simpa using ht
    rw [this]; rfl
theorem TnIs.lt (h : TnIs w g tn) : g < w.heap.size := by obtain ⟨n, f, h, _⟩ := h; exact h.lt
theorem TnIs.set (h : TnIs w g tn) {k p s : Nat} (hk : k < 1024) (hp : p < 1024) (hs : s < 1024) :
    ∃ w', (Instr.mapUpdate 29 (.map (some g)) (sv k p s) (.bool true)).run Tryd.prog w = .ok () w' ∧ TnIs w' g (updT tn k p s) ∧ Turns w w' [g] := by
  obtain ⟨n, f, h, h1, h2⟩ := h
  obtain ⟨w', hr, hm, hg⟩ := h.update (val := .bool true) spotKeyed spot_under (spot_key (a := k) (b := p) (s := s) (by unfold R64; omega) (by unfold R64; omega) (by unfold R64; omega))
  refine ⟨w', hr, ⟨_, _, hm, fun key v hv => ?_, fun k' p' s' ht => ?_⟩, Turns.of_grown hg⟩
  · by_cases he : key = sv k p s
    · subst he
      rw [updK_same] at hv
      injection hv with hv
      exact ⟨k, p, s, rfl, hv.symm, by simp [updT], hk, hp, hs⟩
    · rw [updK_ne _ _ _ he] at hv
      obtain ⟨k', p', s', e1, e2, e3, e4⟩ := h1 _ _ hv
      exact ⟨k', p', s', e1, e2, by simp [updT, e3], e4⟩
  · by_cases he : spotV k' p' s' = sv k p s
    · rw [he, updK_same]
    · rw [updK_ne _ _ _ he]
      refine h2 k' p' s' ?_
      unfold updT at ht
      rw [Bool.or_eq_true] at ht
      rcases ht with ht | ht
      · obtain ⟨rfl, rfl, rfl⟩ := of_decide_eq_true ht
        exact absurd rfl he
      · exact ht
theorem TnIs.fresh (w : World) : TnIs (w.alloc (.map #[] 0)) w.heap.size (fun _ _ _ => false) := ⟨_, _, MapIs.fresh _ _ w, by simp, by simp⟩
theorem TnIs.of_heap (h : w.heap[g]? = some (.map #[] 0)) : TnIs w g (fun _ _ _ => false) := ⟨0, fun _ => none, ⟨#[], 0, h, stamped_empty 0, rfl, by simp, by simp⟩, by simp, by simp⟩
end
/-- The law's World beside its media. -/
structure PSt (w0 w : World) (W M Q F L : Nat) (P g : Nat → Nat) (v : Nat → Value) (S : Fl) (n : Nat) (bad : Nat → Bool) (md : Int) (m : Pm) : Prop where
  med : MedIs w w0.heap.size M Q F L P S n bad md
  mem : PMem w0 w W M F n S.pages S.nb g v m
  own : ∀ x, ownB S.nb v x → ∀ i, i < S.nb → x ≠ P i
  q : g 16 ≠ Q
  bel : Below w0.heap.size w0 w
section
variable {w0 w w' : World} {W M Q F L n : Nat} {P g : Nat → Nat} {v : Nat → Value} {S S' : Fl} {bad bad' : Nat → Bool} {md md' : Int} {m : Pm}
theorem PSt.own_med (h : PSt w0 w W M Q F L P g v S n bad md m) {x : Nat} (hx : ownB S.nb v x) : x ∉ medT M Q F L P S.nb := fun hm => by
  obtain ⟨_, _, cs, hr⟩ := h.mem.own_row hx
  rcases mem_medT.1 hm with rfl | rfl | rfl | rfl | ⟨i, hi, rfl⟩
  · exact Row.ne_type hr h.med.row (by decide) rfl
  · exact h.med.bad.not_row _ _ hr
  · obtain ⟨_, hr'⟩ := h.med.fl.rowF; exact Row.ne_type hr hr' (by decide) rfl
  · obtain ⟨_, hr'⟩ := h.med.fl.rowL; exact Row.ne_type hr hr' (by decide) rfl
  · exact h.own _ hx i hi rfl
theorem PSt.tn_med (h : PSt w0 w W M Q F L P g v S n bad md m) : g 16 ∉ medT M Q F L P S.nb := fun hm => by
  rcases mem_medT.1 hm with e | e | e | e | ⟨i, hi, e⟩
  · exact h.mem.tn.not_row _ _ (e ▸ h.med.row)
  · exact h.q e
  · obtain ⟨_, hr'⟩ := h.med.fl.rowF; exact h.mem.tn.not_row _ _ (e ▸ hr')
  · obtain ⟨_, hr'⟩ := h.med.fl.rowL; exact h.mem.tn.not_row _ _ (e ▸ hr')
  · obtain ⟨_, hr'⟩ := h.med.fl.rowP hi; exact h.mem.tn.not_row _ _ (e ▸ hr')
/-- The media has turned. -/
theorem PSt.turn (h : PSt w0 w W M Q F L P g v S n bad md m) {T : List Nat} (hm : MedIs w' w0.heap.size M Q F L P S' n bad' md') (ht : Turns w w' T) (hT : ∀ t ∈ T, t ∈ medT M Q F L P S.nb) (e1 : S'.nb = S.nb) (e2 : S'.pages = S.pages) : PSt w0 w' W M Q F L P g v S' n bad' md' m :=
  have no := fun {t : Nat} {ty : TypeId} {cs : Array Value} (hr : Row w t ty cs) (h1 : ty ≠ 78) (h2 : ty ≠ 42) (h3 : ty ≠ 89) (h4 : ty ≠ 46) (hx : t ∈ T) => h.med.no_row hr h1 h2 h3 h4 (hT _ hx)
  ⟨hm, by
    rw [e1, e2]
    exact h.mem.aside ht (fun t hx => h.med.at_least t (hT t hx)) (fun t cs hr hx => h.med.no_bytes hr (hT t hx)) (no h.mem.row (by decide) (by decide) (by decide) (by decide)) (no h.mem.b (by decide) (by decide) (by decide) (by decide)) (no h.mem.half (by decide) (by decide) (by decide) (by decide))
      (no h.mem.one (by decide) (by decide) (by decide) (by decide)) (no h.mem.bad (by decide) (by decide) (by decide) (by decide)) (no h.mem.fail (by decide) (by decide) (by decide) (by decide)) (fun hx => h.tn_med (hT _ hx)) (fun x hx hm => h.own_med hx (hT _ hm)),
    by rw [e1]; exact h.own, h.q, h.med.behind h.bel ht hT⟩
theorem PSt.keep (h : PSt w0 w W M Q F L P g v S n bad md m) (ht : Turns w w' []) : PSt w0 w' W M Q F L P g v S n bad md m := h.turn (h.med.keep ht) ht (by simp) rfl rfl
theorem PSt.drewN (h : PSt w0 w W M Q F L P g v S n bad md m) (c : Nat) : PSt w0 (w.drewN c) W M Q F L P g v S n bad md m := h.keep ((Turns.refl w []).drewN c)
/-- One flag has turned. -/
theorem PSt.flag (h : PSt w0 w W M Q F L P g v S n bad md m) {x : Nat} {cs : Array Value} (hr : Row w x 4 cs) (hlow : w0.heap.size ≤ x) {k : Nat} {u : Value} {m' : Pm} (hm : PMem w0 (w.setCell ⟨x, k, none⟩ u) W M F n S.pages S.nb g v m') : PSt w0 (w.setCell ⟨x, k, none⟩ u) W M Q F L P g v S n bad md m' := by
  have ht : Turns w (w.setCell ⟨x, k, none⟩ u) [x] := (Turns.refl _ _).setCell (by simp) _
  have h1 := h.med.hB
  refine ⟨h.med.aside ht (fun t ht => by simp at ht; subst ht; exact h.med.no_row hr (by decide) (by decide) (by decide) (by decide)) (fun t cs2 hr2 hx => by simp at hx; subst hx; exact Row.ne_type hr2 hr (by decide) rfl) (by simp; omega), hm, h.own, h.q, h.bel.setCell (p := ⟨x, k, none⟩) hlow _⟩
theorem PSt.put_half (h : PSt w0 w W M Q F L P g v S n bad md m) {k : Nat} (hk : k < S.nb) (b : Bool) : PSt w0 (w.setCell ⟨g 9, k, none⟩ (.bool b)) W M Q F L P g v S n bad md { m with half := updB m.half k b } := h.flag h.mem.half (by have := h.mem.low; omega) (h.mem.put_half hk b)
theorem PSt.put_one (h : PSt w0 w W M Q F L P g v S n bad md m) {k : Nat} (hk : k < S.nb) (b : Bool) : PSt w0 (w.setCell ⟨g 11, k, none⟩ (.bool b)) W M Q F L P g v S n bad md { m with one := updB m.one k b } := h.flag h.mem.one (by have := h.mem.low; omega) (h.mem.put_one hk b)
theorem PSt.put_bad (h : PSt w0 w W M Q F L P g v S n bad md m) {k : Nat} (hk : k < S.nb) (b : Bool) : PSt w0 (w.setCell ⟨g 13, k, none⟩ (.bool b)) W M Q F L P g v S n bad md { m with bad := updB m.bad k b } := h.flag h.mem.bad (by have := h.mem.low; omega) (h.mem.put_bad hk b)
theorem PSt.put_fail (h : PSt w0 w W M Q F L P g v S n bad md m) {k : Nat} (hk : k < S.nb) (b : Bool) : PSt w0 (w.setCell ⟨g 15, k, none⟩ (.bool b)) W M Q F L P g v S n bad md { m with fail := updB m.fail k b } := h.flag h.mem.fail (by have := h.mem.low; omega) (h.mem.put_fail hk b)
theorem PSt.push (h : PSt w0 w W M Q F L P g v S n bad md m) {k : Nat} (hk : k < S.nb) {u : Value} {l : List (Option (List Nat))} {w1 : World} (hg : w.grownBy w1 (v k).ownBlock) (hat : ∀ x, u.ownBlock = some x → (v k).ownBlock = some x ∨ w.heap.size ≤ x) (hp : PgsIs w0 w1 u l) :
    PSt w0 (w1.setCell ⟨g 5, k, none⟩ u) W M Q F L P g (updB v k u) S n bad md { m with b := updB m.b k l } := by
  have hl := h.mem.low
  have hmem := h.mem.push hk hg hat hp
  have hown : ∀ x, (v k).ownBlock = some x → w0.heap.size ≤ x ∧ ∃ cs, Row w x 46 cs := fun x hx => by
    have := (h.mem.pgs k hk).row hx
    exact ⟨this.1, this.2.2⟩
  have ht : Turns w (w1.setCell ⟨g 5, k, none⟩ u) (g 5 :: (v k).ownBlock.toList) := by
    have ht1 : Turns w w1 (g 5 :: (v k).ownBlock.toList) := ⟨hg.os, hg.tape, hg.output, hg.size, fun i hi hn => hg.block i hi (fun e => hn (by rw [← e]; simp))⟩
    exact ht1.setCell (p := ⟨g 5, k, none⟩) (by simp) u
  have h1 := h.med.hB
  have cas : ∀ t ∈ (g 5 :: (v k).ownBlock.toList), t = g 5 ∨ (v k).ownBlock = some t := fun t ht => by simpa using ht
  refine ⟨h.med.aside ht (fun t ht => ?_) (fun t cs hr hm => ?_) (fun hm => ?_), hmem, fun x hx i hi e => ?_, h.q, ht.below h.bel h.bel.size (fun t ht => ?_)⟩
  · rcases cas t ht with rfl | e
    · exact h.med.no_row h.mem.b (by decide) (by decide) (by decide) (by decide)
    · exact h.own_med ⟨k, hk, e⟩
  · rcases cas t hm with rfl | e
    · exact Row.ne_type hr h.mem.b (by decide) rfl
    · obtain ⟨_, cs', hr'⟩ := hown _ e
      exact Row.ne_type hr hr' (by decide) rfl
  · rcases cas 0 hm with e | e
    · omega
    · have := (hown _ e).1; omega
  · obtain ⟨j, hj, hx⟩ := hx
    by_cases ej : j = k
    · subst ej
      rw [updB_same] at hx
      rcases hat x hx with h2 | h2
      · exact h.own x ⟨j, hj, h2⟩ i hi e
      · obtain ⟨_, hr'⟩ := h.med.fl.rowP hi
        have := hr'.lt
        omega
    · rw [updB_ne _ _ ej] at hx
      exact h.own x ⟨j, hj, hx⟩ i hi e
  · rcases cas t ht with rfl | e
    · omega
    · exact (hown _ e).1
theorem PSt.put_tn (h : PSt w0 w W M Q F L P g v S n bad md m) {tn : Nat → Nat → Nat → Bool} (ht : Turns w w' [g 16]) (htn : TnIs w' (g 16) tn) : PSt w0 w' W M Q F L P g v S n bad md { m with tn := tn } := by
  have hl := h.mem.low
  have h1 := h.med.hB
  exact ⟨h.med.aside ht (fun t ht => by simp at ht; subst ht; exact h.tn_med) (fun t cs2 hr2 hx => by simp at hx; subst hx; exact h.mem.tn.not_row _ _ hr2) (by simp; omega), h.mem.put_tn ht htn, h.own, h.q, ht.below h.bel h.bel.size (fun t ht => by simp at ht; subst ht; omega)⟩
end
end Go.Proofs.YtlidbkofjchnnaaDoor

namespace Go.Proofs.YtlidbkofjchnnaaDoor
open Go.RowKit
set_option linter.unusedVariables false
set_option linter.unusedSimpArgs false

theorem pop_flip : ∀ m, m < 8 → ¬ pop8 (255 ^^^ 2 ^ m) ≤ 4 := by decide +kernel
/-- A page that was cut. -/
def Torn (c : Nat) (r : List Nat) (T : Nat → Bool) : Prop := ∃ d j, d.length ≤ 64 * c ∧ 0 < j ∧ j < c ∧ Near (part (laid d c) c j) r T
theorem torn_how {c : Nat} {r : List Nat} {T : Nat → Bool} (h : Torn c r T) : howOf r c = 1 := by
  obtain ⟨d, j, hd, hj, hjc, hN⟩ := h
  have hl := pad_length d c hd
  have hr : (laid d c).length = 73 * c := lay_length (pad d c) c hl c (Nat.le_refl _)
  have hpl : (part (laid d c) c j).length = 73 * c := by unfold part; rw [List.length_append, List.length_take, List.length_replicate]; omega
  have hlo : ∀ k, k < j → (part (laid d c) c j).getD (72 + 73 * k) 0 = 0 := fun k hk => by
    have e : (part (laid d c) c j).getD (72 + 73 * k) 0 = (laid d c).getD (72 + 73 * k) 0 := by
      unfold part
      rw [List.getD_eq_getElem?_getD, List.getElem?_append_left (by rw [List.length_take]; omega), List.getElem?_take, if_pos (by omega), ← List.getD_eq_getElem?_getD]
    rw [e]
    unfold laid
    exact lay_mark hl (by omega)
  have hhi : ∀ k, j ≤ k → k < c → (part (laid d c) c j).getD (72 + 73 * k) 0 = 255 := fun k hk hkc => by
    unfold part
    rw [List.getD_eq_getElem?_getD, List.getElem?_append_right (by rw [List.length_take]; omega), List.getElem?_replicate, if_pos (by rw [List.length_take]; omega)]
    rfl
  have key : ∀ k, k < c → ∃ z, (z = 0 ∨ ∃ m, m < 8 ∧ z = 2 ^ m) ∧ r.getD (72 + 73 * k) 0 = (part (laid d c) c j).getD (72 + 73 * k) 0 ^^^ z := fun k hk => by
    have hs : spotOf (72 + 73 * k) = 9 * k + 8 := by rw [Nat.add_comm]; exact spot_mark k
    cases hT : T (9 * k + 8) with
    | false => exact ⟨0, .inl rfl, by rw [hN.no _ (by rw [hpl]; omega) (by rw [hs]; exact hT), Nat.xor_zero]⟩
    | true =>
      obtain ⟨q, m, hq, hm, hqs, hall⟩ := hN.yes _ hT
      rw [hall _ (by rw [hpl]; omega) hs]
      split
      · exact ⟨2 ^ m, .inr ⟨m, hm, rfl⟩, rfl⟩
      · exact ⟨0, .inl rfl, by rw [Nat.xor_zero]⟩
  have hm := marks_at (l := r) j (fun k hk => by
    obtain ⟨z, hz, e⟩ := key k (by omega)
    rw [e, hlo k hk, Nat.zero_xor]
    rcases hz with rfl | ⟨m, hm, rfl⟩
    · decide
    · rw [(colOf_pow m hm).2.2]; decide) c (fun k hk hkc => by
    obtain ⟨z, hz, e⟩ := key k hkc
    rw [e, hhi k hk hkc]
    rcases hz with rfl | ⟨m, hm, rfl⟩
    · decide
    · exact pop_flip m hm)
  have hs : stateOf r c = 1 := by unfold stateOf; rw [hm, if_neg (by omega), if_neg (by omega)]
  unfold howOf
  rw [hs, if_neg (by decide)]
/-- A page of a block. -/
def rawB (c : Nat) (x : Bk) (p : Nat) : List Nat := (x.pg p).getD (List.replicate (73 * c) 255)
/-- What is held of a block. -/
structure AgB (c n : Nat) (x : Bk) (bad : Bool) (b : List (Option (List Nat))) (half one bd fail : Bool) (tn : Nat → Nat → Bool) : Prop where
  eHalf : half = x.half
  eOne : one = x.one
  eFail : fail = x.failed
  eBad : bd = bad
  eLen : half = false → b.length = x.next
  eSome : ∀ p d, half = false → b[p]? = some (some d) → d.length = n ∧ (∀ u ∈ d, u < 256) ∧ Near (laid d c) (rawB c x p) (tn p)
  eTorn : ∀ p, half = false → b[p]? = some none → Torn c (rawB c x p) (tn p)
  eTn : ∀ p s, half = false → tn p s = true → p < x.next
/-- What is held of a flash. -/
def Agr (S : Fl) (bad : Nat → Bool) (n : Nat) (m : Pm) : Prop := ∀ k, k < S.nb → AgB S.chunks n (S.b k) (bad k) (m.b k) (m.half k) (m.one k) (m.bad k) (m.fail k) (m.tn k)
section
variable {c n : Nat} {x : Bk} {bad half one bd fail : Bool} {b : List (Option (List Nat))} {tn : Nat → Nat → Bool}
theorem tn_next (h : AgB c n x bad b half one bd fail tn) (hh : half = false) : tn x.next = fun _ => false := by
  funext s
  cases ht : tn x.next s with
  | false => rfl
  | true => have := h.eTn _ _ hh ht; omega
/-- A page is written. -/
theorem AgB.wrote (h : AgB c n x bad b half one bd fail tn) (hh : half = false) {d : List Nat} (hd : d.length = n) (h256 : ∀ u ∈ d, u < 256) : AgB c n { x with pg := fun i => if i = x.next then some (laid d c) else x.pg i, next := x.next + 1 } bad (b ++ [some d]) half one bd fail tn := by
  have hl := h.eLen hh
  refine ⟨h.eHalf, h.eOne, h.eFail, h.eBad, fun _ => by simp [hl], fun p d' _ hp => ?_, fun p _ hp => ?_, fun p s _ ht => by have := h.eTn p s hh ht; show p < x.next + 1; omega⟩
  · rcases Nat.lt_or_ge p b.length with hlt | hge
    · rw [List.getElem?_append_left hlt] at hp
      have := h.eSome p d' hh hp
      have e : rawB c { x with pg := fun i => if i = x.next then some (laid d c) else x.pg i, next := x.next + 1 } p = rawB c x p := by
        unfold rawB
        show (if p = x.next then _ else _ : Option (List Nat)).getD _ = _
        rw [if_neg (by omega)]
      rw [e]; exact this
    · rw [List.getElem?_append_right hge] at hp
      have hpe : p = b.length := by
        have := (List.getElem?_eq_some_iff.1 hp).1
        simp at this; omega
      subst hpe
      simp at hp
      subst hp
      refine ⟨hd, h256, ?_⟩
      rw [hl, tn_next h hh]
      have e : rawB c { x with pg := fun i => if i = x.next then some (laid d c) else x.pg i, next := x.next + 1 } x.next = laid d c := by
        unfold rawB
        show (if x.next = x.next then _ else _ : Option (List Nat)).getD _ = _
        rw [if_pos rfl]; rfl
      rw [e]
      exact Near.refl _
  · rcases Nat.lt_or_ge p b.length with hlt | hge
    · rw [List.getElem?_append_left hlt] at hp
      have := h.eTorn p hh hp
      have e : rawB c { x with pg := fun i => if i = x.next then some (laid d c) else x.pg i, next := x.next + 1 } p = rawB c x p := by
        unfold rawB
        show (if p = x.next then _ else _ : Option (List Nat)).getD _ = _
        rw [if_neg (by omega)]
      rw [e]; exact this
    · rw [List.getElem?_append_right hge] at hp
      have hpe : p = b.length := by
        have := (List.getElem?_eq_some_iff.1 hp).1
        simp at this; omega
      subst hpe
      simp at hp
/-- A page is begun. -/
theorem AgB.begun (h : AgB c n x bad b half one bd fail tn) (hh : half = false) {d : List Nat} (hd : d.length ≤ 64 * c) {j : Nat} (hj : 0 < j) (hjc : j < c) : AgB c n { x with pg := fun i => if i = x.next then some (part (laid d c) c j) else x.pg i, next := x.next + 1 } bad (b ++ [none]) half one bd fail tn := by
  have hl := h.eLen hh
  have e : ∀ p, p < b.length → rawB c { x with pg := fun i => if i = x.next then some (part (laid d c) c j) else x.pg i, next := x.next + 1 } p = rawB c x p := fun p hp => by
    unfold rawB
    show (if p = x.next then _ else _ : Option (List Nat)).getD _ = _
    rw [if_neg (by omega)]
  refine ⟨h.eHalf, h.eOne, h.eFail, h.eBad, fun _ => by simp [hl], fun p d' _ hp => ?_, fun p _ hp => ?_, fun p s _ ht => by have := h.eTn p s hh ht; show p < x.next + 1; omega⟩
  · rcases Nat.lt_or_ge p b.length with hlt | hge
    · rw [List.getElem?_append_left hlt] at hp
      rw [e p hlt]; exact h.eSome p d' hh hp
    · rw [List.getElem?_append_right hge] at hp
      have hpe : p = b.length := by
        have := (List.getElem?_eq_some_iff.1 hp).1
        simp at this; omega
      subst hpe
      simp at hp
  · rcases Nat.lt_or_ge p b.length with hlt | hge
    · rw [List.getElem?_append_left hlt] at hp
      rw [e p hlt]; exact h.eTorn p hh hp
    · rw [List.getElem?_append_right hge] at hp
      have hpe : p = b.length := by
        have := (List.getElem?_eq_some_iff.1 hp).1
        simp at this; omega
      subst hpe
      rw [hl, tn_next h hh]
      have e2 : rawB c { x with pg := fun i => if i = x.next then some (part (laid d c) c j) else x.pg i, next := x.next + 1 } x.next = part (laid d c) c j := by
        unfold rawB
        show (if x.next = x.next then _ else _ : Option (List Nat)).getD _ = _
        rw [if_pos rfl]; rfl
      rw [e2]
      exact ⟨d, j, hd, hj, hjc, Near.refl _⟩
/-- A block is empty. -/
theorem AgB.clear {x' : Bk} (h : AgB c n x bad b half one bd fail tn) (one' : Bool) (e1 : x'.half = false) (e2 : x'.next = 0) (e3 : x'.one = one') (e4 : x'.failed = x.failed) : AgB c n x' bad [] false one' bd fail (fun _ _ => false) :=
  ⟨e1.symm, e3.symm, h.eFail.trans e4.symm, h.eBad, fun _ => e2.symm, fun p d _ hp => by simp at hp, fun p _ hp => by simp at hp, fun p s _ ht => by cases ht⟩
theorem AgB.halfE (h : AgB c n x bad b half one bd fail tn) : AgB c n { x with half := true } bad b true one bd fail tn :=
  ⟨rfl, h.eOne, h.eFail, h.eBad, fun e => absurd e (by simp), fun _ _ e => absurd e (by simp), fun _ e => absurd e (by simp), fun _ _ e => absurd e (by simp)⟩
theorem AgB.failE (h : AgB c n x bad b half one bd fail tn) : AgB c n { x with failed := true } bad b half one bd true tn :=
  ⟨h.eHalf, h.eOne, rfl, h.eBad, h.eLen, h.eSome, h.eTorn, h.eTn⟩
theorem AgB.badE (h : AgB c n x bad b half one bd fail tn) : AgB c n x true b half one true fail tn :=
  ⟨h.eHalf, h.eOne, h.eFail, rfl, h.eLen, h.eSome, h.eTorn, h.eTn⟩
/-- One bit is turned. -/
theorem AgB.flip (h : AgB c n x bad b half one bd fail tn) (hc : ∀ p d, x.pg p = some d → d.length = 73 * c) {p bit : Nat} (hp : p < x.next) (hbit : bit < 584 * c) (ht : tn p (spotOf (bit / 8)) = false) (hn : n ≤ 64 * c) :
    AgB c n { x with pg := fun i => if i = p then some (flipBit (rawB c x p) bit) else x.pg i } bad b half one bd fail (fun i s => (i == p && s == spotOf (bit / 8)) || tn i s) := by
  have e1 : ∀ i, i ≠ p → rawB c { x with pg := fun i => if i = p then some (flipBit (rawB c x p) bit) else x.pg i } i = rawB c x i := fun i hi => by
    show (if i = p then _ else _ : Option (List Nat)).getD _ = _
    rw [if_neg hi]; rfl
  have e2 : rawB c { x with pg := fun i => if i = p then some (flipBit (rawB c x p) bit) else x.pg i } p = flipBit (rawB c x p) bit := by
    show (if p = p then _ else _ : Option (List Nat)).getD _ = _
    rw [if_pos rfl]; rfl
  have t1 : ∀ i, i ≠ p → (fun s => (i == p && s == spotOf (bit / 8)) || tn i s) = tn i := fun i hi => by funext s; simp [hi]
  have t2 : (fun s => (p == p && s == spotOf (bit / 8)) || tn p s) = fun s => s == spotOf (bit / 8) || tn p s := by funext s; simp
  have hlen : ∀ L r, L.length = 73 * c → Near L r (tn p) → Near L (flipBit r bit) (fun s => s == spotOf (bit / 8) || tn p s) := fun L r hL hN => hN.flip (by omega) ht
  refine ⟨h.eHalf, h.eOne, h.eFail, h.eBad, h.eLen, fun i d hh hi => ?_, fun i hh hi => ?_, fun i s hh hi => ?_⟩
  · obtain ⟨h1, h2, h3⟩ := h.eSome i d hh hi
    refine ⟨h1, h2, ?_⟩
    by_cases e : i = p
    · subst e
      rw [e2, t2]
      exact hlen _ _ (lay_length (pad d c) c (pad_length d c (by omega)) c (Nat.le_refl _)) h3
    · rw [e1 i e, t1 i e]; exact h3
  · obtain ⟨d, j, hd, hj, hjc, hN⟩ := h.eTorn i hh hi
    by_cases e : i = p
    · subst e
      rw [e2, t2]
      have hr : (laid d c).length = 73 * c := lay_length (pad d c) c (pad_length d c hd) c (Nat.le_refl _)
      exact ⟨d, j, hd, hj, hjc, hlen _ _ (by unfold part; rw [List.length_append, List.length_take, List.length_replicate]; omega) hN⟩
    · rw [e1 i e, t1 i e]; exact ⟨d, j, hd, hj, hjc, hN⟩
  · rw [Bool.or_eq_true, Bool.and_eq_true] at hi
    rcases hi with ⟨hi, _⟩ | hi
    · have : i = p := by simpa using hi
      subst this; exact hp
    · exact h.eTn i s hh hi
end
section
variable {S S' : Fl} {bad bad' : Nat → Bool} {n : Nat} {m m' : Pm}
/-- All but one block is as it was. -/
theorem Agr.one (h : Agr S bad n m) {k : Nat} (e1 : S'.nb = S.nb) (e2 : S'.chunks = S.chunks) (e3 : ∀ i, i ≠ k → S'.b i = S.b i ∧ bad' i = bad i ∧ m'.b i = m.b i ∧ m'.half i = m.half i ∧ m'.one i = m.one i ∧ m'.bad i = m.bad i ∧ m'.fail i = m.fail i ∧ m'.tn i = m.tn i)
    (hk : k < S.nb → AgB S.chunks n (S.b k) (bad k) (m.b k) (m.half k) (m.one k) (m.bad k) (m.fail k) (m.tn k) → AgB S.chunks n (S'.b k) (bad' k) (m'.b k) (m'.half k) (m'.one k) (m'.bad k) (m'.fail k) (m'.tn k)) : Agr S' bad' n m' := fun i hi => by
  rw [e1] at hi
  rw [e2]
  by_cases e : i = k
  · subst e; exact hk hi (h i hi)
  · obtain ⟨f1, f2, f3, f4, f5, f6, f7, f8⟩ := e3 i e
    rw [f1, f2, f3, f4, f5, f6, f7, f8]; exact h i hi
theorem Agr.power (h : Agr S bad n m) (o : Bool) (a : Nat) : Agr { S with off := o, armed := a } bad n m := h
end
theorem pm_at {m : Pm} {k i : Nat} (h : i ≠ k) (l : List (Option (List Nat))) (f1 f2 f3 f4 : Bool) : updB m.b k l i = m.b i ∧ updB m.half k f1 i = m.half i ∧ updB m.one k f2 i = m.one i ∧ updB m.bad k f3 i = m.bad i ∧ updB m.fail k f4 i = m.fail i :=
  ⟨updB_ne _ _ h, updB_ne _ _ h, updB_ne _ _ h, updB_ne _ _ h, updB_ne _ _ h⟩
section
variable {S : Fl} {bad : Nat → Bool} {n : Nat} {m : Pm}
theorem Agr.wrote (h : Agr S bad n m) {k : Nat} (hc : 1 ≤ S.chunks) (hh : m.half k = false) {d : List Nat} (hd : d.length = n) (hn : n ≤ 64 * S.chunks) (h256 : ∀ u ∈ d, u < 256) : Agr (S.wrote k (laid d S.chunks)) bad n { m with b := updB m.b k (m.b k ++ [some d]) } := by
  refine h.one (k := k) rfl rfl (fun i hi => ⟨Fl.setB_ne S _ hi, rfl, updB_ne _ _ hi, rfl, rfl, rfl, rfl, rfl⟩) fun hk hB => ?_
  rw [wrote_b S k _ hc (laid_raw (by omega) h256).1]
  show AgB _ _ _ _ (updB m.b k _ k) _ _ _ _ _
  rw [updB_same]
  exact hB.wrote hh hd h256
theorem Agr.torn (h : Agr S bad n m) {k : Nat} (hh : m.half k = false) {d : List Nat} (hd : d.length ≤ 64 * S.chunks) (ha : 2 ≤ S.armed ∧ S.armed ≤ S.chunks) : Agr (S.torn k (laid d S.chunks)) bad n { m with b := updB m.b k (m.b k ++ [none]) } := by
  refine h.one (k := k) rfl rfl (fun i hi => ⟨Fl.setB_ne S _ hi, rfl, updB_ne _ _ hi, rfl, rfl, rfl, rfl, rfl⟩) fun hk hB => ?_
  have e : (S.torn k (laid d S.chunks)).b k = { S.b k with pg := fun i => if i = (S.b k).next then some (part (laid d S.chunks) S.chunks (S.armed - 1)) else (S.b k).pg i, next := (S.b k).next + 1 } := by
    unfold Fl.torn
    show (S.setB k _).b k = _
    rw [Fl.setB_self]
    unfold progB
    rw [if_neg (by omega)]
  rw [e]
  show AgB _ _ _ _ (updB m.b k _ k) _ _ _ _ _
  rw [updB_same]
  exact hB.begun hh hd (by omega) (by omega)
theorem torn_none (S : Fl) (k : Nat) (r : List Nat) (ha : S.armed = 1) : (S.torn k r).b = S.b := by
  unfold Fl.torn
  show (S.setB k _).b = _
  funext i
  by_cases e : i = k
  · subst e; rw [Fl.setB_self]; unfold progB; rw [if_pos (by omega)]
  · exact Fl.setB_ne S _ e
theorem Agr.torn_no (h : Agr S bad n m) (k : Nat) (r : List Nat) (ha : S.armed = 1) : Agr (S.torn k r) bad n m := fun i hi => by
  rw [torn_none S k r ha]; exact h i hi
/-- A block is cleared. -/
def Pm.clear (m : Pm) (k : Nat) (one : Bool) : Pm := { m with b := updB m.b k [], half := updB m.half k false, one := updB m.one k one, tn := fun i p s => if i = k then false else m.tn i p s }
theorem Agr.erased (h : Agr S bad n m) (k : Nat) (one : Bool) : Agr (S.erased k one) bad n (m.clear k one) := by
  refine h.one (k := k) rfl rfl (fun i hi => ⟨Fl.setB_ne S _ hi, rfl, updB_ne _ _ hi, updB_ne _ _ hi, updB_ne _ _ hi, rfl, rfl, by funext p s; show (if i = k then false else m.tn i p s) = _; rw [if_neg hi]⟩) fun hk hB => ?_
  have e : (S.erased k one).b k = { S.b k with pg := fun _ => none, next := 0, half := false, one := one } := Fl.setB_self S k _
  rw [e]
  have e2 : (m.clear k one).tn k = fun _ _ => false := by funext p s; show (if k = k then false else m.tn k p s) = _; rw [if_pos rfl]
  show AgB _ _ _ _ (updB m.b k _ k) (updB m.half k _ k) (updB m.one k _ k) _ _ _
  rw [updB_same, updB_same, updB_same, e2]
  exact hB.clear one rfl rfl rfl rfl
theorem Agr.cleared (h : Agr S bad n m) (k : Nat) (hh : (S.b k).half = false) (hn : (S.b k).next = 0) : Agr S bad n (m.clear k (S.b k).one) := by
  refine h.one (k := k) rfl rfl (fun i hi => ⟨rfl, rfl, updB_ne _ _ hi, updB_ne _ _ hi, updB_ne _ _ hi, rfl, rfl, by funext p s; show (if i = k then false else m.tn i p s) = _; rw [if_neg hi]⟩) fun hk hB => ?_
  have e2 : (m.clear k (S.b k).one).tn k = fun _ _ => false := by funext p s; show (if k = k then false else m.tn k p s) = _; rw [if_pos rfl]
  show AgB _ _ _ _ (updB m.b k _ k) (updB m.half k _ k) (updB m.one k _ k) _ _ _
  rw [updB_same, updB_same, updB_same, e2]
  exact hB.clear _ hh hn rfl rfl
theorem Agr.set_half (h : Agr S bad n m) {k : Nat} (hk : k < S.nb) : Agr S bad n { m with half := updB m.half k (S.b k).half } := by
  refine h.one (k := k) rfl rfl (fun i hi => ⟨rfl, rfl, rfl, updB_ne _ _ hi, rfl, rfl, rfl, rfl⟩) fun hk hB => ?_
  show AgB _ _ _ _ _ (updB m.half k _ k) _ _ _ _
  rw [updB_same, ← hB.eHalf]
  exact hB
theorem Agr.halfE (h : Agr S bad n m) (k : Nat) : Agr (S.halfE k) bad n { m with half := updB m.half k true } := by
  refine h.one (k := k) rfl rfl (fun i hi => ⟨Fl.setB_ne S _ hi, rfl, rfl, updB_ne _ _ hi, rfl, rfl, rfl, rfl⟩) fun hk hB => ?_
  have e : (S.halfE k).b k = { S.b k with half := true } := Fl.setB_self S k _
  rw [e]
  show AgB _ _ _ _ _ (updB m.half k _ k) _ _ _ _
  rw [updB_same]
  exact hB.halfE
theorem Agr.failE (h : Agr S bad n m) (k : Nat) : Agr (S.setB k { S.b k with failed := true }) bad n { m with fail := updB m.fail k true } := by
  refine h.one (k := k) rfl rfl (fun i hi => ⟨Fl.setB_ne S _ hi, rfl, rfl, rfl, rfl, rfl, updB_ne _ _ hi, rfl⟩) fun hk hB => ?_
  rw [Fl.setB_self]
  show AgB _ _ _ _ _ _ _ _ (updB m.fail k _ k) _
  rw [updB_same]
  exact hB.failE
theorem Agr.badE (h : Agr S bad n m) (k : Nat) : Agr S (setBad bad k) n { m with bad := updB m.bad k true } := by
  refine h.one (k := k) rfl rfl (fun i hi => ⟨rfl, by simp [setBad, hi], rfl, rfl, rfl, updB_ne _ _ hi, rfl, rfl⟩) fun hk hB => ?_
  show AgB _ _ _ _ _ _ _ (updB m.bad k _ k) _ _
  rw [updB_same, show setBad bad k k = true by simp [setBad]]
  exact hB.badE
theorem Agr.flip (h : Agr S bad n m) (hok : S.Ok) {k p bit : Nat} (hk : k < S.nb) (hf : S.flips k p bit) (ht : m.tn k p (spotOf (bit / 8)) = false) (hn : n ≤ 64 * S.chunks) : Agr (S.flipped k p bit) bad n { m with tn := updT m.tn k p (spotOf (bit / 8)) } := by
  obtain ⟨_, hh, hp, _, hb⟩ := hf
  refine h.one (k := k) rfl rfl (fun i hi => ⟨Fl.setB_ne S _ hi, rfl, rfl, rfl, rfl, rfl, rfl, by funext p' s'; simp [updT, hi]⟩) fun hk hB => ?_
  have e : (S.flipped k p bit).b k = { S.b k with pg := fun i => if i = p then some (flipBit (rawB S.chunks (S.b k) p) bit) else (S.b k).pg i } := Fl.setB_self S k _
  rw [e]
  have e2 : ({ m with tn := updT m.tn k p (spotOf (bit / 8)) } : Pm).tn k = fun i s => (i == p && s == spotOf (bit / 8)) || m.tn k i s := by
    funext i s
    show (decide (k = k ∧ i = p ∧ s = spotOf (bit / 8)) || m.tn k i s) = _
    by_cases h1 : i = p <;> by_cases h2 : s = spotOf (bit / 8) <;> simp [h1, h2]
  rw [e2]
  exact hB.flip (fun p d hd => ((hok.wf k hk).raw p d hd).1) (by omega) (by omega) ht hn
/-- What is seen of a page. -/
theorem Agr.page (h : Agr S bad n m) (hok : S.Ok) (hn : n ≤ 64 * S.chunks) {k p : Nat} (hk : k < S.nb) (hh : m.half k = false) :
    (∀ d, (m.b k)[p]? = some (some d) → howOf (S.raw k p) S.chunks = 2 ∧ (rBytes (S.raw k p) S.chunks).take n = d) ∧ ((m.b k)[p]? = some none ∨ (m.b k)[p]? = none → howOf (S.raw k p) S.chunks = 0 ∨ howOf (S.raw k p) S.chunks = 1) := by
  have hB := h k hk
  have hc := hok.chunks
  constructor
  · intro d hd
    obtain ⟨h1, h2, h3⟩ := hB.eSome p d hh hd
    have := near_read (d := d) (c := S.chunks) hc.1 (by omega) h2 (S.raw_ok hok hk p).2 h3
    rw [h1] at this
    exact this
  · rintro (hd | hd)
    · exact .inr (torn_how (hB.eTorn p hh hd))
    · left
      have hle : (m.b k).length ≤ p := by simpa using hd
      have hl := hB.eLen hh
      have : (S.b k).pg p = none := (hok.wf k hk).none p (by omega)
      have e : S.raw k p = List.replicate (73 * S.chunks) 255 := by unfold Fl.raw; rw [this]; rfl
      rw [e]
      have hm := marks_at (l := List.replicate (73 * S.chunks) 255) 0 (fun k hk => by omega) S.chunks (fun k _ hkc => by
        rw [List.getD_eq_getElem?_getD, List.getElem?_replicate, if_pos (by omega)]; decide)
      have hs : stateOf (List.replicate (73 * S.chunks) 255) S.chunks = 0 := by unfold stateOf; rw [hm, if_pos (by omega)]
      unfold howOf
      rw [hs, if_neg (by decide)]
end
end Go.Proofs.YtlidbkofjchnnaaDoor

namespace Go.Proofs.YtlidbkofjchnnaaDoor
open Go.RowKit
set_option linter.unusedVariables false
set_option linter.unusedSimpArgs false

theorem is_in (W nb gb k : Nat) (hk : k < nb) (w : World) (c4 : w.cell? ⟨W, 4, none⟩ = some (.slice (some ⟨gb, 0, none⟩) nb nb)) : Calls Tryd.prog 45 #[.pointer (some ⟨W, 0, none⟩), .int .i64 k] w fun e w' => e = .returned (.bool true) ∧ w = w' := by
  go_enter Tryd.func45, Tryd.ntmps45
  go_wp2
  go_ret
  exact ⟨by simp, rfl⟩
theorem is_out (W nb gb : Nat) (k : Int) (hk : k < 0 ∨ nb ≤ k) (w : World) (c4 : w.cell? ⟨W, 4, none⟩ = some (.slice (some ⟨gb, 0, none⟩) nb nb)) : Calls Tryd.prog 45 #[.pointer (some ⟨W, 0, none⟩), .int .i64 k] w fun e w' => e = .returned (.bool false) ∧ w = w' := by
  by_cases h0 : 0 ≤ k
  · have h1 : ¬ k < nb := by omega
    clear hk
    go_enter Tryd.func45, Tryd.ntmps45
    go_wp2
    go_ret
    exact ⟨by simp, rfl⟩
  · clear hk
    go_enter Tryd.func45, Tryd.ntmps45
    go_wp2
    go_ret
    exact ⟨rfl, rfl⟩
/-- How many pages a block has. -/
def hasM (pages : Nat) (one : Bool) : Nat := if one then pages / 2 else pages
theorem has_in (W pages nb g1 k : Nat) (one : Bool) (hk : k < nb) (hp : pages ≤ 256) (w : World) (c3 : w.cell? ⟨W, 3, none⟩ = some (.int .i64 pages)) (c7 : w.cell? ⟨W, 7, none⟩ = some (.slice (some ⟨g1, 0, none⟩) nb nb)) (ck : w.cell? ⟨g1, k, none⟩ = some (.bool one)) :
    Calls Tryd.prog 24 #[.pointer (some ⟨W, 0, none⟩), .int .i64 k] w fun e w' => e = .returned (.int .i64 (hasM pages one : Nat)) ∧ w = w' := by
  obtain ⟨m, hm0⟩ : ∃ m, m = pages / 2 := ⟨_, rfl⟩
  unfold hasM
  rw [← hm0]
  have hd : (pages : Int) / 2 = (m : Int) := by omega
  have hki : (k : Int) < nb := by omega
  clear hm0
  cases one
  all_goals
    go_enter Tryd.func24, Tryd.ntmps24
    go_wp2
    go_ret
    exact ⟨rfl, rfl⟩
section
variable {w0 w : World} {W M Q F L n : Nat} {P g : Nat → Nat} {v : Nat → Value} {S : Fl} {bad : Nat → Bool} {md : Int} {m : Pm}
theorem PSt.is_in (h : PSt w0 w W M Q F L P g v S n bad md m) {k : Nat} (hk : k < S.nb) (c : Nat) : Calls Tryd.prog 45 #[.pointer (some ⟨W, 0, none⟩), .int .i64 k] (w.drewN c) fun e w' => e = .returned (.bool true) ∧ w.drewN c = w' := Go.Proofs.YtlidbkofjchnnaaDoor.is_in W S.nb (g 5) k hk (w.drewN c) (h.drewN c).mem.cells.2.2.2.2.1
theorem PSt.is_out (h : PSt w0 w W M Q F L P g v S n bad md m) {k : Int} (hk : k < 0 ∨ S.nb ≤ k) (c : Nat) : Calls Tryd.prog 45 #[.pointer (some ⟨W, 0, none⟩), .int .i64 k] (w.drewN c) fun e w' => e = .returned (.bool false) ∧ w.drewN c = w' := Go.Proofs.YtlidbkofjchnnaaDoor.is_out W S.nb (g 5) k hk (w.drewN c) (h.drewN c).mem.cells.2.2.2.2.1
theorem PSt.has_in (h : PSt w0 w W M Q F L P g v S n bad md m) (ha : Agr S bad n m) {k : Nat} (hk : k < S.nb) (c : Nat) : Calls Tryd.prog 24 #[.pointer (some ⟨W, 0, none⟩), .int .i64 k] (w.drewN c) fun e w' => e = .returned (.int .i64 (S.has k : Nat)) ∧ w.drewN c = w' := by
  have hp := h.med.fl.ok.pages
  have := Go.Proofs.YtlidbkofjchnnaaDoor.has_in W S.pages S.nb (g 11) k (m.one k) hk (by omega) (w.drewN c) (h.drewN c).mem.cells.2.2.2.1 (h.drewN c).mem.cells.2.2.2.2.2.2.1 ((h.drewN c).mem.at_k hk).2.2.1
  rw [(ha k hk).eOne] at this
  exact this
/-- The world behind a Read; rows of ints are as they were. -/
def PRd (w0 : World) (W M Q F L : Nat) (P g : Nat → Nat) (v : Nat → Value) (S : Fl) (n : Nat) (bad : Nat → Bool) (m : Pm) (I : Nat → Array Value → Prop) (w : World) : Prop := (∃ md, PSt w0 w W M Q F L P g v S n bad md m) ∧ ∀ x cs, I x cs → Row w x 3 cs
theorem PSt.rows (h : PSt w0 w W M Q F L P g v S n bad md m) {w' : World} {T : List Nat} (ht : Turns w w' T) (hT : ∀ t ∈ T, t ∈ medT M Q F L P S.nb) {I : Nat → Array Value → Prop} (hI : ∀ x cs, I x cs → Row w x 3 cs) : ∀ x cs, I x cs → Row w' x 3 cs := fun x cs hx =>
  ht.row (hI x cs hx) (fun hm => h.med.no_row (hI x cs hx) (by decide) (by decide) (by decide) (by decide) (hT _ hm))
theorem PSt.read_out (h : PSt w0 w W M Q F L P g v S n bad md m) {I : Nat → Array Value → Prop} (hI : ∀ x cs, I x cs → Row w x 3 cs) (k p : Int) (hk : k < 0 ∨ S.nb ≤ k) : Calls Tryd.prog 21 #[.pointer (some ⟨M, 0, none⟩), .int .i64 k, .int .i64 p] w fun e w' => e = .returned (.tuple #[.slice none 0 0, .int .i64 1]) ∧ PRd w0 W M Q F L P g v S n bad m I w' :=
  (MRead_out h.med k p hk).mono fun e w' ⟨he, m', hw⟩ => ⟨he, ⟨md, by rw [hw]; exact h.drewN m'⟩, by rw [hw]; exact hI⟩
theorem PSt.read_page (h : PSt w0 w W M Q F L P g v S n bad md m) {I : Nat → Array Value → Prop} (hI : ∀ x cs, I x cs → Row w x 3 cs) (k : Nat) (p : Int) (hk : k < S.nb) (hp : ¬ (0 ≤ p ∧ p < S.has k)) : Calls Tryd.prog 21 #[.pointer (some ⟨M, 0, none⟩), .int .i64 k, .int .i64 p] w fun e w' => e = .returned (.tuple #[.slice none 0 0, .int .i64 1]) ∧ PRd w0 W M Q F L P g v S n bad m I w' :=
  (MRead_page h.med k hk p hp).mono fun e w' ⟨he, m', hw⟩ => ⟨he, ⟨md, by rw [hw]; exact h.drewN m'⟩, by rw [hw]; exact hI⟩
theorem PSt.read_none (h : PSt w0 w W M Q F L P g v S n bad md m) {I : Nat → Array Value → Prop} (hI : ∀ x cs, I x cs → Row w x 3 cs) (ha : Agr S bad n m) (k p : Nat) (hk : k < S.nb) (hp : p < S.has k) (ho : S.off = false) (hn : m.half k = true ∨ (m.b k)[p]? = some none ∨ (m.b k)[p]? = none) : Calls Tryd.prog 21 #[.pointer (some ⟨M, 0, none⟩), .int .i64 k, .int .i64 p] w fun e w' => e = .returned (.tuple #[.slice none 0 0, .int .i64 9]) ∧ PRd w0 W M Q F L P g v S n bad m I w' := by
  cases hh : m.half k with
  | true =>
    refine (MRead_half h.med k hk p (by omega) ho ?_).mono fun e w' ⟨he, m', hw⟩ => ⟨he, ⟨md, by rw [hw]; exact h.drewN m'⟩, by rw [hw]; exact hI⟩
    rw [← (ha k hk).eHalf]; exact hh
  | false =>
    refine (MRead_core h.med k hk p hp ho (by rw [← (ha k hk).eHalf]; exact hh)).mono fun e w' ⟨hm, ht, h1, _, _⟩ => ⟨h1 ?_, ⟨_, h.turn hm ht (by simp [medT, flS]) rfl rfl⟩, h.rows ht (by simp [medT, flS]) hI⟩
    refine (ha.page h.med.fl.ok h.med.bytes.2 hk hh).2 (hn.resolve_left ?_)
    rw [hh]; simp
/-- What the walk reads of a page that is there. -/
structure PgAt (w : World) (G p A0 : Nat) (O0 n c : Nat) (tx : ByteArray) : Prop where
  cell : w.cell? ⟨G, p, none⟩ = some (.slice (some ⟨A0, O0, none⟩) n c)
  conv : ∀ m, (convert 46 9 (.slice (some ⟨A0, O0, none⟩) n c)).run Tryd.prog (w.drewN m) = .ok (.string tx) (w.drewN m)
theorem own_nth {w : World} {base : Nat} {e : TypeId} {u : Value} {l : Nat} {vs : List Value} (h : w.ownsRow base e 1 u l vs) {p : Nat} {x : Value} (hp : vs[p]? = some x) : ∃ G c, u = .slice (some ⟨G, 0, none⟩) l c ∧ w.cell? ⟨G, p, none⟩ = some x := by
  have hlt : p < l := by
    have := (List.getElem?_eq_some_iff.1 hp).1
    have := h.1; omega
  rcases h.2 with ⟨_, rfl⟩ | ⟨g, cap, cur, e, _, hr, h1, h2, h3, h4⟩
  · omega
  · refine ⟨g, cap, e, ?_⟩
    have hr' : Row w g _ cur := hr
    rw [hr'.cell, ← hp, ← h4, List.getElem?_take, if_pos (by omega), Array.getElem?_toList]
theorem PSt.page (h : PSt w0 w W M Q F L P g v S n bad md m) {k p : Nat} (hk : k < S.nb) {x : Option (List Nat)} (hx : (m.b k)[p]? = some x) : ∃ G c, v k = .slice (some ⟨G, 0, none⟩) (m.b k).length c ∧ (x = none → w.cell? ⟨G, p, none⟩ = some (.slice none 0 0)) ∧ ∀ d, x = some d → ∃ A0 O0 c0, PgAt w G p A0 O0 d.length c0 (textOf d) := by
  obtain ⟨vs, h1, h2⟩ := h.mem.pgs k hk
  obtain ⟨u, hu, hp⟩ := h2 p x hx
  obtain ⟨G, c, e, hc⟩ := own_nth h1 hu
  refine ⟨G, c, e, fun hn => ?_, fun d hd => ?_⟩
  · subst hn; rw [hc, show u = _ from hp]
  · subst hd
    obtain ⟨a, c0, rfl, h0, hcl, _⟩ := hp
    obtain ⟨b, off, ea, _⟩ := hcl 0 h0
    injection ea with ea
    subst ea
    exact ⟨b, off, c0, hc, fun m => conv_text (w := w.drewN m) hcl⟩
theorem PSt.read_some (h : PSt w0 w W M Q F L P g v S n bad md m) {I : Nat → Array Value → Prop} (hI : ∀ x cs, I x cs → Row w x 3 cs) (ha : Agr S bad n m) (k p : Nat) (hk : k < S.nb) (hp : p < S.has k) (ho : S.off = false) (hh : m.half k = false) {d : List Nat} (hd : (m.b k)[p]? = some (some d)) : Calls Tryd.prog 21 #[.pointer (some ⟨M, 0, none⟩), .int .i64 k, .int .i64 p] w fun e w' => ∃ A q, e = .returned (.tuple #[.slice A n q, .int .i64 0]) ∧ PRd w0 W M Q F L P g v S n bad m I w' ∧ ∀ c, (convert 46 9 (.slice A n q)).run Tryd.prog (w'.drewN c) = .ok (.string (textOf d)) (w'.drewN c) := by
  refine (MRead_core h.med k hk p hp ho (by rw [← (ha k hk).eHalf]; exact hh)).mono fun e w' ⟨hm, ht, _, _, h4⟩ => ?_
  obtain ⟨e1, e2⟩ := (ha.page h.med.fl.ok h.med.bytes.2 hk hh).1 d hd
  obtain ⟨A, q, he, ho⟩ := h4 e1
  rw [e2] at ho
  have hx := h.turn hm ht (by simp [medT, flS]) rfl rfl
  have hl := ((ha k hk).eSome p d hh hd).1
  have hcl := (Cells8.of_own ho).2
  refine ⟨A, q, he, ⟨⟨_, hx⟩, h.rows ht (by simp [medT, flS]) hI⟩, fun c => ?_⟩
  have := conv_text (c := q) (w := w'.drewN c) hcl
  rw [hl] at this
  exact this
end
end Go.Proofs.YtlidbkofjchnnaaDoor
