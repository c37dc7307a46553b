/- crash: bytes of its own, texts of bytes, slices.Clone; keys of one int. -/
import Derived.Test.YtomigaldomiefaaCrPlain
import Derived.Test.YtomigaldomiefaaMaps
import Derived.Test.YtomigaldomiefaaHeld
import Derived.Test.YtomigaldomiefaaSeq
import Derived.Laws.BytesString
namespace Go.Proofs.Ytomigaldomiefaa
open Go.RowKit Go.MapKept Go.ChangeMaps
open Go.Maps (Keyed)
set_option linter.unusedVariables false
set_option linter.unusedSimpArgs false

theorem reach_small {n : Nat} (h : n ≤ reachBytes) : n ≤ 140737488351232 := h
theorem u8_info : (Try.prog.info? 5).map (fun i => (i.zero, i.size, i.bytes)) = some (some (.int .u8 0), 1, 1) := by kernel_rfl
theorem write_info : (Try.prog.info? 30).map (fun i => (i.zero, i.size, i.bytes)) = some (some (.agg #[.int .i64 0, .int .i64 0, .slice none 0 0]), 3, 40) := by kernel_rfl

set_option maxHeartbeats 400000 in
theorem CloneB_any (A : Option Addr) (n c : Nat) (xs : List Value) (hlen : n ≤ reachBytes) (w : World) (hs : Src w 1 A n xs) (h1 : ∀ u ∈ xs, u.oneCell' = true) :
    Calls Try.prog 49 #[.slice A n c] w fun e w' => ∃ A' c', e = .returned (.slice A' n c') ∧ w'.ownsRow w.heap.size 5 1 (.slice A' n c') n xs ∧ Below w.heap.size w w' := by
  obtain ⟨i0, hi, hz0, hz1, hz2⟩ := info_parts u8_info
  have q22 : ∀ (w : World) (a : Option Addr) (n c n' c' : Nat), (binOp .eql 22 (.slice a n c) (.slice none n' c')).run Try.prog w = .ok (.bool a.isNone) w := fun w a n c n' c' => Lib.run_eql_slice_nil w _ _ a n c n' c' Try.underlying22
  cases A with
  | none =>
    have hn : n = 0 := by
      rcases Nat.eq_zero_or_pos n with h | h
      · exact h
      · obtain ⟨_, e, _⟩ := hs.lies h; cases e
    subst hn
    obtain rfl : xs = [] := List.eq_nil_of_length_eq_zero (by simpa using hs.len)
    clear hs h1
    go_enter Try.func49, Try.ntmps49
    go_wp2
    go_ret
    exact ⟨_, _, rfl, World.ownsRow_nil _ _ _ _, Below.refl _ _⟩
  | some ad =>
    have H1 := Lib.hid h1
    have HO := Lib.hid (World.ownsRow_made (base := w.heap.size) (size := 1) (e := 5) w #[] 0 (Nat.le_refl _) (Nat.zero_le _) rfl)
    have HS := Lib.hid (hs.keep (w' := w.alloc (.cells #[] 5)) (fun a v h => (World.cell?_alloc_lt _ _ _ (World.block_lt_of_cell? w a h)).trans h))
    have HB : Hid (Below w.heap.size w (w.alloc (.cells #[] 5))) := by unfold Hid; (repeat (first | (with_reducible refine Below.drew ?_) | (with_reducible refine below_drewN0 ?_ _) | ((with_reducible refine Below.setCell ?_ ?_ _); rotate_left; focus (first | omega | (simp; done) | (simp; omega) | (simp at *; omega))) | ((with_reducible refine Below.alloc ?_ ?_ _); rotate_left; focus (first | omega | (simp; done) | (simp; omega) | (simp at *; omega))) | (with_reducible exact Below.refl _ _)))
    have b1 : Hid (0 + n ≤ maxLen) := by have := reach_small hlen; unfold Hid maxLen; omega
    have b2 : Hid ((0 + n) * 1 ≤ 140737488355328) := by have := reach_small hlen; unfold Hid; omega
    clear hs h1
    go_enter Try.func49, Try.ntmps49
    go_wp2_with (at_builtin; refine wpList_append_src _ rfl _ _ 22 rfl w.heap.size 5 i0 (.int .u8 0) 1 1 Try.underlying22 hi hz0 hz1 hz2 rfl (by decide) _ 0 [] rfl HO.out (some ad) n c xs rfl HS.out H1.out b1.out b2.out (by simp) ?_; intro v' w1 hown hgrow hv)
    rw [Nat.zero_add, List.nil_append] at hown
    obtain ⟨A', c', rfl, _, _⟩ := own_shape hown
    have hown := Lib.hid hown
    go_wp2
    go_ret
    refine ⟨A', c', rfl, hown.out, HB.out.grown hgrow (by simp) ?_⟩
    intro k hk
    have : w.heap.size = k := by injection hk
    omega

/-- A slice of one's own that holds these bytes. -/
structure DatIs (w : World) (B : Nat) (d : Value) (l : List Nat) : Prop where
  small : ∀ x ∈ l, x < 256
  short : l.length ≤ reachBytes
  own : w.ownsRow B 5 1 d l.length (intsV .u8 l)
theorem DatIs.shape {w : World} {B : Nat} {d : Value} {l : List Nat} (h : DatIs w B d l) : ∃ A c, d = .slice A l.length c ∧ l.length ≤ c ∧ c ≤ maxLen := own_shape h.own
theorem DatIs.src {w : World} {B : Nat} {A : Option Addr} {n c : Nat} {l : List Nat} (h : DatIs w B (.slice A n c) l) : Src w 1 A l.length (intsV .u8 l) ∧ n = l.length := by
  obtain ⟨A', c', e, _⟩ := h.shape
  injection e with e1 e2 e3
  subst e1; subst e2
  exact ⟨Src.of_own h.own, rfl⟩
/-- The text of some bytes. -/
def textOf (l : List Nat) : ByteArray := (l.map fun (x : Nat) => (x : Int)).foldl (fun r n => r.push (UInt8.ofNat n.toNat)) ByteArray.empty
theorem conv_text {w : World} {A : Option Addr} {c : Nat} {l : List Nat} (h : Cells8 w A l) : (convert 22 9 (.slice A l.length c)).run Try.prog w = .ok (.string (textOf l)) w := by
  rw [run_convert_bytes_string w _ _ 5 _ _ _ Try.underlying22 Try.underlying5 Try.underlying9]
  cases A with
  | none =>
    obtain rfl : l = [] := by
      cases l with
      | nil => rfl
      | cons x r => obtain ⟨_, _, e, _⟩ := h 0 (by simp); cases e
    simp [Conv.bytesToString, textOf]
  | some ad =>
    refine run_bytesToString w _ _ _ _ ?_
    have h2 := run_loadCells_list (P := Try.prog) w ad (intsV .u8 l) (fun j v hv => by
      have hj : j < l.length := by
        rcases Nat.lt_or_ge j l.length with h1 | h1
        · exact h1
        · rw [List.getElem?_eq_none (by rw [intsV_length]; exact h1)] at hv; cases hv
      obtain ⟨b, off, e, hc⟩ := h j hj
      injection e with e; subst e
      rw [intsV_get .u8 l j hj] at hv
      injection hv with hv
      subst hv
      rw [addr_add]
      exact hc)
    rw [intsV_length] at h2
    rw [h2]; congr 1
    simp [intsV]
theorem Cells8.of_src {w : World} {A : Option Addr} {l : List Nat} (hsp : ∀ a, A = some a → a.spot = none) (h : Src w 1 A l.length (intsV .u8 l)) : Cells8 w A l := by
  intro i hi
  obtain ⟨⟨b, off, spot⟩, e, hc⟩ := h.lies (by omega)
  have := hsp _ e
  simp at this; subst this
  have h1 := hc i _ (intsV_get .u8 l i hi)
  rw [addr_add] at h1
  exact ⟨b, off, e, h1⟩
theorem DatIs.lies {w : World} {B : Nat} {A : Option Addr} {n c : Nat} {l : List Nat} (h : DatIs w B (.slice A n c) l) : Cells8 w A l := by
  refine Cells8.of_src (fun a e => ?_) h.src.1
  rcases h.own.2 with ⟨e2, _⟩ | ⟨g', cap, cur, e2, _⟩
  · injection e2 with e2 _ _; rw [e2] at e; cases e
  · injection e2 with e2 _ _; rw [e2] at e; injection e with e; subst e; rfl

theorem textOf_data (l : List Nat) : (textOf l).data.toList = l.map UInt8.ofNat := by
  have key : ∀ (m : List Int) (r : ByteArray), (m.foldl (fun r n => r.push (UInt8.ofNat n.toNat)) r).data.toList = r.data.toList ++ m.map fun n => UInt8.ofNat n.toNat := by
    intro m
    induction m with
    | nil => intro r; simp
    | cons x m ih => intro r; rw [List.foldl_cons, ih]; simp
  unfold textOf
  rw [key]
  simp
theorem textOf_inj {a b : List Nat} (ha : ∀ x ∈ a, x < 256) (hb : ∀ x ∈ b, x < 256) (h : textOf a = textOf b) : a = b := by
  have h1 : a.map UInt8.ofNat = b.map UInt8.ofNat := by rw [← textOf_data, ← textOf_data, h]
  have h2 : ∀ (l : List Nat), (∀ x ∈ l, x < 256) → (l.map UInt8.ofNat).map UInt8.toNat = l := by
    intro l hl
    rw [List.map_map]
    conv => rhs; rw [← List.map_id l]
    apply List.map_congr_left
    intro x hx
    have := hl x hx
    simp [Function.comp, UInt8.toNat_ofNat', Nat.mod_eq_of_lt this]
  rw [← h2 a ha, ← h2 b hb, h1]
/-! Keys of one int. -/
theorem laidOut0 : laidOutB Try.prog = true := by kernel_rfl
abbrev pv (p : Int) : Value := .agg #[.int .i64 p]
def R64 (n : Int) : Prop := -9223372036854775808 ≤ n ∧ n ≤ 9223372036854775807
theorem wf_R64 {a : Int} (h : R64 a) : (Lit.int .i64 a).wf = true := by
  unfold R64 at h
  simp [Lit.wf, IntKind.min, IntKind.max, IntKind.signed, IntKind.bits]; exact h
theorem keyOf_struct1 {P : Program} {k e : TypeId} {f0 : Field} (hu : P.underlying k = some (.struct #[f0])) (he : P.underlying e = some (.int .i64)) (hk : P.keyType k = true) (hc : P.cellsOf k = 1) (hce : P.cellsOf e = 1)
    (h0 : f0.type = e ∧ f0.offset = 0 ∧ (f0.name != "_") = true) (hsz : 0 < P.types.size) {a : Int} (ha : R64 a) :
    keyOf P k (pv a) = some (.string (keyBytes [.int .i64 a])) := by
  obtain ⟨m, hm⟩ : ∃ m, P.types.size = m + 1 := ⟨P.types.size - 1, by omega⟩
  have ha := wf_R64 ha
  obtain ⟨t0, o0, n0⟩ := h0
  have hl : P.keyLits (m + 1 + 1) k [Value.int .i64 a] = some [.int .i64 a] := by
    simp at n0
    simp [Program.keyLits, hu, hc, t0, o0, n0, hce, he, ha]
  simp [keyOf, hu, hk, Value.formed, hc, Value.cells, hm, hl]
theorem spot_rec : Try.prog.keyTypeAt (Try.prog.types.size + 1) 77 = true := by kernel_rfl
theorem spot_wide : (match Try.prog.underlying 77 with | some (.array _ _) | some (.struct _) => true | _ => false) = true := by kernel_rfl
theorem spot_row : (77 : TypeId) < Try.prog.types.size := of_decide_eq_true (by kernel_rfl)
set_option maxRecDepth 100000 in
theorem spotKeyed : Keyed Try.prog 77 := Keyed.of_law (deep_law_laid laidOut0 (m := 2) (by omega) spot_row (by kernel_rfl) spot_wide)
theorem types_pos : 0 < Try.prog.types.size := of_decide_eq_true (by kernel_rfl)
theorem spot_key {a : Int} (ha : R64 a) : keyOf Try.prog 77 (pv a) = some (.string (keyBytes [.int .i64 a])) :=
  keyOf_struct1 Try.underlying77 Try.underlying3 spot_rec (by kernel_rfl) (by kernel_rfl) ⟨rfl, rfl, by decide⟩ types_pos ha
theorem pv_inj {a b : Int} (h : pv a = pv b) : a = b := by simpa [pv] using h
end Go.Proofs.Ytomigaldomiefaa
