/- The law's World among what a media turns. -/
import Derived.Test.YtlidbkofjchnnaaDoorBegun
import Derived.Test.YtlidbkofjchnnaaDoorPlainC
namespace Go.Proofs.YtlidbkofjchnnaaDoor
open Go.RowKit
set_option linter.unusedVariables false
set_option linter.unusedSimpArgs false

section
variable {w w' : World} {B M Q F L n : Nat} {P : Nat → Nat} {S S' : Fl} {bad : Nat → Bool} {md : Int}
theorem MedIs.no_row (h : MedIs w B M Q F L P S n bad md) {g : Nat} {t : TypeId} {cs : Array Value} (hr : Row w g t cs) (h1 : t ≠ 78) (h2 : t ≠ 42) (h3 : t ≠ 89) (h4 : t ≠ 46) : g ∉ medT M Q F L P S.nb := fun hm => by
  rcases mem_medT.1 hm with rfl | rfl | rfl | rfl | ⟨i, hi, rfl⟩
  · exact Row.ne_type hr h.row h1 rfl
  · exact h.bad.not_row _ _ hr
  · obtain ⟨_, hr'⟩ := h.fl.rowF; exact Row.ne_type hr hr' h2 rfl
  · obtain ⟨_, hr'⟩ := h.fl.rowL; exact Row.ne_type hr hr' h3 rfl
  · obtain ⟨_, hr'⟩ := h.fl.rowP hi; exact Row.ne_type hr hr' h4 rfl
end
section
variable {w : World} {B B' M Q F L n : Nat} {P : Nat → Nat} {S : Fl} {bad : Nat → Bool} {md : Int}
theorem FlIs.low (h : FlIs w B F L P S) (hb : B' ≤ B) : FlIs w B' F L P S := ⟨Nat.le_trans hb h.hF, Nat.le_trans hb h.hL, fun i hi => Nat.le_trans hb (h.hP i hi), h.row, h.bl, h.pg, h.inj, h.ok⟩
theorem MedIs.low (h : MedIs w B M Q F L P S n bad md) (h1 : 1 ≤ B') (hb : B' ≤ B) : MedIs w B' M Q F L P S n bad md := ⟨h1, Nat.le_trans hb h.hM, Nat.le_trans hb h.hQ, h.fl.low hb, h.row, h.bad, h.bytes, h.tab⟩
end
/-- The law's world: a media, a World, all of it younger than w0. -/
structure LSt (w0 w : World) (W M Q F L : Nat) (P g : Nat → Nat) (S : Fl) (n : Nat) (bad : Nat → Bool) (md : Int) (pages nb : Nat) : Prop where
  med : MedIs w w0.heap.size M Q F L P S n bad md
  row : Row w W 31 (wcells F M n pages nb g)
  bel : Below w0.heap.size w0 w
  hW : w0.heap.size ≤ W
section
variable {w0 w w' : World} {W M Q F L n pages nb : Nat} {P g : Nat → Nat} {S S' : Fl} {bad bad' : Nat → Bool} {md md' : Int}
theorem LSt.turn (h : LSt w0 w W M Q F L P g S n bad md pages nb) {T : List Nat} (hm : MedIs w' w0.heap.size M Q F L P S' n bad' md') (ht : Turns w w' T) (hT : ∀ g ∈ T, g ∈ medT M Q F L P S.nb) : LSt w0 w' W M Q F L P g S' n bad' md' pages nb :=
  ⟨hm, ht.row h.row (fun hx => h.med.no_row h.row (by decide) (by decide) (by decide) (by decide) (hT _ hx)), h.med.behind h.bel ht hT, h.hW⟩
theorem LSt.keep (h : LSt w0 w W M Q F L P g S n bad md pages nb) (ht : Turns w w' []) : LSt w0 w' W M Q F L P g S n bad md pages nb := h.turn (h.med.keep ht) ht (by simp)
theorem LSt.drewN (h : LSt w0 w W M Q F L P g S n bad md pages nb) (m : Nat) : LSt w0 (w.drewN m) W M Q F L P g S n bad md pages nb := h.keep ((Turns.refl w []).drewN m)
theorem LSt.cells (h : LSt w0 w W M Q F L P g S n bad md pages nb) : w.cell? ⟨W, 0, none⟩ = some (.pointer (some ⟨F, 0, none⟩)) ∧ w.cell? ⟨W, 1, none⟩ = some (.pointer (some ⟨M, 0, none⟩)) := ⟨h.row.cell 0, h.row.cell 1⟩
theorem LSt.off (h : LSt w0 w W M Q F L P g S n bad md pages nb) (m : Nat) {o : Bool} (ho : S.off = o) : Calls Tryd.prog 11 #[.pointer (some ⟨F, 0, none⟩)] (w.drewN m) fun e w' => e = .returned (.bool o) ∧ w.drewN m = w' := by subst ho; exact Off_N h.med m
theorem LSt.off0 (h : LSt w0 w W M Q F L P g S n bad md pages nb) {o : Bool} (ho : S.off = o) : Calls Tryd.prog 11 #[.pointer (some ⟨F, 0, none⟩)] w fun e w' => e = .returned (.bool o) ∧ w = w' := by subst ho; exact FlOff h.med.fl
theorem LSt.on (h : LSt w0 w W M Q F L P g S n bad md pages nb) : Calls Tryd.prog 13 #[.pointer (some ⟨F, 0, none⟩)] w fun e w' => e = .returned (.tuple #[]) ∧ LSt w0 w' W M Q F L P g { S with off := false } n bad md pages nb :=
  (On_fl h.med.fl).mono fun e w' ⟨he, hf, ht⟩ => ⟨he, h.turn (h.med.flash hf ht (by simp [flS]) rfl rfl) ht (by simp [medT, flS])⟩
theorem LSt.arm (h : LSt w0 w W M Q F L P g S n bad md pages nb) (a : Int) (ha : 1 ≤ a ∧ a < 9223372036854775808) : Calls Tryd.prog 9 #[.pointer (some ⟨F, 0, none⟩), .int .i64 a] w fun e w' => e = .returned (.tuple #[]) ∧ LSt w0 w' W M Q F L P g { S with armed := a.toNat } n bad md pages nb :=
  (Arm_fl h.med.fl a ha.2).mono fun e w' ⟨he, hf, ht⟩ => ⟨he, by rw [show max a 1 = a by omega] at hf; exact h.turn (h.med.flash hf ht (by simp [flS]) rfl rfl) ht (by simp [medT, flS])⟩
theorem LSt.scan_out (h : LSt w0 w W M Q F L P g S n bad md pages nb) (k : Int) (hk : S.nb ≤ k) : Calls Tryd.prog 14 #[.pointer (some ⟨M, 0, none⟩), .int .i64 k] w fun e w' => e = .returned (.tuple #[.int .i64 0, .bool false, .int .i64 1]) ∧ LSt w0 w' W M Q F L P g S n bad md pages nb :=
  (Scan_out h.med k (.inr hk)).mono fun e w' ⟨he, m, hw⟩ => ⟨he, by subst hw; exact h.drewN m⟩
/-- What Scan tells of a block. -/
def scanN (S : Fl) (k : Nat) : Nat := if (S.b k).half then 0 else (S.b k).next
def scanW (S : Fl) (k : Nat) : Bool := if (S.b k).half then false else if (S.b k).next = 0 then true else !(stateOf (S.raw k ((S.b k).next - 1)) S.chunks == 1)
theorem LSt.scan (h : LSt w0 w W M Q F L P g S n bad md pages nb) (k : Nat) (hk : k < S.nb) (ho : S.off = false) {a : Nat} {b : Bool} (ha : scanN S k = a) (hb : scanW S k = b) : Calls Tryd.prog 14 #[.pointer (some ⟨M, 0, none⟩), .int .i64 k] w fun e w' => e = .returned (.tuple #[.int .i64 a, .bool b, .int .i64 0]) ∧ LSt w0 w' W M Q F L P g S n bad md pages nb := by
  subst ha; subst hb
  unfold scanN scanW
  cases hh : (S.b k).half with
  | true =>
    refine (Scan_none h.med k hk ho (.inl hh)).mono fun e w' ⟨he, m, hw⟩ => ⟨?_, by subst hw; exact h.drewN m⟩
    rw [hh] at he; exact he
  | false =>
    by_cases hn : (S.b k).next = 0
    · refine (Scan_none h.med k hk ho (.inr hn)).mono fun e w' ⟨he, m, hw⟩ => ⟨?_, by subst hw; exact h.drewN m⟩
      rw [hh] at he
      rw [hn]; exact he
    · refine (Scan_some h.med k hk ho hh (by omega)).mono fun e w' ⟨he, hm, ht⟩ => ⟨?_, h.turn hm ht (by simp [medT, flS])⟩
      rw [if_neg (by simp), if_neg (by simp), if_neg hn]
      exact he
end
end Go.Proofs.YtlidbkofjchnnaaDoor
