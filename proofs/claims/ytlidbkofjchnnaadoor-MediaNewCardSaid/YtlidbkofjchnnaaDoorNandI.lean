/- nand: Erase at a flash. -/
import Derived.Test.YtlidbkofjchnnaaDoorNandH
import Derived.Laws.IdiomCopy
import Derived.Lib.SliceRun
namespace Go.Proofs.YtlidbkofjchnnaaDoor
open Go.RowKit
set_option linter.unusedVariables false
set_option linter.unusedSimpArgs false

theorem setCells_row {g : Nat} {t : TypeId} : ∀ (vs : List Value) (o : Nat) (w : World) (cs : Array Value), Row w g t cs → ∃ cs', Row (w.setCells g o vs) g t cs' ∧ cs'.size = cs.size
  | [], _, _, cs, h => ⟨cs, h, rfl⟩
  | v :: r, o, w, cs, h => by
    obtain ⟨cs', h1, h2⟩ := setCells_row r (o + 1) _ _ (h.put o v)
    exact ⟨cs', h1, by rw [h2, Array.size_setIfInBounds]⟩
theorem setCells_turns {g : Nat} : ∀ (vs : List Value) (o : Nat) (w0 w : World), Turns w0 w [g] → Turns w0 (w.setCells g o vs) [g]
  | [], _, _, _, h => h
  | v :: r, o, w0, w, h => setCells_turns r (o + 1) w0 _ (h.setCell (by simp) v)
theorem zero_bytes (w : World) : (zeroValue 46).run Tryd.prog w = .ok (.slice none 0 0) w := by kernel_rfl
section
variable {w w' : World} {B F L : Nat} {P : Nat → Nat} {S : Fl}
/-- A block whose pages are nil. -/
theorem FlIs.clear (h : FlIs w B F L P S) {k : Nat} (hk : k < S.nb) (ty : TypeId) : ∃ w', (Builtin.clear_ #[87] ty #[.slice (some ⟨P k, 0, none⟩) S.pages S.pages]).run Tryd.prog w = .ok (.tuple #[]) w' ∧ FlIs w' B F L P (S.setB k { S.b k with pg := fun _ => none }) ∧ Turns w w' [P k] := by
  obtain ⟨cur, hr, hs, hc⟩ := h.pg k hk
  have hpp := h.ok.pages
  have hne := h.ne
  have hcell : ∀ j, j < S.pages → (w.cell? ⟨P k, 0 + j, none⟩).isSome = true := fun j hj => by
    rw [Nat.zero_add, hr.cell, Array.getElem?_eq_getElem (by omega)]; rfl
  have hrun := Lib.run_clear_slice w 87 46 ty (.slice none 0 0) Tryd.underlying87 zero_bytes rfl rfl (P k) 0 S.pages S.pages (by omega) hcell (fun j _ => by rw [Nat.zero_add]; exact hr.frozen j)
  obtain ⟨cs', hr', hs'⟩ := setCells_row (List.replicate S.pages (.slice none 0 0)) 0 w cur hr
  have ht : Turns w (w.setCells (P k) 0 (List.replicate S.pages (.slice none 0 0))) [P k] := setCells_turns _ _ _ _ (Turns.refl _ _)
  refine ⟨_, hrun, ?_, ht⟩
  have hF : S.off = S.off := rfl
  have := h.prog hk (ht.mono (by simp)) S.off S.armed h.ok.armed (x := { S.b k with pg := fun _ => none }) ?_ ?_ ⟨cs', hr', by rw [hs', hs], fun j hj => ⟨.slice none 0 0, ?_, rfl⟩⟩ ⟨(h.ok.wf k hk).next, fun _ _ => rfl, fun j l hl => by cases hl⟩
  · exact this
  · obtain ⟨s, p, r, e, hr⟩ := h.row
    exact ⟨s, p, r, e, ht.row hr (by simpa using hne.2.1 k hk)⟩
  · obtain ⟨cur, hr, hs, hc⟩ := h.bl
    refine ⟨cur, ht.row hr (by simpa using hne.2.2 k hk), hs, fun i hi j v hv => hc i hi j v ?_⟩
    by_cases e : i = k
    · subst e; rw [if_pos rfl] at hv; exact hv
    · rw [if_neg e] at hv; exact hv
  · have h1 := World.cell?_setCells_in (P k) (List.replicate S.pages (.slice none 0 0)) 0 w (fun i hi => hcell i (by simpa using hi)) j (by simpa using hj)
    rw [Nat.zero_add, hr'.cell] at h1
    simpa using h1
end
end Go.Proofs.YtlidbkofjchnnaaDoor
