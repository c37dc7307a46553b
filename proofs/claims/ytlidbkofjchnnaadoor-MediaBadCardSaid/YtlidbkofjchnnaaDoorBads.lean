/- MediaBad: a block that fails in the middle. -/
import Derived.Test.YtlidbkofjchnnaaDoorKnown
import Derived.Test.YtlidbkofjchnnaaDoorSorts
namespace Go.Proofs.YtlidbkofjchnnaaDoor
open Go.RowKit
set_option linter.unusedVariables false
set_option linter.unusedSimpArgs false

/-- A media, and a row of bytes that it does not turn. -/
structure XSt (w0 w : World) (M Q F L X : Nat) (P : Nat → Nat) (S : Fl) (n : Nat) (bad : Nat → Bool) (md : Int) (xs : List Nat) : Prop where
  med : MedIs w w0.heap.size M Q F L P S n bad md
  row : Row w X 5 (intsV .u8 xs).toArray
  bel : Below w0.heap.size w0 w
  len : xs.length = n
  lt : ∀ u ∈ xs, u < 256
/-- Three blocks; block 1 has i pages written, block 2 none. -/
structure Bs (S : Fl) (i : Nat) (fl : Bool) (r : List Nat) : Prop where
  nb : S.nb = 3
  pages : S.pages = 8
  chunks : S.chunks = 2
  off : S.off = false
  armed : S.armed = 0
  half : (S.b 1).half = false
  one : (S.b 1).one = false
  failed : (S.b 1).failed = fl
  next : (S.b 1).next = i
  pg : ∀ j, j < i → (S.b 1).pg j = some r
  two : S.b 2 = bk0
section
variable {w0 w w' : World} {M Q F L X n : Nat} {P : Nat → Nat} {S S' : Fl} {bad bad' : Nat → Bool} {md md' : Int} {xs : List Nat}
theorem XSt.turn (h : XSt w0 w M Q F L X P S n bad md xs) {T : List Nat} (hm : MedIs w' w0.heap.size M Q F L P S' n bad' md') (ht : Turns w w' T) (hT : ∀ g ∈ T, g ∈ medT M Q F L P S.nb) : XSt w0 w' M Q F L X P S' n bad' md' xs :=
  ⟨hm, ht.row h.row (fun hx => h.med.no_bytes h.row (hT _ hx)), h.med.behind h.bel ht hT, h.len, h.lt⟩
theorem XSt.keep (h : XSt w0 w M Q F L X P S n bad md xs) (ht : Turns w w' []) : XSt w0 w' M Q F L X P S n bad md xs := h.turn (h.med.keep ht) ht (by simp)
theorem XSt.drewN (h : XSt w0 w M Q F L X P S n bad md xs) (m : Nat) : XSt w0 (w.drewN m) M Q F L X P S n bad md xs := h.keep ((Turns.refl w []).drewN m)
theorem XSt.cells (h : XSt w0 w M Q F L X P S n bad md xs) : Cells8 w (some ⟨X, 0, none⟩) xs := Cells8.of_row h.row
theorem XSt.out (h : XSt w0 w M Q F L X P S n bad md xs) : ∀ a, some (⟨X, 0, none⟩ : Addr) = some a → a.block ∉ medT M Q F L P S.nb := fun a e => by
  injection e with e; subst e; exact h.med.no_bytes h.row
theorem Bs.has {i : Nat} {fl : Bool} {r : List Nat} (h : Bs S i fl r) : S.has 1 = 8 := by unfold Fl.has hasOf; rw [h.one, h.pages]; rfl
theorem Bs.room {i : Nat} {fl : Bool} {r : List Nat} (h : Bs S i fl r) (hb : bad 1 = false) : S.room bad 1 = 8 - i := by
  unfold Fl.room
  rw [h.half, hb, h.has, h.next]; rfl
theorem XSt.write1 (h : XSt w0 w M Q F L X P S n bad md xs) {i : Nat} (hb : Bs S i false (laid xs 2)) (hbd : bad 1 = false) (hi : i < 8) :
    Calls Tryd.prog 10 #[.pointer (some ⟨M, 0, none⟩), .int .i64 1, .slice (some ⟨X, 0, none⟩) n n] w fun e w' => (∃ v, e = .returned (.tuple #[v, .int .i64 0])) ∧ ∃ S' md', XSt w0 w' M Q F L X P S' n bad md' xs ∧ Bs S' (i + 1) false (laid xs 2) := by
  have hn := h.med.bytes
  rw [hb.chunks] at hn
  have hrl : (laid xs S.chunks).length = 73 * S.chunks := (laid_raw (by rw [hb.chunks, h.len]; omega) h.lt).1
  refine (MWrite_done h.med 1 (by rw [hb.nb]; omega) _ n xs h.len h.lt h.cells h.out (by rw [hb.room hbd]; omega) hb.off hb.failed (.inl hb.armed)).mono fun e w' ⟨ht, h3, _⟩ => ?_
  obtain ⟨he, hm⟩ := h3 (.inl hb.armed)
  have hbb := wrote_b S 1 (laid xs S.chunks) (by rw [hb.chunks]; omega) hrl
  refine ⟨⟨_, he⟩, _, _, h.turn hm ht (fun g hg => hg), ?_⟩
  rw [hb.chunks] at hbb ⊢
  refine ⟨hb.nb, hb.pages, hb.chunks, rfl, by show S.armed - S.chunks = 0; rw [hb.armed]; omega, by rw [hbb]; exact hb.half, by rw [hbb]; exact hb.one, by rw [hbb]; exact hb.failed, by rw [hbb]; show (S.b 1).next + 1 = _; rw [hb.next], fun j hj => ?_, ?_⟩
  · rw [hbb]
    show (if j = (S.b 1).next then _ else _) = _
    rw [hb.next]
    by_cases e : j = i
    · rw [if_pos e]
    · rw [if_neg e]; exact hb.pg j (by omega)
  · exact hb.two
theorem XSt.fail (h : XSt w0 w M Q F L X P S n bad md xs) {i : Nat} (hb : Bs S i false (laid xs 2)) :
    Calls Tryd.prog 20 #[.pointer (some ⟨F, 0, none⟩), .int .i64 1] w fun e w' => e = .returned (.bool true) ∧ ∃ S', XSt w0 w' M Q F L X P S' n bad md xs ∧ Bs S' i true (laid xs 2) := by
  refine (Fail_in h.med.fl 1 (by rw [hb.nb]; omega)).mono fun e w' ⟨he, hf, ht⟩ => ⟨he, _, h.turn (h.med.flash hf ht (by simp [flS]) rfl rfl) ht (by simp [medT, flS]), ?_⟩
  have hbb : (S.setB 1 { S.b 1 with failed := true }).b 1 = { S.b 1 with failed := true } := Fl.setB_self S 1 _
  exact ⟨hb.nb, hb.pages, hb.chunks, hb.off, hb.armed, by rw [hbb]; exact hb.half, by rw [hbb]; exact hb.one, by rw [hbb], by rw [hbb]; exact hb.next, fun j hj => by rw [hbb]; exact hb.pg j hj, hb.two⟩
theorem XSt.write_bad (h : XSt w0 w M Q F L X P S n bad md xs) {i : Nat} (hb : Bs S i true (laid xs 2)) (hi : i < 8) (hbd : bad = inL [] ∨ bad = setBad (inL []) 1) :
    Calls Tryd.prog 10 #[.pointer (some ⟨M, 0, none⟩), .int .i64 1, .slice (some ⟨X, 0, none⟩) n n] w fun e w' => e = .returned (.tuple #[.int .i64 0, .int .i64 7]) ∧ XSt w0 w' M Q F L X P S n (setBad (inL []) 1) md xs := by
  have hk : 1 < S.nb := by rw [hb.nb]; omega
  rcases hbd with rfl | rfl
  · refine (MWrite_failed h.med 1 hk _ n xs h.len h.lt h.cells (by rw [hb.room rfl]; omega) hb.off hb.failed).mono fun e w' ⟨he, hm, ht⟩ => ⟨he, h.turn hm ht (by simp [medT])⟩
  · exact (MWrite_bad h.med 1 hk _ n rfl).mono fun e w' ⟨he, m, hw⟩ => ⟨he, by subst hw; exact h.drewN m⟩
theorem XSt.read1 (h : XSt w0 w M Q F L X P S n bad md xs) {i j : Nat} (hb : Bs S i true (laid xs 2)) (hj : j < i) (hi : i < 8) :
    Calls Tryd.prog 21 #[.pointer (some ⟨M, 0, none⟩), .int .i64 1, .int .i64 j] w fun e w' => ∃ A q md', e = .returned (.tuple #[.slice A n q, .int .i64 0]) ∧ (convert 46 9 (.slice A n q)).run Tryd.prog w' = .ok (.string (textOf xs)) w' ∧ (convert 46 9 (.slice (some ⟨X, 0, none⟩) n n)).run Tryd.prog w' = .ok (.string (textOf xs)) w' ∧ XSt w0 w' M Q F L X P S n bad md' xs := by
  have hn := h.med.bytes
  rw [hb.chunks] at hn
  refine (MRead_core h.med 1 (by rw [hb.nb]; omega) j (by rw [hb.has]; omega) hb.off hb.half).mono fun e w' ⟨hm, ht, _, _, h4⟩ => ?_
  have hraw : S.raw 1 j = laid xs 2 := by unfold Fl.raw; rw [hb.pg j hj]; rfl
  rw [hraw, hb.chunks] at h4
  obtain ⟨A, q, he, ho⟩ := h4 (laid_how (by omega) (by rw [h.len]; omega))
  have e1 : (rBytes (laid xs 2) 2).take n = xs := by rw [← h.len]; exact laid_read (by rw [h.len]; omega) h.lt
  rw [e1] at ho
  have hx := h.turn hm ht (by simp [medT, flS])
  have c1 := conv_text (c := q) (Cells8.of_own ho).2
  have c2 := conv_text (c := n) hx.cells
  rw [h.len] at c1 c2
  exact ⟨A, q, _, he, c1, c2, hx⟩
theorem XSt.write2 (h : XSt w0 w M Q F L X P S n bad md xs) {i : Nat} {fl : Bool} (hb : Bs S i fl (laid xs 2)) (hbd : bad = setBad (inL []) 1) :
    Calls Tryd.prog 10 #[.pointer (some ⟨M, 0, none⟩), .int .i64 2, .slice (some ⟨X, 0, none⟩) n n] w fun e w' => (∃ v, e = .returned (.tuple #[v, .int .i64 0])) ∧ ∃ S' md', XSt w0 w' M Q F L X P S' n bad md' xs ∧ S'.nb = 3 ∧ S'.room bad 2 = 7 ∧ S'.room bad 1 = 0 := by
  have hn := h.med.bytes
  rw [hb.chunks] at hn
  subst hbd
  have hrl : (laid xs S.chunks).length = 73 * S.chunks := (laid_raw (by rw [hb.chunks, h.len]; omega) h.lt).1
  have hrm : S.room (setBad (inL []) 1) 2 = 8 := by unfold Fl.room Fl.has hasOf; rw [hb.two, hb.pages]; rfl
  refine (MWrite_done h.med 2 (by rw [hb.nb]; omega) _ n xs h.len h.lt h.cells h.out (by rw [hrm]; omega) hb.off (by rw [hb.two]; rfl) (.inl hb.armed)).mono fun e w' ⟨ht, h3, _⟩ => ?_
  obtain ⟨he, hm⟩ := h3 (.inl hb.armed)
  have hbb := wrote_b S 2 (laid xs S.chunks) (by rw [hb.chunks]; omega) hrl
  refine ⟨⟨_, he⟩, _, _, h.turn hm ht (fun g hg => hg), hb.nb, ?_, ?_⟩
  · unfold Fl.room Fl.has hasOf
    rw [hbb, hb.two, show (S.wrote 2 (laid xs S.chunks)).pages = 8 from hb.pages]; rfl
  · unfold Fl.room
    rw [if_pos (by simp [setBad])]
theorem XSt.room (h : XSt w0 w M Q F L X P S n bad md xs) (k m : Nat) (hk : k < S.nb) {r : Nat} (hr : S.room bad k = r) (j : Nat) : Calls Tryd.prog 19 #[.pointer (some ⟨M, 0, none⟩), .int .i64 k] (w.drewN j) fun e w' => e = .returned (.int .i64 r) ∧ ∃ m', w' = w.drewN m' := by
  subst hr
  exact Room_N h.med k hk j
theorem XSt.bads (h : XSt w0 w M Q F L X P S n bad md xs) (hb : bad = setBad (inL []) 1) (hn : S.nb = 3) : Calls Tryd.prog 18 #[.pointer (some ⟨M, 0, none⟩)] w fun e w' => ∃ g c, e = .returned (.slice (some ⟨g, 0, none⟩) 1 c) ∧ 1 ≤ c ∧ w'.cell? ⟨g, 0, none⟩ = some (.int .i64 1) ∧ XSt w0 w' M Q F L X P S n bad md xs := by
  refine (Bad_any h.med).mono fun e w' ⟨v, he, ho, hbl⟩ => ?_
  subst hb
  have e1 : badL S.nb (setBad (inL []) 1) = [1] := by rw [hn]; decide
  rw [e1] at ho
  rcases ho.2 with ⟨_, h0⟩ | ⟨g, cap, cur, rfl, hbase, hr, h1, h2, h3, h4⟩
  · cases h0
  · refine ⟨g, cap, he, h1, ?_, h.keep (Turns.of_below hbl [])⟩
    have hc : cur[0]? = some (.int .i64 1) := by
      have h7 : (cur.toList.take (([1] : List Int).length * 1))[0]? = (([1] : List Int).map encZ)[0]? := by rw [h4]
      simpa using h7
    exact (show Row w' g 3 cur from hr).cell 0 |>.trans hc
theorem XSt.erase (h : XSt w0 w M Q F L X P S n bad md xs) (hb : bad = setBad (inL []) 1) (hn : S.nb = 3) (j : Nat) : Calls Tryd.prog 12 #[.pointer (some ⟨M, 0, none⟩), .int .i64 1, .bool false] (w.drewN j) fun e w' => e = .returned (.int .i64 7) ∧ ∃ m', w' = (w.drewN j).drewN m' := by
  subst hb
  exact MErase_bad (h.drewN j).med 1 (by rw [hn]; omega) false rfl
end
end Go.Proofs.YtlidbkofjchnnaaDoor
