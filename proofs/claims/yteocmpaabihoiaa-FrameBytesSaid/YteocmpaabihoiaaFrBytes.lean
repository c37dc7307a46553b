/- What FrameBytes sees of each pair of functions. -/
import Derived.Test.YteocmpaabihoiaaFrRefLong
import Derived.Test.YteocmpaabihoiaaGrow
namespace Go.Proofs.Yteocmpaabihoiaa
open Go.RowKit
set_option linter.unusedVariables false
set_option linter.unusedSimpArgs false

theorem keep_alloc (w : World) (o : Obj) : ∀ p v, w.cell? p = some v → (w.alloc o).cell? p = some v := fun p v h => (World.cell?_alloc_lt _ _ _ (World.block_lt_of_cell? w p h)).trans h
theorem rowL {w : World} {g : Nat} {t : TypeId} {L : List Nat} (h : Row w g t (ints8 L).toArray) : Cells8 w (some ⟨g, 0, none⟩) L := by
  intro i hi
  refine ⟨g, 0, rfl, ?_⟩
  rw [h.cell, Nat.zero_add, List.getElem?_toArray, ints8_get _ _ hi]

/-- The text of some bytes. -/
def textOf (l : List Nat) : ByteArray := (l.map fun (x : Nat) => (x : Int)).foldl (fun r n => r.push (UInt8.ofNat n.toNat)) ByteArray.empty
theorem run_text {P : Program} (w : World) (src dst e : TypeId) (b off c : Nat) (l : List Nat) (n : Nat) (hn : n = l.length)
    (hs : P.underlying src = some (.slice e)) (he : P.underlying e = some (.int .u8)) (hd : P.underlying dst = some .string) (hc : Cells8 w (some ⟨b, off, none⟩) l) :
    (convert src dst (.slice (some ⟨b, off, none⟩) n c)).run P w = .ok (.string (textOf l)) w := by
  subst hn
  rw [run_convert_bytes_string w src dst e _ _ _ hs he hd]
  refine run_bytesToString w _ _ _ _ ?_
  have h := run_loadCells_list (P := P) w ⟨b, off, none⟩ (ints8 l) (fun j v hv => by
    have hj : j < l.length := by
      rcases Nat.lt_or_ge j l.length with h | h
      · exact h
      · rw [List.getElem?_eq_none (by rw [ints8_length]; exact h)] at hv; cases hv
    rw [ints8_get _ _ hj] at hv
    rw [addr_add, hc.at0 j hj]; exact hv)
  rw [ints8_length] at h
  rw [h]; congr 1
  simp [ints8]

def textS (l : List Nat) : ByteArray := if rlErr l = 0 then textOf (rlOut l) else textOf []
theorem run_text_nil {P : Program} (w : World) (src dst e : TypeId) (hs : P.underlying src = some (.slice e)) (he : P.underlying e = some (.int .u8)) (hd : P.underlying dst = some .string) :
    (convert src dst (.slice none 0 0)).run P w = .ok (.string (textOf [])) w := by
  rw [run_convert_bytes_string w src dst e _ _ _ hs he hd]
  simp [Conv.bytesToString, textOf]

theorem ReadLong_text (a : Option Addr) (l : List Nat) (len cap : Nat) (hlen : len = l.length) (hcap : len ≤ cap) (hcap' : cap ≤ maxLen) (h8 : ∀ x ∈ l, x < 256) (w : World) (hc : Cells8 w a l) :
    Calls Try.prog 14 #[.slice a len cap] w fun e w' => ∃ v, e = .returned (.tuple #[v, .int .i64 (rlErr l : Nat)]) ∧ Below w.heap.size w w' ∧ ∀ u, Below w'.heap.size w' u → (convert 33 9 v).run Try.prog u = .ok (.string (textS l)) u := by
  subst hlen
  have hnil : ∀ u : World, (convert 33 9 (.slice none 0 0)).run Try.prog u = .ok (.string (textOf [])) u := fun u => run_text_nil u _ _ _ Try.underlying33 Try.underlying5 Try.underlying9
  by_cases h1 : l.length < 17
  · have e1 : rlErr l = 23 := by unfold rlErr; rw [if_pos h1]
    have e2 : textS l = textOf [] := by unfold textS; rw [e1]; rfl
    rw [e1, e2]
    refine (ReadLong_short a l.length cap h1 w).mono ?_
    rintro e w' ⟨rfl, rfl⟩
    exact ⟨_, rfl, Below.refl _ _, fun u _ => hnil u⟩
  · by_cases h2 : 17 < l.length
    · have e1 : rlErr l = 24 := by unfold rlErr; rw [if_neg h1, if_pos (Or.inl h2)]
      have e2 : textS l = textOf [] := by unfold textS; rw [e1]; rfl
      rw [e1, e2]
      refine (ReadLong_long a l.length cap h2 w).mono ?_
      rintro e w' ⟨rfl, rfl⟩
      exact ⟨_, rfl, Below.refl _ _, fun u _ => hnil u⟩
    · have h17 : l.length = 17 := by omega
      obtain ⟨b, off, rfl⟩ := hc.addr (by intro e; simp [e] at h17)
      by_cases hbad : l.getD 0 0 ≠ 63 ∨ l.getD 16 0 &&& 1 = 0
      · have e1 : rlErr l = 24 := by unfold rlErr; rw [if_neg h1, if_pos (Or.inr hbad)]
        have e2 : textS l = textOf [] := by unfold textS; rw [e1]; rfl
        rw [e1, e2, h17]
        refine (ReadLong_form b off l cap h17 h8 w hc hbad).mono ?_
        rintro e w' ⟨rfl, rfl⟩
        exact ⟨_, rfl, Below.refl _ _, fun u _ => hnil u⟩
      · have e1 : rlErr l = 0 := by unfold rlErr; rw [if_neg h1, if_neg (fun h => h.elim (fun h => h2 h) hbad)]
        have e2 : textS l = textOf (rlOut l) := by unfold textS; rw [if_pos e1]
        simp only [not_or, Decidable.not_not] at hbad
        rw [e1, e2, h17]
        refine (ReadLong_ok b off l cap h17 (by omega) hcap' h8 w hc hbad.1 hbad.2).mono ?_
        rintro e w' ⟨v, rfl, own, hb⟩
        refine ⟨v, rfl, hb, fun u hu => ?_⟩
        obtain ⟨g, c, rfl, hg0, hg1, hg2, hg3⟩ := own_at own (by omega)
        have hC := Cells8.of_own own
        exact run_text u _ _ _ g 0 c (rlOut l) 16 hC.1 Try.underlying33 Try.underlying5 Try.underlying9 (hC.2.keep (keep_below hu))
theorem refReadLong_text (a : Option Addr) (l : List Nat) (len cap : Nat) (hlen : len = l.length) (hcap : len ≤ cap) (hcap' : cap ≤ maxLen) (h8 : ∀ x ∈ l, x < 256) (w : World) (hc : Cells8 w a l) :
    Calls Try.prog 19 #[.slice a len cap] w fun e w' => ∃ v, e = .returned (.tuple #[v, .int .i64 (rlErr l : Nat)]) ∧ Below w.heap.size w w' ∧ ∀ u, Below w'.heap.size w' u → (convert 33 9 v).run Try.prog u = .ok (.string (textS l)) u := by
  subst hlen
  have hnil : ∀ u : World, (convert 33 9 (.slice none 0 0)).run Try.prog u = .ok (.string (textOf [])) u := fun u => run_text_nil u _ _ _ Try.underlying33 Try.underlying5 Try.underlying9
  by_cases h1 : l.length < 17
  · have e1 : rlErr l = 23 := by unfold rlErr; rw [if_pos h1]
    have e2 : textS l = textOf [] := by unfold textS; rw [e1]; rfl
    rw [e1, e2]
    refine (refReadLong_short a l.length cap h1 w).mono ?_
    rintro e w' ⟨rfl, rfl⟩
    exact ⟨_, rfl, Below.refl _ _, fun u _ => hnil u⟩
  · by_cases h2 : 17 < l.length
    · have e1 : rlErr l = 24 := by unfold rlErr; rw [if_neg h1, if_pos (Or.inl h2)]
      have e2 : textS l = textOf [] := by unfold textS; rw [e1]; rfl
      rw [e1, e2]
      refine (refReadLong_long a l.length cap h2 w).mono ?_
      rintro e w' ⟨rfl, rfl⟩
      exact ⟨_, rfl, Below.refl _ _, fun u _ => hnil u⟩
    · have h17 : l.length = 17 := by omega
      obtain ⟨b, off, rfl⟩ := hc.addr (by intro e; simp [e] at h17)
      by_cases hbad : l.getD 0 0 ≠ 63 ∨ l.getD 16 0 &&& 1 = 0
      · have e1 : rlErr l = 24 := by unfold rlErr; rw [if_neg h1, if_pos (Or.inr hbad)]
        have e2 : textS l = textOf [] := by unfold textS; rw [e1]; rfl
        rw [e1, e2, h17]
        refine (refReadLong_form b off l cap h17 h8 w hc hbad).mono ?_
        rintro e w' ⟨rfl, rfl⟩
        exact ⟨_, rfl, Below.refl _ _, fun u _ => hnil u⟩
      · have e1 : rlErr l = 0 := by unfold rlErr; rw [if_neg h1, if_neg (fun h => h.elim (fun h => h2 h) hbad)]
        have e2 : textS l = textOf (rlOut l) := by unfold textS; rw [if_pos e1]
        simp only [not_or, Decidable.not_not] at hbad
        rw [e1, e2, h17]
        refine (refReadLong_ok b off l cap h17 (by omega) hcap' h8 w hc hbad.1 hbad.2).mono ?_
        rintro e w' ⟨v, rfl, own, hb⟩
        refine ⟨v, rfl, hb, fun u hu => ?_⟩
        obtain ⟨g, c, rfl, hg0, hg1, hg2, hg3⟩ := own_at own (by omega)
        have hC := Cells8.of_own own
        exact run_text u _ _ _ g 0 c (rlOut l) 16 hC.1 Try.underlying33 Try.underlying5 Try.underlying9 (hC.2.keep (keep_below hu))

theorem Encode_both (n : Int) (v : Nat) (hv : v < 4294967296) : ∃ x0 x1 x2 x3 x4 x5 er : Int,
    (∀ w, Calls Try.prog 8 #[.agg #[.int .i64 n, .int .u32 v]] w fun e w' => e = .returned (.tuple #[.agg #[.int .u8 x0, .int .u8 x1, .int .u8 x2, .int .u8 x3, .int .u8 x4, .int .u8 x5], .int .i64 er]) ∧ Below w.heap.size w w') ∧
    (∀ w, Calls Try.prog 15 #[.agg #[.int .i64 n, .int .u32 v]] w fun e w' => e = .returned (.tuple #[.agg #[.int .u8 x0, .int .u8 x1, .int .u8 x2, .int .u8 x3, .int .u8 x4, .int .u8 x5], .int .i64 er]) ∧ Below w.heap.size w w') := by
  by_cases h : n < 0 ∨ 63 < n
  · exact ⟨0, 0, 0, 0, 0, 0, 1, fun w => Encode_no n v h w, fun w => refEncode_no n v h w⟩
  · obtain ⟨N, rfl⟩ := Int.eq_ofNat_of_zero_le (show 0 ≤ n by omega)
    exact ⟨_, _, _, _, _, _, 0, fun w => Encode_yes N v (by omega) hv w, fun w => refEncode_yes N v (by omega) hv w⟩

theorem laid_eql (a v : Nat) (w : World) : (binOp .eql 26 (laid a v) (laid a v)).run Try.prog w = .ok (.bool true) w := by
  unfold laid; rw [eql6]; simp
theorem ready_eql (v : Nat) (w : World) : (binOp .eql 26 (readyV v) (readyV v)).run Try.prog w = .ok (.bool true) w := by
  unfold readyV; rw [eql6]; simp
theorem long_eql (l : List Nat) (w : World) : (binOp .eql 41 (.agg (ints8 (longL l)).toArray) (.agg (ints8 (longL l)).toArray)).run Try.prog w = .ok (.bool true) w := by
  obtain ⟨i, hi⟩ := Option.isSome_iff_exists.1 t6_info
  have h := run_eql_ints (P := Try.prog) w .u8 Try.underlying41 hi Try.underlying5 t6_plain t6_cells ((longL l).map fun (x : Nat) => (x : Int)) ((longL l).map fun (x : Nat) => (x : Int)) (by simp [longL, base17_length]) (by simp [longL, base17_length])
  rw [BEq.rfl] at h
  have e : (((longL l).map fun (x : Nat) => (x : Int)).map (Value.int .u8)) = ints8 (longL l) := by simp [ints8]
  rw [e] at h
  exact h

end Go.Proofs.Yteocmpaabihoiaa
