/- MediaScans: its writes, one after the other, until the power goes. -/
import Derived.Test.YtlidbkofjchnnaaDoorWorld
namespace Go.Proofs.YtlidbkofjchnnaaDoor
open Go.RowKit
set_option linter.unusedVariables false
set_option linter.unusedSimpArgs false

/-- Behind i writes of r, the power going at step a. -/
structure Wr (S : Fl) (pages ch a i : Nat) (r : List Nat) : Prop where
  nb : S.nb = 2
  pages : S.pages = pages
  chunks : S.chunks = ch
  half : (S.b 1).half = false
  one : (S.b 1).one = false
  failed : (S.b 1).failed = false
  st : (S.off = false ∧ i * ch < a ∧ S.armed = a - i * ch ∧ (S.b 1).next = i ∧ (0 < i → (S.b 1).pg (i - 1) = some r)) ∨
    (S.off = true ∧ ∃ q j, q < i ∧ j < ch ∧ a = q * ch + j + 1 ∧ (S.b 1).next = q + (if j = 0 then 0 else 1) ∧ (0 < j → (S.b 1).pg q = some (part r ch j)) ∧ (0 < q → (S.b 1).pg (q - 1) = some r))
theorem Wr.has {S : Fl} {pages ch a i : Nat} {r : List Nat} (h : Wr S pages ch a i r) : S.has 1 = pages := by unfold Fl.has hasOf; rw [h.one, h.pages]; rfl
theorem torn_b (S : Fl) (k : Nat) (r : List Nat) : (S.torn k r).b k = progB S k r (S.armed - 1) := Fl.setB_self S k _
section
variable {w0 w : World} {W M Q F L n pages nb : Nat} {P g : Nat → Nat} {S : Fl} {md : Int}
theorem LSt.write_step (h : LSt w0 w W M Q F L P g S n (inL []) md pages nb) {pg ch a i : Nat} (hn : n = 64 * ch) (hch : 1 ≤ ch) (hi : i < pg) (hw : Wr S pg ch a i (laid (List.replicate n 0) ch)) :
    Calls Tryd.prog 10 #[.pointer (some ⟨M, 0, none⟩), .int .i64 1, .slice (some ⟨w.heap.size, 0, none⟩) n n] (w.alloc (.cells (madeCells #[.int .u8 0] n) 5)) fun e w' => (∃ v, e = .returned v) ∧ ∃ S' md', LSt w0 w' W M Q F L P g S' n (inL []) md' pages nb ∧ Wr S' pg ch a (i + 1) (laid (List.replicate n 0) ch) := by
  obtain ⟨d, hd⟩ : ∃ d, d = List.replicate n 0 := ⟨_, rfl⟩
  rw [← hd] at hw ⊢
  have hdl : d.length = n := by rw [hd]; simp
  have h256 : ∀ u ∈ d, u < 256 := fun u hu => by rw [hd] at hu; rw [(List.mem_replicate.1 hu).2]; omega
  have h1 := h.keep ((Turns.refl w []).alloc (.cells (madeCells #[.int .u8 0] n) 5))
  have hk : 1 < S.nb := by rw [hw.nb]; omega
  have hcs : Cells8 (w.alloc (.cells (madeCells #[.int .u8 0] n) 5)) (some ⟨w.heap.size, 0, none⟩) d := by rw [hd]; exact zeros_cells w n
  have hA : ∀ x, some (⟨w.heap.size, 0, none⟩ : Addr) = some x → x.block ∉ medT M Q F L P S.nb := fun x e => by
    injection e with e; subst e
    exact h1.med.no_bytes (Row.fresh w 5 _)
  have hhas := hw.has
  have hrl : (laid d S.chunks).length = 73 * S.chunks := (laid_raw (by rw [hw.chunks]; omega) h256).1
  have hch' : 1 ≤ S.chunks := by rw [hw.chunks]; exact hch
  rcases hw.st with ⟨ho, hlt, har, hnx, hpg⟩ | ⟨ho, q, j, hq, hj, ha, hnx, hp1, hp2⟩
  · have hrm : S.room (inL []) 1 ≠ 0 := by
      unfold Fl.room
      rw [if_neg (by rw [hw.half]; simp [inL]), hhas, hnx]; omega
    have e1 : (i + 1) * ch = i * ch + ch := by rw [Nat.add_mul, Nat.one_mul]
    by_cases hc : a - i * ch ≤ ch
    · refine (MWrite_cut h1.med 1 hk _ n d hdl h256 hcs hA hrm ho hw.failed (by rw [har, hw.chunks]; omega)).mono fun e w' ⟨ht, _, h4⟩ => ?_
      obtain ⟨he, hm⟩ := h4 (by rw [har]; omega) (by rw [har, hw.chunks]; omega)
      have hb := torn_b S 1 (laid d S.chunks)
      refine ⟨⟨_, he⟩, _, _, h1.turn hm ht (fun g hg => hg), ?_⟩
      rw [hw.chunks] at hb ⊢
      unfold progB at hb
      rw [har] at hb
      by_cases hj0 : a - i * ch - 1 = 0
      · rw [if_pos hj0] at hb
        refine ⟨hw.nb, hw.pages, hw.chunks, by rw [hb]; exact hw.half, by rw [hb]; exact hw.one, by rw [hb]; exact hw.failed, .inr ⟨rfl, i, 0, by omega, by omega, by omega, ?_, fun h => by omega, ?_⟩⟩
        · rw [hb, hnx]; rfl
        · rw [hb]; exact hpg
      · rw [if_neg hj0] at hb
        refine ⟨hw.nb, hw.pages, hw.chunks, by rw [hb]; exact hw.half, by rw [hb]; exact hw.one, by rw [hb]; exact hw.failed, .inr ⟨rfl, i, a - i * ch - 1, by omega, by omega, by omega, ?_, fun _ => ?_, fun h0 => ?_⟩⟩
        · rw [hb, if_neg hj0]; show (S.b 1).next + 1 = _; rw [hnx]
        · rw [hb]; show (if i = (S.b 1).next then _ else _) = _; rw [hnx, if_pos rfl, hw.chunks]
        · rw [hb]; show (if i - 1 = (S.b 1).next then _ else _) = _; rw [hnx, if_neg (by omega)]; exact hpg h0
    · refine (MWrite_done h1.med 1 hk _ n d hdl h256 hcs hA hrm ho hw.failed (by rw [har, hw.chunks]; omega)).mono fun e w' ⟨ht, h4, _⟩ => ?_
      obtain ⟨he, hm⟩ := h4 (by rw [har, hw.chunks]; omega)
      have hb := wrote_b S 1 (laid d S.chunks) hch' hrl
      refine ⟨⟨_, he⟩, _, _, h1.turn hm ht (fun g hg => hg), ?_⟩
      rw [hw.chunks] at hb ⊢
      refine ⟨hw.nb, hw.pages, hw.chunks, by rw [hb]; exact hw.half, by rw [hb]; exact hw.one, by rw [hb]; exact hw.failed, .inl ⟨rfl, by omega, ?_, ?_, fun _ => ?_⟩⟩
      · show S.armed - S.chunks = _; rw [har, hw.chunks]; omega
      · rw [hb]; show (S.b 1).next + 1 = _; rw [hnx]
      · rw [hb]; show (if i + 1 - 1 = (S.b 1).next then _ else _) = _; rw [hnx, if_pos (by omega)]
  · have hS : Wr S pg ch a (i + 1) (laid d ch) := ⟨hw.nb, hw.pages, hw.chunks, hw.half, hw.one, hw.failed, .inr ⟨ho, q, j, by omega, hj, ha, hnx, hp1, hp2⟩⟩
    by_cases hrm : S.room (inL []) 1 = 0
    · exact (MWrite_full h1.med 1 hk _ n rfl hrm).mono fun e w' ⟨he, m, hw'⟩ => ⟨⟨_, he⟩, _, _, by subst hw'; exact h1.drewN m, hS⟩
    · exact (MWrite_off h1.med 1 hk _ n hrm ho).mono fun e w' ⟨he, m, hw'⟩ => ⟨⟨_, he⟩, _, _, by subst hw'; exact h1.drewN m, hS⟩
theorem LSt.erase_cut (h : LSt w0 w W M Q F L P g S n (inL []) md pages nb) (hk : 1 < S.nb) (ho : S.off = false) (hf : (S.b 1).failed = false) (ha : S.armed = 1 ∨ S.armed = 2) :
    Calls Tryd.prog 12 #[.pointer (some ⟨M, 0, none⟩), .int .i64 1, .bool true] w fun e w' => e = .returned (.int .i64 4) ∧ LSt w0 w' W M Q F L P g (S.cutE 1) n (inL []) md pages nb :=
  (MErase_cut h.med 1 hk true rfl ho hf ha).mono fun e w' ⟨he, hm, ht⟩ => ⟨he, h.turn hm ht (fun g hg => hg)⟩
theorem LSt.erase_done (h : LSt w0 w W M Q F L P g S n (inL []) md pages nb) (hk : 1 < S.nb) (ho : S.off = false) (hf : (S.b 1).failed = false) (ha : S.armed ≠ 1 ∧ S.armed ≠ 2) :
    Calls Tryd.prog 12 #[.pointer (some ⟨M, 0, none⟩), .int .i64 1, .bool true] w fun e w' => e = .returned (.int .i64 0) ∧ LSt w0 w' W M Q F L P g (S.erased 1 true) n (inL []) md pages nb :=
  (MErase_done h.med 1 hk true rfl ho hf ha).mono fun e w' ⟨he, hm, ht⟩ => ⟨he, h.turn hm ht (fun g hg => hg)⟩
end
/-- What Scan tells in the end: of what was written. -/
theorem Wr.scan_alive {S : Fl} {pages ch a i : Nat} {d : List Nat} (h : Wr S pages ch a i (laid d ch)) (hd : d.length ≤ 64 * ch) (hch : 1 ≤ ch) (ho : S.off = false) (o : Bool) (m : Nat) : scanN { S with off := o, armed := m } 1 = i ∧ scanW { S with off := o, armed := m } 1 = true := by
  rcases h.st with ⟨_, _, _, hnx, hpg⟩ | ⟨ho', _⟩
  · unfold scanN scanW
    rw [show ({ S with off := o, armed := m } : Fl).b = S.b from rfl, h.half, hnx]
    refine ⟨rfl, ?_⟩
    rw [if_neg (by simp)]
    by_cases h0 : i = 0
    · rw [if_pos h0]
    · rw [if_neg h0]
      have e : ({ S with off := o, armed := m } : Fl).raw 1 (i - 1) = laid d ch := by
        unfold Fl.raw
        rw [show ({ S with off := o, armed := m } : Fl).b = S.b from rfl, hpg (by omega)]; rfl
      rw [e, show ({ S with off := o, armed := m } : Fl).chunks = ch from h.chunks, laid_state hd hch]; rfl
  · rw [ho] at ho'; cases ho'
theorem Wr.scan_dead {S : Fl} {pages ch a i : Nat} {d : List Nat} (h : Wr S pages ch a i (laid d ch)) (hd : d.length ≤ 64 * ch) (hch : 1 ≤ ch) (ho : S.off = true) (o : Bool) (m : Nat) :
    ∃ q j, q < i ∧ j < ch ∧ a = q * ch + j + 1 ∧ scanN { S with off := o, armed := m } 1 = q + (if j = 0 then 0 else 1) ∧ scanW { S with off := o, armed := m } 1 = decide (j = 0) := by
  rcases h.st with ⟨ho', _⟩ | ⟨_, q, j, hq, hj, ha, hnx, hp1, hp2⟩
  · rw [ho] at ho'; cases ho'
  · refine ⟨q, j, hq, hj, ha, ?_, ?_⟩
    · unfold scanN
      rw [show ({ S with off := o, armed := m } : Fl).b = S.b from rfl, h.half, hnx]; rfl
    · unfold scanW
      rw [show ({ S with off := o, armed := m } : Fl).b = S.b from rfl, h.half, hnx, if_neg (by simp)]
      by_cases hj0 : j = 0
      · subst hj0
        rw [if_pos rfl, decide_eq_true rfl]
        by_cases h0 : q = 0
        · rw [if_pos (by omega)]
        · rw [if_neg (by omega)]
          have e : ({ S with off := o, armed := m } : Fl).raw 1 (q + 0 - 1) = laid d ch := by
            unfold Fl.raw
            rw [show ({ S with off := o, armed := m } : Fl).b = S.b from rfl, show q + 0 - 1 = q - 1 by omega, hp2 (by omega)]; rfl
          rw [e, show ({ S with off := o, armed := m } : Fl).chunks = ch from h.chunks, laid_state hd hch]; rfl
      · rw [if_neg hj0, if_neg (by omega), decide_eq_false hj0]
        have e : ({ S with off := o, armed := m } : Fl).raw 1 (q + 1 - 1) = part (laid d ch) ch j := by
          unfold Fl.raw
          rw [show ({ S with off := o, armed := m } : Fl).b = S.b from rfl, show q + 1 - 1 = q by omega, hp1 (by omega)]; rfl
        rw [e, show ({ S with off := o, armed := m } : Fl).chunks = ch from h.chunks, part_state hd (by omega) hj]; rfl
end Go.Proofs.YtlidbkofjchnnaaDoor
