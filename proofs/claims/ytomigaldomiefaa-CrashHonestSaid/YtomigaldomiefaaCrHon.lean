/- CrashHonest: what lies in memory while it runs. -/
import Derived.Test.YtomigaldomiefaaCrHonest
import Derived.Test.YtomigaldomiefaaCrMoreP
namespace Go.Proofs.Ytomigaldomiefaa
open Go.RowKit
set_option linter.unusedVariables false
set_option linter.unusedSimpArgs false

section
variable {w w' : World} {B : Nat} {T : List Nat}
theorem own_typed {ty e : TypeId} {size : Nat} {v : Value} {n : Nat} {xs : List Value} (he : e ≠ ty) (h : w.ownsRow B e size v n xs) (ht : Turns w w' T) (hT : ∀ g ∈ T, ∃ cs, Row w g ty cs) : w'.ownsRow B e size v n xs :=
  ht.own h fun g hg hm => by
    obtain ⟨cs, hr⟩ := hT g hm
    obtain ⟨_, _, cs', hr'⟩ := own_blk h (k := g) (by unfold blkV; rw [hg]; simp)
    exact Row.ne_type hr hr' (Ne.symm he) rfl
variable (hT : ∀ g ∈ T, ∃ cs, Row w g 22 cs)
include hT
theorem WrsIs.typed {v : Value} {l : List Wr} (h : WrsIs w B v l) (ht : Turns w w' T) : WrsIs w' B v l := by
  obtain ⟨its, h1, h2, h3⟩ := h
  exact ⟨its, h1, own_typed (by decide) h2 ht hT, fun x hx => ⟨(h3 x hx).1, (h3 x hx).2.1, ⟨(h3 x hx).2.2.small, (h3 x hx).2.2.short, own_typed (by decide) (h3 x hx).2.2.own ht hT⟩⟩⟩
theorem GrsIs.typed {v : Value} {l : List (List Wr)} (h : GrsIs w B v l) (ht : Turns w w' T) : GrsIs w' B v l := by
  obtain ⟨vs, h1, h2⟩ := h
  exact ⟨vs, own_typed (by decide) h1 ht hT, fun i g hg => by obtain ⟨u, h3, h4⟩ := h2 i g hg; exact ⟨u, h3, h4.typed hT ht⟩⟩
theorem CrIs.typed {C H L : Nat} {v4 v5 : Value} {S : Cr} (h : CrIs w B C H L v4 v5 S) (ht : Turns w w' T) : CrIs w' B C H L v4 v5 S :=
  ⟨ht.row h.row (fun hm => by obtain ⟨cs, hr⟩ := hT _ hm; exact Row.ne_type hr h.row (by decide) rfl), h.has.turns ht (fun hm => by obtain ⟨cs, hr⟩ := hT _ hm; exact h.has.not_row _ _ hr),
    h.loose.turns ht (fun hm => by obtain ⟨cs, hr⟩ := hT _ hm; exact h.loose.not_row _ _ hr), h.grs.typed hT ht, h.fly.typed hT ht, h.low, h.ne, h.n, h.sz, h.okG, h.okF, h.few⟩
end
theorem BufIs.same {w : World} {X n : Nat} {T : List Nat} {h h' : Nat → List Nat} (hb : BufIs w X n T h) (he : ∀ p, p < n → h' p = h p) : BufIs w X n T h' := by
  obtain ⟨⟨cs, h1, h2, h3⟩, h4⟩ := hb
  exact ⟨⟨cs, h1, h2, fun p hp => by rw [he p hp]; exact h3 p hp⟩, h4⟩
/-- A state, a list of bytes per place, what the closure holds: behind a world. -/
structure Hon (w0 w : World) (B C H L X n Zn : Nat) (S : Cr) (h : Nat → List Nat) : Prop where
  cr : ∃ v4 v5, CrIs w B C H L v4 v5 S
  buf : BufIs w X n [C, H, L] h
  zn : Row w Zn 3 #[.int .i64 n]
  zh : Row w (X + 1) 37 #[.slice (some ⟨X, 0, none⟩) n n]
  below : Below w0.heap.size w0 w
  low : (w0.heap.size ≤ C ∧ w0.heap.size ≤ H ∧ w0.heap.size ≤ L) ∧ (C < X ∧ H < X ∧ L < X) ∧ w0.heap.size ≤ X ∧ Zn < w0.heap.size
section
variable {w0 w w' : World} {B C H L X n Zn : Nat} {S S' : Cr} {h h' : Nat → List Nat}
theorem Hon.later (hh : Hon w0 w B C H L X n Zn S h) (hb : Below w.heap.size w w') : Hon w0 w' B C H L X n Zn S h := by
  obtain ⟨v4, v5, hc⟩ := hh.cr
  exact ⟨⟨v4, v5, hc.below hb⟩, hh.buf.below hb, hh.zn.below hb hh.zn.lt, hh.zh.below hb hh.zh.lt, hh.below.trans (hb.mono hh.below.size), hh.low⟩
theorem Hon.turn (hh : Hon w0 w B C H L X n Zn S h) (ht : Turns w w' [C, H, L]) (hc : ∃ v4 v5, CrIs w' B C H L v4 v5 S') : Hon w0 w' B C H L X n Zn S' h := by
  have hl := hh.low
  exact ⟨hc, hh.buf.turns ht (fun x hx => hx), ht.row hh.zn (by simp; omega), ht.row hh.zh (by simp; omega), ht.below hh.below hh.below.size (by simp; omega), hl⟩
theorem Hon.put (hh : Hon w0 w B C H L X n Zn S h) (ht : Turns w w' [X]) (hb : BufIs w' X n [C, H, L] h') : Hon w0 w' B C H L X n Zn S h' := by
  have hl := hh.low
  obtain ⟨v4, v5, hc⟩ := hh.cr
  obtain ⟨⟨cs, hr, _⟩, _⟩ := hh.buf
  exact ⟨⟨v4, v5, hc.typed (T := [X]) (fun g hg => by rw [List.mem_singleton.1 hg]; exact ⟨cs, hr⟩) ht⟩, hb, ht.row hh.zn (by simp; omega), ht.row hh.zh (by simp), ht.below hh.below hh.below.size (by simp; omega), hl⟩
/-- put, where a write of the arguments comes in. -/
theorem Hon.step {wa : World} {x : Ws} (hh : Hon w0 w B C H L X n Zn S h) (hA : ArgW wa x) (hwa : Below wa.heap.size wa w0) :
    Calls Try.prog 13 #[.agg #[.int .i64 x.a, .int .i64 x.s, .slice x.A x.l.length x.c], .pointer (some ⟨Zn, 0, none⟩), .pointer (some ⟨X + 1, 0, none⟩)] w fun e w' => (∃ v, e = .returned v) ∧ Hon w0 w' B C H L X n Zn S (putH n h x) := by
  have hl := hh.low
  have hwa2 : Below wa.heap.size wa w := hwa.trans (hh.below.mono hwa.size)
  refine (put_any X n Zn (X + 1) [C, H, L] h x w hh.buf (hh.zn.cell 0) (hh.zh.cell 0) (hA.lies.keep (keep_below hwa2)) (fun h0 a ha => ?_)).mono ?_
  · have h1 := hA.lt h0 a ha
    have h2 := hwa.size
    simp; omega
  · rintro e w' ⟨hv, hb, ht⟩
    exact ⟨hv, hh.put ht hb⟩
end
theorem last_in {w : World} {B C H L : Nat} {v4 v5 : Value} {S : Cr} {h : Nat → List Nat} (hc : CrIs w B C H L v4 v5 S) (hl : Last S S.fly h) : ∀ p, p < S.n → (h p).length = S.sz ∧ ∀ u ∈ h p, u < 256 := fun p hp => by
  obtain ⟨k, _, hs⟩ := hl
  refine Cr.level_ok hc k p (h p) ?_
  unfold Cr.level
  simp only [List.mem_cons, List.mem_append]
  rcases hs p hp with (h1 | h1) | h1
  · exact .inl h1
  · exact .inr (.inr (.inr h1))
  · exact .inr (.inr (.inl h1))
/-- The reader of it. -/
theorem Hon.reads {w0 w : World} {B C H L X n Zn Z : Nat} {S : Cr} {h : Nat → List Nat} (hh : Hon w0 w B C H L X n Zn S h) (hn : n ≤ 40) (hb : ∀ p, p < n → ∀ u ∈ h p, u < 256) (hz : Row w Z 37 #[.slice (some ⟨X, 0, none⟩) n n]) (hZ : X < Z) (m : Nat) (hm : m ≤ 4294967296) (T : List Nat) (hT : ∀ x ∈ T, x ∈ [C, H, L]) :
    RdOk w T m 40 #[.pointer (some ⟨Z, 0, none⟩)] (rdOf ((List.range n).map h)) := by
  have hl := hh.low
  refine reader_ok Z n m hm (some ⟨X, 0, none⟩) _ (by rw [List.length_map, List.length_range]; omega) (fun d hd u hu => ?_) T w (fun V hV => ⟨?_, ?_⟩)
  · obtain ⟨p, hp, rfl⟩ := List.mem_map.1 hd
    exact hb p (List.mem_range.1 hp) u hu
  · rw [List.length_map, List.length_range]
    exact (hV.row hz (fun hm => by have := hT _ hm; simp at this; omega)).cell 0
  · exact (hh.buf.turns hV hT).reads
end Go.Proofs.Ytomigaldomiefaa
