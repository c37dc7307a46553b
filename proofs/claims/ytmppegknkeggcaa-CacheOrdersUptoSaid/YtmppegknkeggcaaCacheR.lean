/- vcache's laws: a cache since a world, its calls; known. -/
import Derived.Test.YtmppegknkeggcaaCacheQ
import Derived.Lib.SlBytesConst
namespace Go.Proofs.Ytmppegknkeggcaa
open Go.RowKit
set_option linter.unusedVariables false
set_option linter.unusedSimpArgs false

/-- A cache that was made since w0. -/
def CSt (w0 W : World) (C mb most : Nat) (items : List It) (g : Int) : Prop := ∃ A c, CHeld W w0.heap.size C mb most A c items g ∧ Below w0.heap.size w0 W
theorem Src.turns {w W : World} {S : List Nat} {A : Option Addr} {n sz : Nat} {xs : List Value} (h : Src w sz A n xs) (ht : Turns w W S) (hS : 0 < n → ∀ a, A = some a → a.block ∉ S) : Src W sz A n xs :=
  ⟨h.len, fun hn => by
    obtain ⟨ad, e, hc⟩ := h.lies hn
    refine ⟨ad, e, fun j u hu => ht.cell (hc j u hu) ?_⟩
    have : (ad.add j).block = ad.block := by unfold Addr.add; split <;> rfl
    rw [this]; exact hS hn ad e⟩
/-- Where the bytes of a write that is put may lie: ahead of all that the cache has, or in a row of bytes. -/
def FarOff (B : Nat) (W : World) (A : Option Addr) (n : Nat) : Prop := 0 < n → ∀ a, A = some a → a.block < B ∨ ∃ cur fr, W.heap[a.block]? = some (.cells cur 5 fr)
theorem CHeld.no_cells {w : World} {B C mb most c : Nat} {A : Option Addr} {items : List It} {g : Int} (h : CHeld w B C mb most A c items g) : ∀ k ∈ C :: mb :: blk A, ∀ cur fr, w.heap[k]? ≠ some (.cells cur 5 fr) := by
  intro k hk cur fr hr
  simp only [List.mem_cons] at hk
  rcases hk with rfl | rfl | hk
  · have := h.row
    unfold Row at this
    rw [this] at hr
    injection hr with hr; injection hr with _ ht
    exact absurd ht (by decide)
  · obtain ⟨n, f, ⟨es, clock, hb, _⟩, _⟩ := h.cnt
    rw [hr] at hb; cases hb
  · obtain ⟨_, cur', hr'⟩ := h.own.block_row k hk
    unfold Row at hr'
    rw [hr'] at hr
    injection hr with hr; injection hr with _ ht
    exact absurd ht (by decide)
theorem CHeld.src {w : World} {B C mb most c : Nat} {A : Option Addr} {items : List It} {g : Int} (h : CHeld w B C mb most A c items g) {A0 : Option Addr} {l : List Nat} (hs : Src w 1 A0 l.length (intsV .u8 l)) (hf : FarOff B w A0 l.length) :
    ∀ W, Turns w W (C :: mb :: blk A) → Src W 1 A0 l.length (intsV .u8 l) := fun W ht => hs.turns ht (fun hn a e hm => by
  rcases hf hn a e with h1 | ⟨cur, fr, hr⟩
  · have := h.floor _ hm; omega
  · exact h.no_cells _ hm cur fr hr)
theorem split_few {l out rest : List It} {most : Nat} (h : l = out ++ rest) (hl : l.length ≤ most) (h2 : rest.length ≤ most ∧ (out = [] ∨ rest.length = most)) : out = [] ∧ rest = l := by
  have hlen := congrArg List.length h
  rw [List.length_append] at hlen
  have : out = [] := by
    rcases h2.2 with e | e
    · exact e
    · exact List.eq_nil_of_length_eq_zero (by omega)
  subst this
  exact ⟨rfl, h.symm⟩
theorem split_over {x : It} {l out rest : List It} {most : Nat} (h : x :: l = out ++ rest) (hl : l.length = most) (h2 : rest.length ≤ most ∧ (out = [] ∨ rest.length = most)) : out = [x] ∧ rest = l := by
  have hlen := congrArg List.length h
  rw [List.length_append, List.length_cons] at hlen
  have ho : out.length = 1 := by
    rcases h2.2 with e | e
    · subst e; simp at hlen; omega
    · omega
  match out, ho with
  | [y], _ => simp at h; exact ⟨by rw [h.1], h.2.symm⟩
/-- What a put leaves, as the laws see it. -/
def PutSt (w0 W : World) (C mb most : Nat) (items : List It) (g : Int) (x : It) (e : Ending) (W' : World) : Prop :=
  ∃ Ao co out rest y, e = .returned (.slice Ao (List.length out) co) ∧ y.sees = x.sees ∧ y.g = g ∧ (items.filter fun z => !goneP x.a x.s g z) ++ [y] = out ++ rest ∧ (rest.length ≤ most ∧ (out = [] ∨ rest.length = most)) ∧ CSt w0 W' C mb most rest g ∧ Sees W' Ao out
section
variable {w0 W : World} {C mb most : Nat} {items : List It} {g : Int}
theorem CSt.lt (h : CSt w0 W C mb most items g) : w0.heap.size ≤ W.heap.size := by obtain ⟨A, c, h, hb⟩ := h; exact hb.size
theorem CSt.bel (h : CSt w0 W C mb most items g) : Below w0.heap.size w0 W := by obtain ⟨A, c, h, hb⟩ := h; exact hb
theorem CSt.below {W' : World} (h : CSt w0 W C mb most items g) (hb : Below W.heap.size W W') : CSt w0 W' C mb most items g := by
  obtain ⟨A, c, h, hb0⟩ := h
  exact ⟨A, c, h.below hb, hb0.trans (hb.mono hb0.size)⟩
theorem CSt.put (h : CSt w0 W C mb most items g) (hn : items.length ≤ 900) (x : It) (wa : W64 x.a) (ws : W64 x.s) (h256 : ∀ u ∈ x.l, u < 256) (hl : x.l.length ≤ reachBytes) (hs : Src W 1 x.A x.l.length (intsV .u8 x.l)) (hf : FarOff w0.heap.size W x.A x.l.length) :
    Calls Try.prog 10 #[.pointer (some ⟨C, 0, none⟩), .agg #[.int .i64 x.a, .int .i64 x.s, .slice x.A x.l.length x.c]] W (PutSt w0 W C mb most items g x) := by
  obtain ⟨A, c, h, hb0⟩ := h
  refine (Put_any _ C mb most c A items g x.a x.s x.A x.l x.c W h hn wa ws h256 hl (h.src hs hf)).mono ?_
  rintro e W' ⟨Ao, co, A', c', out, rest, y, rfl, ⟨e1, e2, e3, e4⟩, hsp, hr, hh, _, hown, hdat, ht⟩
  exact ⟨Ao, co, out, rest, y, rfl, by rw [It.sees, It.sees, e1, e2, e3], e4, hsp, hr, ⟨A', c', hh, ht.below hb0 hb0.size (fun k hk => h.floor k hk)⟩, Sees.of_own hown hdat⟩
theorem CSt.barrier (h : CSt w0 W C mb most items g) (hg : 0 ≤ g ∧ g ≤ 1000000) :
    Calls Try.prog 11 #[.pointer (some ⟨C, 0, none⟩)] W fun e W' => (∃ v, e = .returned v) ∧ CSt w0 W' C mb most items (barG items g) := by
  obtain ⟨A, c, h, hb0⟩ := h
  refine (Barrier_any _ C mb most c A items g W h hg).mono ?_
  rintro e W' ⟨hv, hh, ht⟩
  exact ⟨hv, A, c, hh, ht.below hb0 hb0.size (fun k hk => h.floor k (by simp at hk; simp [hk]))⟩
theorem CSt.flush (h : CSt w0 W C mb most items g) :
    Calls Try.prog 12 #[.pointer (some ⟨C, 0, none⟩)] W fun e W' => ∃ Ao co, e = .returned (.slice Ao items.length co) ∧ CSt w0 W' C mb most [] g ∧ Sees W' Ao items := by
  obtain ⟨A, c, h, hb0⟩ := h
  refine (Flush_any _ C mb most c A items g W h).mono ?_
  rintro e W' ⟨Ao, co, rfl, hh, hown, hdat, ht⟩
  exact ⟨Ao, co, rfl, ⟨none, 0, hh, ht.below hb0 hb0.size (fun k hk => h.floor k (by simp at hk; rcases hk with e | e <;> simp [e]))⟩, Sees.of_own hown hdat⟩
theorem CSt.get (h : CSt w0 W C mb most items g) {a s : Int} (ha : W64 a) (hs : W64 s) :
    Calls Try.prog 15 #[.pointer (some ⟨C, 0, none⟩), .int .i64 a, .int .i64 s] W fun e W' => GetPost W items a s e W' ∧ CSt w0 W' C mb most items g := by
  obtain ⟨A, c, h, hb0⟩ := h
  exact (Get_any _ C mb most c A items g a s W h ha hs).mono fun e W' he => ⟨he, A, c, h.below he.2, hb0.trans (he.2.mono hb0.size)⟩
theorem CSt.groups (h : CSt w0 W C mb most items g) :
    Calls Try.prog 14 #[.pointer (some ⟨C, 0, none⟩)] W fun e W' => e = .returned (.int .i64 (grps items : Nat)) ∧ CSt w0 W' C mb most items g := by
  have h' := h
  obtain ⟨A, c, h, hb0⟩ := h
  exact (Groups_any _ C mb most c A items g W h).mono fun e W' ⟨he, hb⟩ => ⟨he, h'.below hb⟩
theorem CSt.len (h : CSt w0 W C mb most items g) (n : Nat) (hn : items.length = n) :
    Calls Try.prog 13 #[.pointer (some ⟨C, 0, none⟩)] W fun e W' => e = .returned (.int .i64 n) ∧ W = W' := by
  obtain ⟨A, c, h, hb0⟩ := h
  subst hn
  exact Len_any C A items.length c W h.cells.2.1
end
theorem CSt.new (n : Nat) (hn : n ≤ 64) (w0 W : World) (hb : Below w0.heap.size w0 W) : Calls Try.prog 9 #[.int .i64 n] W fun e w' => ∃ C mb, e = .returned (.tuple #[.pointer (some ⟨C, 0, none⟩), .int .i64 0]) ∧ CSt w0 w' C mb n [] 0 ∧ Below W.heap.size W w' :=
  (New_yes n hn W).mono fun e W' ⟨C, mb, he, hh, hb1⟩ => ⟨C, mb, he, ⟨none, 0, hh.mono hb.size, hb.trans (hb1.mono hb.size)⟩, hb1⟩
theorem filter_all (p : It → Bool) (l : List It) (h : ∀ x ∈ l, p x = false) : (l.filter fun x => !p x) = l := by
  rw [List.filter_eq_self]; intro x hx; rw [h x hx]; rfl
end Go.Proofs.Ytmppegknkeggcaa
