/- vcache's laws: same, for rows that are the same; the texts of bytes. -/
import Derived.Test.YtmppegknkeggcaaCacheP
import Derived.Laws.BytesString
namespace Go.Proofs.Ytmppegknkeggcaa
open Go.RowKit
set_option linter.unusedVariables false
set_option linter.unusedSimpArgs false

/-- The text of some bytes. -/
def textOf (l : List Nat) : ByteArray := (l.map fun (x : Nat) => (x : Int)).foldl (fun r n => r.push (UInt8.ofNat n.toNat)) ByteArray.empty
theorem conv_text {w : World} {A : Option Addr} {c : Nat} {l : List Nat} (h : Cells8 w A l) : (convert 30 9 (.slice A l.length c)).run Try.prog w = .ok (.string (textOf l)) w := by
  rw [run_convert_bytes_string w _ _ 5 _ _ _ Try.underlying30 Try.underlying5 Try.underlying9]
  cases A with
  | none =>
    obtain rfl : l = [] := by
      cases l with
      | nil => rfl
      | cons x r => obtain ⟨_, _, e, _⟩ := h 0 (by simp); cases e
    simp [Conv.bytesToString, textOf]
  | some ad =>
    refine run_bytesToString w _ _ _ _ ?_
    have h2 := run_loadCells_list (P := Try.prog) w ad (intsV .u8 l) (fun j v hv => by
      have hj : j < l.length := by
        rcases Nat.lt_or_ge j l.length with h1 | h1
        · exact h1
        · rw [List.getElem?_eq_none (by rw [intsV_length]; exact h1)] at hv; cases hv
      obtain ⟨b, off, e, hc⟩ := h j hj
      injection e with e; subst e
      rw [intsV_get .u8 l j hj] at hv
      injection hv with hv
      subst hv
      rw [addr_add]
      exact hc)
    rw [intsV_length] at h2
    rw [h2]; congr 1
    simp [intsV]
theorem Cells8.of_src {w : World} {A : Option Addr} {l : List Nat} (hsp : ∀ a, A = some a → a.spot = none) (h : Src w 1 A l.length (intsV .u8 l)) : Cells8 w A l := by
  intro i hi
  obtain ⟨⟨b, off, spot⟩, e, hc⟩ := h.lies (by omega)
  have := hsp _ e
  simp at this; subst this
  have h1 := hc i _ (intsV_get .u8 l i hi)
  rw [addr_add] at h1
  exact ⟨b, off, e, h1⟩
theorem DatIs.lies {w : World} {B : Nat} {A : Option Addr} {n c : Nat} {l : List Nat} (h : DatIs w B (.slice A n c) l) : Cells8 w A l := by
  refine Cells8.of_src (fun a e => ?_) h.src.1
  rcases h.own.2 with ⟨e2, _⟩ | ⟨g', cap, cur, e2, _⟩
  · injection e2 with e2 _ _; rw [e2] at e; cases e
  · injection e2 with e2 _ _; rw [e2] at e; injection e with e; subst e; rfl
/-- Writes in a row: what is seen of them. -/
structure Sees (w : World) (a : Option Addr) (its : List It) : Prop where
  at0 : ∀ i x, its[i]? = some x → (∃ b off, a = some ⟨b, off, none⟩ ∧ ∀ j u, x.wr[j]? = some u → w.cell? ⟨b, off + (i * 3 + j), none⟩ = some u) ∧ Cells8 w x.A x.l
theorem Sees.keep {w w' : World} {a : Option Addr} {its : List It} (h : Sees w a its) (hk : ∀ p v, w.cell? p = some v → w'.cell? p = some v) : Sees w' a its :=
  ⟨fun i x hx => by obtain ⟨⟨b, off, e, hc⟩, hA⟩ := h.at0 i x hx; exact ⟨⟨b, off, e, fun j u hu => hk _ _ (hc j u hu)⟩, fun i hi => by obtain ⟨b, off, e, hc⟩ := hA i hi; exact ⟨b, off, e, hk _ _ hc⟩⟩⟩
theorem Writes.sees {w : World} {a : Option Addr} {its : List It} (h : Writes w a its) : Sees w a its := ⟨fun i x hx => ⟨(h.at0 i x hx).1, (h.at0 i x hx).2.lies⟩⟩
theorem Sees.nil {w : World} {a : Option Addr} : Sees w a [] := ⟨by simp⟩
theorem Sees.of_own {w : World} {B B' n c : Nat} {A : Option Addr} {its : List It} (h : w.ownsRow B 32 3 (.slice A n c) n (wrsV its)) (hd : ∀ x ∈ its, DatIs w B' (.slice x.A x.l.length x.c) x.l) : Sees w A its := by
  refine ⟨fun i x hx => ⟨?_, (hd x (List.mem_of_getElem? hx)).lies⟩⟩
  have hlen : its.length = n := by have := h.1; rw [show wrsV its = its.flatMap It.wr from rfl, flat_length _ 3 wr_len] at this; omega
  have hil := (List.getElem?_eq_some_iff.1 hx).1
  obtain ⟨g, cc, e, _⟩ := own_at h (by omega)
  injection e with e _ _
  subst e
  refine ⟨g, 0, rfl, fun j u hu => ?_⟩
  have hj : j < 3 := by
    rcases Nat.lt_or_ge j 3 with h1 | h1
    · exact h1
    · rw [List.getElem?_eq_none (by simpa using h1)] at hu; cases hu
  have := h.cells (g := g) rfl (i * 3 + j) u (by rw [show wrsV its = its.flatMap It.wr from rfl, flat_get _ 3 wr_len its i j x hx hj]; exact hu)
  rw [addr_add, Nat.zero_add] at this
  rw [Nat.zero_add]; exact this
abbrev It.sees (x : It) : Int × Int × List Nat := (x.a, x.s, x.l)
set_option maxRecDepth 100000 in
set_option maxHeartbeats 2000000 in
theorem same_any (A1 A2 : Option Addr) (xs ys : List It) (c1 c2 n m : Nat) (hn : n = xs.length) (hm : m = ys.length) (hN : xs.length ≤ 100000) (w : World) (h1 : Sees w A1 xs) (h2 : Sees w A2 ys) (he : xs.map It.sees = ys.map It.sees) :
    Calls Try.prog 17 #[.slice A1 n c1, .slice A2 m c2] w fun e w' => e = .returned (.bool true) ∧ ∃ q, w' = w.drewN q := by
  have hlen : xs.length = ys.length := by simpa using congrArg List.length he
  obtain rfl : m = n := by omega
  have HN := Lib.hid hn
  have H1 := Lib.hid h1
  have H2 := Lib.hid h2
  have HE := Lib.hid he
  have HL := Lib.hid hlen
  have hn1 : m ≤ 100000 := by omega
  clear hn hm h1 h2 he hlen hN
  go_enter Try.func17, Try.ntmps17
  go_wp2
  go_loopw [5] (fun i wr => ∃ k q : Nat, k ≤ m ∧ i = .int .i64 k ∧ wr = w.drewN q) (fun i _ => m - (intOf i).toNat)
  case atStart => exact ⟨0, 0, by omega, rfl, rfl⟩
  case round =>
    obtain ⟨k, q, hk, rfl, rfl⟩ := hrel
    by_cases hlt : k < m
    · obtain ⟨x, hx⟩ : ∃ x, xs[k]? = some x := ⟨_, List.getElem?_eq_getElem (by rw [← HN.out]; exact hlt)⟩
      obtain ⟨y, hy⟩ : ∃ y, ys[k]? = some y := ⟨_, List.getElem?_eq_getElem (by rw [← HL.out, ← HN.out]; exact hlt)⟩
      have hxy : x.sees = y.sees := by
        have h3 := congrArg (fun l => l[k]?) HE.out
        simp only [List.getElem?_map, hx, hy, Option.map_some, Option.some.injEq] at h3
        exact h3
      obtain ⟨⟨b1, o1, e1, hc1⟩, hl1⟩ := H1.out.at0 k x hx
      obtain ⟨⟨b2, o2, e2, hc2⟩, hl2⟩ := H2.out.at0 k y hy
      subst e1; subst e2
      obtain ⟨xa, xs', xA, xc, xl, xg⟩ := x
      obtain ⟨ya, ys', yA, yc, yl, yg⟩ := y
      simp only [It.sees, Prod.mk.injEq] at hxy
      obtain ⟨rfl, rfl, rfl⟩ := hxy
      have a0 := hc1 0 _ rfl
      have a1 := hc1 1 _ rfl
      have a2 := hc1 2 _ rfl
      have b0 := hc2 0 _ rfl
      have b1' := hc2 1 _ rfl
      have b2' := hc2 2 _ rfl
      rw [Nat.add_zero] at a0 b0
      rw [← Nat.add_assoc] at a1 a2 b1' b2'
      have cv1 : ∀ q, (convert 30 9 (.slice xA xl.length xc)).run Try.prog (w.drewN q) = .ok (.string (textOf xl)) (w.drewN q) := fun q => conv_text (w := w.drewN q) hl1
      have cv2 : ∀ q, (convert 30 9 (.slice yA xl.length yc)).run Try.prog (w.drewN q) = .ok (.string (textOf xl)) (w.drewN q) := fun q => conv_text (w := w.drewN q) hl2
      clear hx hy hc1 hc2 hl1 hl2
      generalize textOf xl = S at *
      generalize xl.length = xn at *
      go_wp2
      go_quiet (fail)
      go_wp2
      go_roundw
      case rel => exact ⟨k + 1, q + nq, by omega, by go_num, by simp⟩
      case measure => simp [intOf]; omega
    · obtain rfl : k = m := by omega
      go_wp2
      go_ret
      exact ⟨rfl, _, rfl⟩
end Go.Proofs.Ytmppegknkeggcaa
