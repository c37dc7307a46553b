/- vcache: slices.IndexFunc, slices.DeleteFunc at items. -/
import Derived.Test.YtmppegknkeggcaaCacheD
namespace Go.Proofs.Ytmppegknkeggcaa
open Go.RowKit
set_option linter.unusedVariables false
set_option linter.unusedSimpArgs false

/-- A closure that tells which writes are gone, whatever these blocks hold by now. -/
structure Gone (w : World) (S : List Nat) (F : FuncId) (caps : List Value) (p : It → Bool) : Prop where
  ent : ∀ args w, (callFunc F args).run Try.prog w = .ok (.enter F args) w
  call : ∀ W, Turns w W S → ∀ x : It, Calls Try.prog F ((.agg #[.int .i64 x.a, .int .i64 x.s, .slice x.A x.l.length x.c, .int .i64 x.g] :: caps).toArray) W fun e W' => e = .returned (.bool (p x)) ∧ Below W.heap.size W W'
theorem Gone.turns {w w' : World} {S : List Nat} {F : FuncId} {caps : List Value} {p : It → Bool} (h : Gone w S F caps p) (ht : Turns w w' S) : Gone w' S F caps p :=
  ⟨h.ent, fun W hW x => h.call W (ht.trans hW (fun k hk => .inl hk)) x⟩
theorem enters_put1 : ∀ args w, (callFunc 21 args).run Try.prog w = .ok (.enter 21 args) w := fun _ _ => by kernel_rfl
theorem enters_drop1 : ∀ args w, (callFunc 29 args).run Try.prog w = .ok (.enter 29 args) w := fun _ _ => by kernel_rfl
/-- The first one that is gone, or -1. -/
def ixI (p : It → Bool) (items : List It) : Int := if items.findIdx p < items.length then (items.findIdx p : Int) else -1
theorem ixI_hit (p : It → Bool) (items : List It) (k : Nat) (x : It) (hx : items[k]? = some x) (hp : p x = true) (hb : ∀ j y, j < k → items[j]? = some y → p y = false) : ixI p items = k := by
  have hkl := (List.getElem?_eq_some_iff.1 hx).1
  have e : items[k] = x := (List.getElem?_eq_some_iff.1 hx).2
  have : items.findIdx p = k := by
    rw [List.findIdx_eq hkl]
    exact ⟨by rw [e]; exact hp, fun j hj => hb j _ hj (List.getElem?_eq_getElem (by omega))⟩
  unfold ixI; rw [this, if_pos hkl]
theorem ixI_miss (p : It → Bool) (items : List It) (hb : ∀ j y, j < items.length → items[j]? = some y → p y = false) : ixI p items = -1 := by
  unfold ixI
  rw [if_neg]
  rw [List.findIdx_lt_length]
  rintro ⟨x, hx, hp⟩
  obtain ⟨j, hj⟩ := List.mem_iff_getElem?.1 hx
  have := hb j x (List.getElem?_eq_some_iff.1 hj).1 hj
  rw [hp] at this; cases this
set_option maxHeartbeats 400000 in
theorem IndexFuncI_any (F : FuncId) (caps : List Value) (p : It → Bool) (S : List Nat) (A : Option Addr) (n c B : Nat) (items : List It) (hn : n ≤ 1000) (w : World) (h : OwnI w B (.slice A n c) n items) (hg : Gone w S F caps p) :
    Calls Try.prog 32 #[.slice A n c, .func (.func F) #[] caps.toArray] w fun e w' => e = .returned (.int .i64 (ixI p items)) ∧ Below w.heap.size w w' := by
  have H := Lib.hid h
  have HG := Lib.hid hg
  have HL := Lib.hid h.len
  clear h hg
  go_enter Try.func32, Try.ntmps32
  go_wp2
  go_loopw [8] (fun i wr => ∃ k : Nat, k ≤ n ∧ i = .int .i64 k ∧ (∀ j x, j < k → items[j]? = some x → p x = false) ∧ Below w.heap.size w wr) (fun i _ => n - (intOf i).toNat)
  case atStart => exact ⟨0, by omega, rfl, fun j x hj => by omega, Below.refl _ _⟩
  case round =>
    obtain ⟨k, hk, rfl, hbad, hb⟩ := hrel
    have HB := Lib.hid hb
    have HBad := Lib.hid hbad
    have HO := Lib.hid (own_below H.out hb)
    clear hbad
    by_cases hkn : k < n
    · obtain ⟨x, hx⟩ : ∃ x, items[k]? = some x := ⟨_, List.getElem?_eq_getElem (by rw [HL.out]; exact hkn)⟩
      obtain ⟨L, rfl, c0, c1, c2, c3⟩ := OwnI.at4 HO.out k x hx
      have HC := Lib.hid (HG.out.call wr (Turns.of_below hb S) x)
      have hent := HG.out.ent
      have HF : Hid (p x = true → ixI p items = k) := fun hp => ixI_hit p items k x hx hp HBad.out
      clear hb HG
      cases hpx : p x with
      | true =>
        rw [hpx] at HC
        have HF2 := Lib.hid (HF.out hpx)
        clear HF hpx
        go_wp2_with fail
        refine HC.out.mono ?_
        rintro e w2 ⟨rfl, hb2⟩
        have HB2 : Hid (Below w.heap.size w w2) := HB.out.trans (hb2.mono HB.out.size)
        clear hent hb2 hx c0 c1 c2 c3
        go_wp2
        go_ret
        exact ⟨by rw [HF2.out]; rfl, HB2.out⟩
      | false =>
        rw [hpx] at HC
        have HN : Hid (∀ j y, j < k + 1 → items[j]? = some y → p y = false) := fun j y hj hy => by
          by_cases e : j = k
          · subst e; rw [hx] at hy; injection hy with hy; rw [← hy]; exact hpx
          · exact HBad.out j y (by omega) hy
        clear HF hpx
        go_wp2_with fail
        refine HC.out.mono ?_
        rintro e w2 ⟨rfl, hb2⟩
        have HB2 : Hid (Below w.heap.size w w2) := HB.out.trans (hb2.mono HB.out.size)
        clear hent hb2 hx c0 c1 c2 c3
        go_wp2
        go_roundw
        case rel => exact ⟨k + 1, by omega, by go_num, HN.out, HB2.out⟩
        case measure => simp [intOf]; omega
    · obtain rfl : k = n := by omega
      have HF : Hid (ixI p items = -1) := ixI_miss p items (by rw [HL.out]; exact HBad.out)
      clear hb HG H HO
      go_wp2
      go_ret
      exact ⟨by rw [HF.out]; rfl, HB.out⟩
end Go.Proofs.Ytmppegknkeggcaa
