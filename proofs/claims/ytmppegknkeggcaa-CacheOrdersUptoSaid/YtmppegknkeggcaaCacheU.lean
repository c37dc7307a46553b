/- locketlaw12.few; two caches beside one another. -/
import Derived.Test.YtmppegknkeggcaaCacheT
namespace Go.Proofs.Ytmppegknkeggcaa
open Go.RowKit
set_option linter.unusedVariables false
set_option linter.unusedSimpArgs false

def fewB (its : List It) : Bool := decide (its.length ≤ 300) && decide (sumL its ≤ 16384)
set_option maxHeartbeats 1000000 in
theorem few_any (a : Option Addr) (cap : Nat) (its : List It) (hn : its.length ≤ 1048576) (hs : sumL its ≤ 1048576) (w : World) (hW : ActsW w a its) :
    Calls Try.prog 8 #[.slice a its.length cap] w fun e w' => e = .returned (.bool (fewB its)) ∧ w = w' := by
  obtain ⟨n, hnn⟩ : ∃ n, n = its.length := ⟨_, rfl⟩
  have HN := Lib.hid hnn
  have HW := Lib.hid hW
  have HS := Lib.hid hs
  rw [← hnn] at hn ⊢
  clear hnn hW hs
  go_enter Try.func8, Try.ntmps8
  go_wp2
  go_loop [3, 4] (fun s i => ∃ k : Nat, k ≤ n ∧ i = .int .i64 k ∧ s = .int .i64 (sumL (its.take k) : Nat)) (fun _ i => n - (intOf i).toNat)
  case atStart => exact ⟨0, by omega, rfl, by simp [sumL]⟩
  case round =>
    obtain ⟨k, hk, rfl, rfl⟩ := hrel
    by_cases hlt : k < n
    · obtain ⟨x, hx⟩ : ∃ x, its[k]? = some x := ⟨_, List.getElem?_eq_getElem (by rw [← HN.out]; exact hlt)⟩
      obtain ⟨⟨b, off, e1, hc⟩, _⟩ := HW.out.at0 k x hx
      subst e1
      have c3 := hc 3 _ rfl
      rw [← Nat.add_assoc] at c3
      have HT := Lib.hid (sumL_take its k x hx)
      have hle : sumL (its.take k) + x.l.length ≤ 1048576 := by have := sumL_le its (k + 1); have := HT.out; have := HS.out; omega
      obtain ⟨q, hq⟩ : ∃ q, q = sumL (its.take k) := ⟨_, rfl⟩
      have HQ := Lib.hid hq
      obtain ⟨m, hm⟩ : ∃ m, m = x.l.length := ⟨_, rfl⟩
      have HM := Lib.hid hm
      rw [← hq, ← hm] at hle
      rw [← hm] at c3
      rw [← hq]
      have hwq : IntKind.i64.wrap ((q : Int) + (m : Int)) = (q : Int) + (m : Int) := by rw [IntKind.wrap_i64]; omega
      clear hx hc hq hm
      go_wp2
      go_round
      case rel => exact ⟨k + 1, by omega, by go_num, by rw [HT.out, ← HQ.out, ← HM.out]; go_num⟩
      case measure => simp [intOf]; omega
    · obtain rfl : k = n := by omega
      have hall : its.take k = its := by rw [HN.out]; exact List.take_length
      rw [hall]
      obtain ⟨q, hq⟩ : ∃ q, q = sumL its := ⟨_, rfl⟩
      have HQ := Lib.hid hq
      have HF : Hid (fewB its = (decide ((k : Int) ≤ 300) && decide ((q : Int) ≤ 16384))) := by
        unfold Hid fewB
        rw [← HN.out, ← HQ.out]
        congr 1
        · exact decide_eq_decide.2 (by omega)
        · exact decide_eq_decide.2 (by omega)
      rw [← hq]
      clear hq hall
      cases h1 : decide ((k : Int) ≤ 300) with
      | false =>
        rw [h1] at HF
        go_wp2
        go_ret
        exact ⟨by rw [HF.out]; rfl, rfl⟩
      | true =>
        rw [h1] at HF
        go_wp2
        go_ret
        exact ⟨by rw [HF.out]; rfl, rfl⟩
end Go.Proofs.Ytmppegknkeggcaa
