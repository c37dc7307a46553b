/- What follows is laid together from several texts of mine, in their order. -/
import Derived.Test.YtlidbkofjchnnaaDoorQ29

namespace Go.Proofs.YtlidbkofjchnnaaDoor
open Go.RowKit
set_option linter.unusedVariables false
set_option linter.unusedSimpArgs false

theorem bad_rows {w : World} {B nb : Nat} {bad : Nat → Bool} {v : Value} (ho : w.ownsRow B 3 1 v (badL nb bad).length ((badL nb bad).map encZ)) : ∃ A c, v = .slice A (cntB bad nb) c ∧
    ∀ w', (∀ x cs, Row w x 3 cs → Row w' x 3 cs) → ∀ k, k < nb → bad k = true → ∃ g, A = some ⟨g, 0, none⟩ ∧ cntB bad nb ≤ c ∧ w'.cell? ⟨g, cntB bad k, none⟩ = some (.int .i64 k) := by
  rw [badL_length] at ho
  rcases ho.2 with ⟨rfl, h0⟩ | ⟨g, cap, cur, rfl, hbase, hr, h1, h2, h3, h4⟩
  · refine ⟨none, 0, by rw [h0], fun w' _ k hk hb => ?_⟩
    have := (badL_at nb bad k hk hb).2
    omega
  · refine ⟨_, cap, rfl, fun w' hw k hk hb => ⟨g, rfl, h1, ?_⟩⟩
    obtain ⟨h5, h6⟩ := badL_at nb bad k hk hb
    have h7 : (cur.toList.take (cntB bad nb * 1))[cntB bad k]? = ((badL nb bad).map encZ)[cntB bad k]? := by rw [h4]
    rw [List.getElem?_take, if_pos (by omega), List.getElem?_map, h5] at h7
    have h8 : cur[cntB bad k]? = some (.int .i64 k) := by simpa [encZ] using h7
    exact ((hw g cur hr).cell _).trans h8
set_option maxRecDepth 100000 in
set_option maxHeartbeats 8000000 in
theorem plays_in (nb p c n : Nat) (a : Option Addr) (cap : Nat) (xs : List Ac) (hcap : xs.length ≤ cap) (h1 : 1 ≤ nb ∧ nb ≤ 20) (h2 : 2 ≤ p ∧ p ≤ 20 ∧ p % 2 = 0) (h3 : 1 ≤ c ∧ c ≤ 8) (h4 : 1 ≤ n ∧ n ≤ 64 * c) (hf : fewB xs = true) (hn : xs.length ≤ 1048576) (hs : sumA xs ≤ 1048576) (w : World) (hT : Tab w) (hW : ActsP w a xs) :
    Calls Tryd.prog 6 #[.int .i64 nb, .int .i64 p, .int .i64 c, .int .i64 n, .slice a xs.length cap] w fun e w' => e = .returned (.bool true) ∧ Below w.heap.size w w' := by
  have HK := Lib.hid (known_any w hT)
  have HF : Hid (∀ w1, Below w.heap.size w w1 → Calls Tryd.prog 22 #[.slice a xs.length cap] w1 fun e w' => e = .returned (.bool true) ∧ w1 = w') := fun w1 hb => by
    have := few_any a cap xs hn hs w1 (hW.keep (keep_below hb))
    rw [hf] at this; exact this
  have HBg : Hid (∀ w1, Below w.heap.size w w1 → Calls Tryd.prog 8 #[.int .i64 nb, .int .i64 p, .int .i64 c, .int .i64 n] w1 fun e w' => ∃ W M Q F L P g, e = .returned (.pointer (some ⟨W, 0, none⟩)) ∧ PW w W M Q F L P g n nb p c w') := fun w1 hb =>
    begun_pst w w1 hb hT nb p c n ⟨h1.1, by omega⟩ ⟨h2.1, by omega, h2.2.2⟩ h3 h4
  have HW := Lib.hid hW
  have HN : Hid (1 ≤ n ∧ n ≤ 64 * c) := h4
  have g1 : ¬ (nb : Int) < 1 := by omega
  have g2 : ¬ (nb : Int) > 20 := by omega
  have g3 : ¬ (p : Int) < 2 := by omega
  have g4 : ¬ (p : Int) > 20 := by omega
  have g5 : (p : Int) % 2 = 0 := by omega
  have g5t : (p : Int).tmod 2 = 0 := by rw [Int.tmod_eq_emod_of_nonneg (by omega)]; exact g5
  have g6 : ¬ (c : Int) < 1 := by omega
  have g7 : ¬ (c : Int) > 8 := by omega
  have g8 : ¬ (n : Int) < 1 := by omega
  obtain ⟨z, hz⟩ : ∃ z, z = 64 * c := ⟨_, rfl⟩
  have hw64 : IntKind.i64.wrap (64 * (c : Int)) = (z : Int) := by rw [IntKind.wrap_i64]; omega
  have g9 : ¬ (n : Int) > z := by omega
  obtain ⟨ln, hln⟩ : ∃ ln, ln = xs.length := ⟨_, rfl⟩
  have HLn := Lib.hid hln
  have HCap : Hid (ln ≤ cap) := by rw [hln]; exact hcap
  rw [← hln] at HF hn ⊢
  have hln20 := hn
  have hnb20 : nb ≤ 20 := h1.2
  clear hT hW hf hn hs hz h1 h2 h3 h4 hln hcap
  go_enter Tryd.func6, Tryd.ntmps6
  go_wp2_with fail
  refine (HK.out).mono ?_
  rintro e w1 ⟨rfl, hb⟩
  have HF1 := Lib.hid (HF.out w1 hb)
  have HB1 := Lib.hid (HBg.out w1 hb)
  clear HK HF hb HBg
  go_wp2_with fail
  refine HF1.out.mono ?_
  rintro e w2 ⟨rfl, rfl⟩
  clear HF1
  go_wp2_with fail
  refine HB1.out.mono ?_
  rintro e w3 ⟨W, M, Q, F, L, P, g, rfl, hp⟩
  have HP := Lib.hid hp
  clear HB1 hp
  go_wp2
  go_loopw [12] (fun i wr => ∃ k : Nat, i = .int .i64 k ∧ k ≤ ln ∧ PW w W M Q F L P g n nb p c wr) (fun i _ => ln - (intOf i).toNat)
  case atStart => exact ⟨0, rfl, by omega, HP.out⟩
  case round =>
    clear HP
    obtain ⟨k, rfl, hk, hp⟩ := hrel
    by_cases hkn : k < ln
    · obtain ⟨x, hx⟩ : ∃ x, xs[k]? = some x := ⟨_, List.getElem?_eq_getElem (by rw [← HLn.out]; exact hkn)⟩
      obtain ⟨⟨b, off, e1, hc⟩, hax⟩ := HW.out.at0 k x hx
      subst e1
      obtain ⟨v, S, bad, md, m, hps, hag, e1, e2, e3⟩ := hp
      have HSt : Hid (Calls Tryd.prog 23 #[.pointer (some ⟨W, 0, none⟩), x.val] wr fun e w' => e = .returned (.bool true) ∧ PW w W M Q F L P g n nb p c w') := by
        have := step_any hps hag x hax
        rw [e1, e2, e3] at this; exact this
      have HC : Hid (∀ j u, x.cells[j]? = some u → wr.cell? ⟨b, off + (k * 7 + j), none⟩ = some u) := fun j u hu => keep_below hps.bel _ _ (hc j u hu)
      clear hps hag hc hax hx e1 e2 e3
      obtain ⟨op, bl, pg, fill, A, cc, l, one, nn⟩ := x
      simp only [Ac.val, Ac.cells] at HSt HC
      have q0 := HC.out 0 _ rfl
      have q1 := HC.out 1 _ rfl
      have q2 := HC.out 2 _ rfl
      have q3 := HC.out 3 _ rfl
      have q4 := HC.out 4 _ rfl
      have q5 := HC.out 5 _ rfl
      have q6 := HC.out 6 _ rfl
      simp only [← Nat.add_assoc, Nat.add_zero] at q0 q1 q2 q3 q4 q5 q6
      clear HC
      generalize l.length = lx at *
      go_wp2_with fail
      refine HSt.out.mono ?_
      rintro e w4 ⟨rfl, hp⟩
      have HP := Lib.hid hp
      clear HSt hp q0 q1 q2 q3 q4 q5 q6
      go_wp2
      go_roundw
      case rel => exact ⟨k + 1, by go_num, by omega, HP.out⟩
      case measure => simp [intOf]; omega
    · obtain rfl : k = ln := by omega
      obtain ⟨v, S, bad, md, m, hps, hag, e1, e2, e3⟩ := hp
      have HOn := Lib.hid hps.on
      have c0 := hps.mem.cells.1
      obtain ⟨S2, hS2⟩ : ∃ S2 : Fl, S2 = { S with off := false, armed := (max (1099511627776 : Int) 1).toNat } := ⟨_, rfl⟩
      have HAg : Hid (Agr S2 bad n m) := by rw [hS2]; exact hag
      have HNB : Hid (S2.nb = nb) := by rw [hS2]; exact e1
      have HO2 : Hid (S2.off = false) := by rw [hS2]; rfl
      have HAr : Hid (∀ w1, PSt w w1 W M Q F L P g v { S with off := false } n bad md m → Calls Tryd.prog 9 #[.pointer (some ⟨F, 0, none⟩), .int .i64 1099511627776] w1 fun e w' => e = .returned (.tuple #[]) ∧ PSt w w' W M Q F L P g v S2 n bad md m) := fun w1 h => by
        rw [hS2]; exact h.arm 1099511627776 (by omega)
      clear hps hag e1 e2 e3 hS2 HLn HW HN HCap
      go_wp2_with fail
      refine HOn.out.mono ?_
      rintro e w4 ⟨rfl, h4⟩
      have HAr4 := Lib.hid (HAr.out _ h4)
      have c40 := h4.mem.cells.1
      clear HOn h4 c0 HAr
      go_wp2_with fail
      refine HAr4.out.mono ?_
      rintro e w5 ⟨rfl, h5⟩
      have c51 := h5.mem.cells.2.1
      have HBd : Hid (Calls Tryd.prog 18 #[.pointer (some ⟨M, 0, none⟩)] w5 fun e w' => ∃ A2 c2, e = .returned (.slice A2 (cntB bad nb) c2) ∧ (∀ wr, (∀ x cs, Row w' x 3 cs → Row wr x 3 cs) → ∀ k, k < nb → bad k = true → ∃ y, A2 = some ⟨y, 0, none⟩ ∧ cntB bad nb ≤ c2 ∧ wr.cell? ⟨y, cntB bad k, none⟩ = some (.int .i64 k)) ∧ PSt w w' W M Q F L P g v S2 n bad md m) :=
        (Bad_any h5.med).mono fun e w' ⟨u, he, ho, hb2⟩ => by
          rw [HNB.out] at ho
          obtain ⟨A2, c2, rfl, hcl⟩ := bad_rows ho
          exact ⟨A2, c2, he, hcl, h5.keep (Turns.of_below hb2 [])⟩
      clear HAr4 h5 c40
      go_wp2_with fail
      refine HBd.out.mono ?_
      rintro e wB ⟨A2, c2, rfl, hcl, h6⟩
      obtain ⟨J, hJ⟩ : ∃ J : World → Prop, J = fun wr => PRd w W M Q F L P g v S2 n bad m (fun x cs => Row wB x 3 cs) wr := ⟨_, rfl⟩
      obtain ⟨hs, hhs⟩ : ∃ hs : Nat → Nat, hs = fun k => S2.has k := ⟨_, rfl⟩
      have Hhb : Hid (∀ k, hs k ≤ 256) := fun k => by
        have h7 := h6.med.fl.ok.pages
        have h8 : S2.has k ≤ S2.pages := by unfold Fl.has hasOf; split <;> omega
        rw [hhs]; show S2.has k ≤ 256; omega
      have HJ0 : Hid (J wB) := by rw [hJ]; exact ⟨⟨md, h6⟩, fun _ _ h => h⟩
      have HJr : Hid (∀ wr, J wr → wr.cell? ⟨W, 8, none⟩ = some (.slice (some ⟨g 13, 0, none⟩) nb nb)) := fun wr h => by
        rw [hJ] at h; obtain ⟨⟨md', h⟩, _⟩ := h; rw [← HNB.out]; exact h.mem.cells.2.2.2.2.2.2.2.1
      have HJb : Hid (∀ wr k, J wr → k < nb → wr.cell? ⟨g 13, k, none⟩ = some (.bool (bad k))) := fun wr k h hk => by
        rw [hJ] at h; obtain ⟨⟨md', h⟩, _⟩ := h
        rw [← (HAg.out k (by rw [HNB.out]; exact hk)).eBad]
        exact (h.mem.at_k (by rw [HNB.out]; exact hk)).2.2.2.1
      have HJl : Hid (∀ wr k, J wr → k < nb → bad k = true → ∃ y, A2 = some ⟨y, 0, none⟩ ∧ cntB bad nb ≤ c2 ∧ wr.cell? ⟨y, cntB bad k, none⟩ = some (.int .i64 k)) := fun wr k h hk hb => by
        rw [hJ] at h; exact hcl wr h.2 k hk hb
      have HJh : Hid (∀ wr k, J wr → k < nb → Calls Tryd.prog 24 #[.pointer (some ⟨W, 0, none⟩), .int .i64 k] wr fun e w' => e = .returned (.int .i64 (hs k : Nat)) ∧ wr = w') := fun wr k h hk => by
        rw [hJ] at h; obtain ⟨⟨md', h⟩, _⟩ := h; rw [hhs]
        exact h.has_in HAg.out (by rw [HNB.out]; exact hk) 0
      have HJd : Hid (∀ wr (k q : Nat), J wr → Calls Tryd.prog 25 #[.pointer (some ⟨W, 0, none⟩), .int .i64 k, .int .i64 q] wr fun e w' => e = .returned (.bool true) ∧ J w') := fun wr k q h => by
        rw [hJ] at h ⊢; obtain ⟨⟨md', h⟩, hI⟩ := h
        exact read_any h hI HAg.out HO2.out k q
      have HJe : Hid (∀ wr, J wr → Below w.heap.size w wr) := fun wr h => by
        rw [hJ] at h; obtain ⟨⟨md', h⟩, _⟩ := h; exact h.bel
      have HCn := Lib.hid (fun k => cntB_step bad k)
      have HCa := Lib.hid (fun k hk hb => (badL_at nb bad k hk hb).2)
      have hcn := cntB_le bad nb
      have hc0 : cntB bad 0 = 0 := rfl
      have HC0 := Lib.hid hc0
      clear HBd hcl h6 hJ hhs hc0 HAg HNB HO2
      go_wp2_with fail
      go_loopw [13, 15, 16] (fun nv kv pv wr => ∃ k : Nat, nv = .int .i64 (cntB bad k : Nat) ∧ kv = .int .i64 k ∧ k ≤ nb ∧ J wr) (fun _ kv _ _ => nb - (intOf kv).toNat)
      case atStart => exact ⟨0, by rw [HC0.out]; rfl, rfl, by omega, HJ0.out⟩
      case round =>
        clear HJ0
        obtain ⟨k, rfl, rfl, hk, hj⟩ := hrel
        have HJ := Lib.hid hj
        clear hj
        by_cases hkn : k < nb
        · have c8 := HJr.out _ HJ.out
          have cb := HJb.out _ k HJ.out hkn
          have hst := HCn.out k
          obtain ⟨hk0, hhk⟩ : ∃ hk0, hk0 = hs k := ⟨_, rfl⟩
          have HHs : Hid (∀ wr, J wr → Calls Tryd.prog 24 #[.pointer (some ⟨W, 0, none⟩), .int .i64 k] wr fun e w' => e = .returned (.int .i64 hk0) ∧ wr = w') := fun wr h => by rw [hhk]; exact HJh.out wr k h hkn
          have HRd : Hid (∀ wr (q : Nat), J wr → Calls Tryd.prog 25 #[.pointer (some ⟨W, 0, none⟩), .int .i64 k, .int .i64 q] wr fun e w' => e = .returned (.bool true) ∧ J w') := fun wr q h => HJd.out wr k q h
          have hk256 : hk0 ≤ 256 := by rw [hhk]; exact Hhb.out k
          clear hhk
          cases hbk : bad k with
          | true =>
            rw [hbk] at cb hst
            obtain ⟨y, rfl, hc2, hcell⟩ := HJl.out _ k HJ.out hkn hbk
            have hlt := HCa.out k hkn hbk
            have HSt := Lib.hid hst
            generalize cntB bad nb = cN at *
            generalize cntB bad k = ck at *
            have hnge : ¬ (ck : Int) ≥ cN := by omega
            clear hst hbk
            go_wp2_with fail
            clear c8 cb hcell
            go_loopw [16] (fun pv wr => ∃ q : Nat, pv = .int .i64 q ∧ q ≤ hk0 ∧ J wr) (fun pv _ => hk0 - (intOf pv).toNat)
            case atStart => exact ⟨0, rfl, by omega, HJ.out⟩
            case round =>
              clear HJ
              obtain ⟨q, rfl, hq, hj⟩ := hrel
              have HHq := Lib.hid (HHs.out _ hj)
              have HRq := Lib.hid (HRd.out _ q hj)
              have HJ := Lib.hid hj
              clear hj
              by_cases hqn : q < hk0
              · go_wp2_with fail
                refine HHq.out.mono ?_
                rintro e w7 ⟨rfl, rfl⟩
                go_wp2_with fail
                refine HRq.out.mono ?_
                rintro e w8 ⟨rfl, hj8⟩
                have HJ8 := Lib.hid hj8
                clear HHq HRq hj8 HJ
                go_wp2
                go_roundw
                case rel => exact ⟨q + 1, by go_num, by omega, HJ8.out⟩
                case measure => simp [intOf]; omega
              · obtain rfl : q = hk0 := by omega
                go_wp2_with fail
                refine HHq.out.mono ?_
                rintro e w7 ⟨rfl, rfl⟩
                clear HHq HRq
                go_wp2
                go_roundw
                case rel => exact ⟨k + 1, by rw [HSt.out]; go_num, by go_num, by omega, HJ.out⟩
                case measure => simp [intOf]; omega
          | false =>
            rw [hbk] at cb hst
            have HSt := Lib.hid hst
            generalize cntB bad nb = cN at *
            clear hst hbk
            go_wp2_with fail
            clear c8 cb
            go_loopw [16] (fun pv wr => ∃ q : Nat, pv = .int .i64 q ∧ q ≤ hk0 ∧ J wr) (fun pv _ => hk0 - (intOf pv).toNat)
            case atStart => exact ⟨0, rfl, by omega, HJ.out⟩
            case round =>
              clear HJ
              obtain ⟨q, rfl, hq, hj⟩ := hrel
              have HHq := Lib.hid (HHs.out _ hj)
              have HRq := Lib.hid (HRd.out _ q hj)
              have HJ := Lib.hid hj
              clear hj
              by_cases hqn : q < hk0
              · go_wp2_with fail
                refine HHq.out.mono ?_
                rintro e w7 ⟨rfl, rfl⟩
                go_wp2_with fail
                refine HRq.out.mono ?_
                rintro e w8 ⟨rfl, hj8⟩
                have HJ8 := Lib.hid hj8
                clear HHq HRq hj8 HJ
                go_wp2
                go_roundw
                case rel => exact ⟨q + 1, by go_num, by omega, HJ8.out⟩
                case measure => simp [intOf]; omega
              · obtain rfl : q = hk0 := by omega
                go_wp2_with fail
                refine HHq.out.mono ?_
                rintro e w7 ⟨rfl, rfl⟩
                clear HHq HRq
                go_wp2
                go_roundw
                case rel => exact ⟨k + 1, by rw [HSt.out]; rfl, by go_num, by omega, HJ.out⟩
                case measure => simp [intOf]; omega
        · obtain rfl : k = nb := by omega
          have HX := Lib.hid (HJe.out _ HJ.out)
          generalize cntB bad k = ck at *
          go_wp2
          go_ret
          exact ⟨by simp, HX.out⟩
end Go.Proofs.YtlidbkofjchnnaaDoor
