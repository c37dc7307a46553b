/- What follows is laid together from several texts of mine, in their order. -/
import Derived.Test.YtomigaldomiefaaQ16
import Derived.Test.YtomigaldomiefaaQ14

namespace Go.Proofs.Ytomigaldomiefaa
open Go.RowKit Go.MapKept Go.ChangeMaps
set_option linter.unusedVariables false
set_option linter.unusedSimpArgs false

/-- What a place may have at a level, in locketref21's order. -/
def Cr.atL (S : Cr) (k p : Nat) : List (List Nat) := S.base k p :: (ofP (S.groups.getD k []) p ++ (ofP S.fly p ++ (if S.loose p && (S.ahead k p).isEmpty then [zs S.sz] else [])))
theorem mem_atL (S : Cr) (k p : Nat) (d : List Nat) : d ∈ S.atL k p ↔ d ∈ S.level k p := by
  unfold Cr.atL Cr.level
  simp only [List.mem_cons, List.mem_append]
  constructor
  · rintro (h | h | h | h)
    · exact .inl h
    · exact .inr (.inr (.inr h))
    · exact .inr (.inr (.inl h))
    · exact .inr (.inl h)
  · rintro (h | h | h | h)
    · exact .inl h
    · exact .inr (.inr (.inr h))
    · exact .inr (.inr (.inl h))
    · exact .inr (.inl h)
/-- What was met ahead: of the levels before k, of the first i writes of level k. -/
def Cr.met (S : Cr) (k i p : Nat) : List (List Nat) := S.ahead k p ++ ofP ((S.groups.getD k []).take i) p
theorem met_zero (S : Cr) (k p : Nat) : S.met k 0 p = S.ahead k p := by unfold Cr.met; simp [ofP]
theorem met_step (S : Cr) (k i p : Nat) (x : Wr) (h : (S.groups.getD k [])[i]? = some x) : S.met k (i + 1) p = S.met k i p ++ (if x.1 = p then [x.2] else []) := by
  unfold Cr.met; rw [rfofP_take _ _ _ _ h, List.append_assoc]
theorem met_end (S : Cr) (k p : Nat) (g : List Wr) (hg : S.groups[k]? = some g) : S.met k g.length p = S.ahead (k + 1) p := by
  have e : S.groups.getD k [] = g := by rw [List.getD_eq_getElem?_getD, hg]; rfl
  unfold Cr.met Cr.ahead
  rw [e, List.take_length, List.take_add_one, hg, List.flatMap_append]
  simp
def lastT (l : List (List Nat)) (b : List Nat) : Value := .string (textOf (l.getLast?.getD b))
theorem lastT_push (l : List (List Nat)) (b d : List Nat) : lastT (l ++ [d]) b = .string (textOf d) := by unfold lastT; rw [List.getLast?_append]; simp
section
variable {w : World} {B R X L : Nat} {v3 v4 : Value} {S : Cr}
theorem RfIs.lies (h : RfIs w B R X L v3 v4 S) {p : Nat} (hp : p < S.n) : ∃ A c, w.cell? ⟨X, p, none⟩ = some (.slice A (S.base0 p).length c) ∧ (convert 22 9 (.slice A (S.base0 p).length c)).run Try.prog w = .ok (.string (textOf (S.base0 p))) w := by
  obtain ⟨A, c, h1, h2, _⟩ := h.has.at hp
  exact ⟨A, c, h1, conv_text h2.lies⟩
theorem GrsIs.at {w : World} {B n c : Nat} {A : Option Addr} {gs : List (List Wr)} (h : GrsIs w B (.slice A n c) gs) : n = gs.length ∧ ∀ (k : Nat) (l : List Wr), gs[k]? = some l → ∃ g A1 c1, A = some ⟨g, 0, none⟩ ∧ w.cell? ⟨g, k, none⟩ = some (.slice A1 l.length c1) ∧ WrsIs w B (.slice A1 l.length c1) l := by
  obtain ⟨vs, ho, hv⟩ := h
  have hn : n = gs.length := by
    obtain ⟨A', c', e', _⟩ := own_shape ho
    injection e' with _ e'
  subst hn
  refine ⟨rfl, fun k l hl => ?_⟩
  have hlt : k < gs.length := (List.getElem?_eq_some_iff.1 hl).1
  obtain ⟨u, h1, h2⟩ := hv k l hl
  obtain ⟨n1, A1, c1, rfl⟩ := h2.shape
  obtain rfl := h2.at1.1
  rcases ho.2 with ⟨e1, h0⟩ | ⟨g, cap, cur, e1, _, hr, h3, h4, h5, h6⟩
  · omega
  · injection e1 with e1 _ _
    refine ⟨g, A1, c1, e1, ?_, h2⟩
    rw [(show Row w g _ cur from hr).cell]
    rw [← h6, List.getElem?_take, if_pos (by omega)] at h1
    simpa using h1
end
theorem strs_built (w : World) (B : Nat) (d : List Nat) (hB : B ≤ w.heap.size) : StrsIs (w.alloc (.cells #[.string (textOf d)] 9)) B (.slice (some ⟨w.heap.size, 0, none⟩) 1 1) [d] :=
  ⟨by simp, .inr ⟨w.heap.size, 1, #[.string (textOf d)], rfl, hB, heap_alloc_new w _, Nat.le_refl _, by decide, rfl, rfl⟩⟩
theorem StrsIs.src {w : World} {B : Nat} {A : Option Addr} {n c : Nat} {ts : List (List Nat)} (h : StrsIs w B (.slice A n c) ts) : Src w 1 A n (strV ts) ∧ n = ts.length := by
  have hn := h.at.1
  subst hn
  exact ⟨Src.of_own h, rfl⟩
set_option maxRecDepth 100000 in
set_option maxHeartbeats 4000000 in
theorem rfAt_any (B R X L : Nat) (v3 v4 : Value) (S : Cr) (k p : Nat) (w : World) (h : RfIs w B R X L v3 v4 S) (hk : k ≤ S.groups.length) (hp : p < S.n) :
    Calls Try.prog 65 #[.pointer (some ⟨R, 0, none⟩), .int .i64 k, .int .i64 p] w fun e w' => ∃ v, e = .returned v ∧ StrsIs w' w.heap.size v (S.atL k p) ∧ Below w.heap.size w w' := by
  obtain ⟨n3, A3, c3, rfl⟩ : ∃ n A c, v3 = .slice A n c := by
    obtain ⟨vs, h1, _⟩ := h.grs
    obtain ⟨A, c, e, _⟩ := own_shape h1
    exact ⟨_, A, c, e⟩
  obtain ⟨n4, A4, c4, rfl⟩ := h.fly.shape
  obtain ⟨i0, hi, hz0, hz1, hz2⟩ := info_parts str_info
  have HG := Lib.hid h.grs.at
  have hn3 := h.grs.at.1
  have HC := Lib.hid h
  obtain ⟨A0, c0, q0, kc⟩ := h.lies hp
  have d1 := h.cells.2.1
  have d3 := h.cells.2.2.2.1
  obtain ⟨n, hn⟩ : ∃ n, n = S.n := ⟨_, rfl⟩
  have HN := Lib.hid hn
  have HP := Lib.hid hp
  rw [← hn] at d1 hp
  have hgl : n3 ≤ 1048576 := by rw [hn3]; exact h.few.1
  rw [← hn3] at hk
  have hn16 : n ≤ 16384 := by rw [hn]; exact h.n.2
  have HN3 := Lib.hid hn3
  have HB0 : Hid (lastT (S.met 0 0 p) (S.base0 p) = .string (textOf (S.base0 p))) := by unfold Hid; rw [met_zero]; unfold lastT Cr.ahead; simp
  have HA0 : Hid ((!(S.met 0 0 p).isEmpty) = false) := by unfold Hid; rw [met_zero]; unfold Cr.ahead; simp
  clear h hn hn3
  go_enter Try.func65, Try.ntmps65
  go_wp2_with fail
  rw [← HB0.out]
  clear kc q0 d1
  go_loopw [7, 8, 9] (fun b a i wr => ∃ g : Nat, i = .int .i64 g ∧ g ≤ k ∧ wr = w ∧ b = lastT (S.met g 0 p) (S.base0 p) ∧ a = .bool (!(S.met g 0 p).isEmpty)) (fun _ _ i _ => k - (intOf i).toNat)
  case atStart => exact ⟨0, rfl, by omega, rfl, rfl, by rw [HA0.out]⟩
  case round =>
    obtain ⟨g, rfl, hg, rfl, rfl, rfl⟩ := hrel
    by_cases hgk : g < k
    · obtain ⟨l, hl⟩ : ∃ l, S.groups[g]? = some l := ⟨_, List.getElem?_eq_getElem (by rw [← HN3.out]; omega)⟩
      obtain ⟨gb, A1, c1, e1, hcell, hw1⟩ := HG.out.2 g l hl
      subst e1
      obtain ⟨ll, hll⟩ : ∃ ll, ll = l.length := ⟨_, rfl⟩
      have HLl := Lib.hid hll
      have hlle : ll ≤ 1048576 := by rw [hll]; exact HC.out.few.2.1 l (List.mem_of_getElem? hl)
      have HW1 := Lib.hid hw1.at1.2
      have HL := Lib.hid hl
      have HE := Lib.hid (met_end S g p l hl)
      have HSp : Hid (∀ (i : Nat) (x : Wr), l[i]? = some x → S.met g (i + 1) p = S.met g i p ++ (if x.1 = p then [x.2] else [])) := fun i x hx => met_step S g i p x (by rw [List.getD_eq_getElem?_getD, hl]; exact hx)
      rw [← hll] at hcell HE
      have hg3 : g < n3 := by omega
      clear hw1 hl hll
      go_wp2_with fail
      go_loopw [7, 8, 10] (fun b a i wx => ∃ j : Nat, i = .int .i64 j ∧ j ≤ ll ∧ wx = wr ∧ b = lastT (S.met g j p) (S.base0 p) ∧ a = .bool (!(S.met g j p).isEmpty)) (fun _ _ i _ => ll - (intOf i).toNat)
      case atStart => exact ⟨0, rfl, by omega, rfl, rfl, rfl⟩
      case round =>
        obtain ⟨j, rfl, hj, rfl, rfl, rfl⟩ := hrel
        by_cases hjl : j < ll
        · obtain ⟨⟨q, d⟩, hx⟩ : ∃ x, l[j]? = some x := ⟨_, List.getElem?_eq_getElem (by rw [← HLl.out]; exact hjl)⟩
          obtain ⟨xb, A2, c2, e2, _, x1, x2, hd⟩ := HW1.out j (q, d) hx
          subst e2
          have kc : (convert 22 9 (.slice A2 d.length c2)).run Try.prog wr = .ok (.string (textOf d)) wr := conv_text hd.lies
          have HS1 := Lib.hid (HSp.out j (q, d) hx)
          simp only at x1 x2 HS1
          clear hd hx
          by_cases hqp : q = p
          · rw [if_pos hqp] at HS1
            have HV : Hid (lastT (S.met g (j + 1) p) (S.base0 p) = .string (textOf d)) := by unfold Hid; rw [HS1.out, lastT_push]
            have HM : Hid ((!(S.met g (j + 1) p).isEmpty) = true) := by unfold Hid; rw [HS1.out]; simp
            rw [hqp] at x1
            clear hqp
            generalize d.length = dl at *
            go_wp2_with fail
            clear x1 x2 kc
            go_roundw
            case rel => exact ⟨j + 1, by go_num, by omega, trivial, by rw [HV.out], by rw [HM.out]⟩
            case measure => simp [intOf]; omega
          · rw [if_neg hqp, List.append_nil] at HS1
            have hqi : ¬ (q : Int) = p := by omega
            clear kc
            go_wp2_with fail
            clear x1 x2
            go_roundw
            case rel => exact ⟨j + 1, by go_num, by omega, trivial, by rw [HS1.out], by rw [HS1.out]⟩
            case measure => simp [intOf]; omega
        · obtain rfl : ll = j := by omega
          have HMz := Lib.hid (met_zero S (g + 1) p)
          go_wp2_with fail
          clear hcell
          go_roundw
          case rel => exact ⟨g + 1, by go_num, by omega, trivial, by rw [HMz.out, ← HE.out], by rw [HMz.out, ← HE.out]⟩
          case measure => simp [intOf]; omega
    · obtain rfl : g = k := by omega
      have hb1 : lastT (S.met g 0 p) (S.base0 p) = .string (textOf (S.base g p)) := by rw [met_zero]; rfl
      have hb2 : (!(S.met g 0 p).isEmpty) = !(S.ahead g p).isEmpty := by rw [met_zero]
      rw [hb1, hb2]
      have HS0 := Lib.hid (strs_built wr wr.heap.size (S.base g p) (Nat.le_refl _))
      have HB1 : Hid (Below wr.heap.size wr (wr.alloc (.cells #[.string (textOf (S.base g p))] 9))) := (Below.refl _ _).alloc (Nat.le_refl _) _
      obtain ⟨w1, hw1⟩ : ∃ w1, w1 = wr.alloc (.cells #[.string (textOf (S.base g p))] 9) := ⟨_, rfl⟩
      have HW1 := Lib.hid hw1
      rw [← hw1] at HS0 HB1
      have d31 := keep_below HB1.out _ _ d3
      rw [hw1] at d31
      clear hb1 hb2 hw1
      by_cases hgn : g < n3
      · obtain ⟨l, hl⟩ : ∃ l, S.groups[g]? = some l := ⟨_, List.getElem?_eq_getElem (by rw [← HN3.out]; omega)⟩
        have he : S.groups.getD g [] = l := by rw [List.getD_eq_getElem?_getD, hl]; rfl
        obtain ⟨gb, A1, c1, e1, hcell, hw⟩ := (HC.out.below HB1.out).grs.at.2 g l hl
        subst e1
        have HOf := Lib.hid (rfof_any B A1 l.length c1 l p w1 hw (HC.out.few.2.1 l (List.mem_of_getElem? hl)) (by omega))
        have HLe : Hid (l.length ≤ 1048576) := HC.out.few.2.1 l (List.mem_of_getElem? hl)
        rw [HW1.out] at hcell
        have HE := Lib.hid he
        generalize l.length = ll at *
        clear hw hl he
        go_wp2_with fail
        rw [← HW1.out]
        refine HOf.out.mono ?_
        rintro e w2 ⟨v, rfl, hs, hb⟩
        obtain ⟨A5, c5, rfl, _, _⟩ := hs.shape
        have HO2 := Lib.hid (HS0.out.below hb)
        have HF2 := Lib.hid hs
        have HB2 : Hid (Below wr.heap.size wr w2) := HB1.out.trans (hb.mono HB1.out.size)
        have hfl : (ofP l p).length ≤ 1048576 := by
          have h1 := ofP_len l p
          have h2 := HC.out.few.2.1 l (by
            have := HE.out
            rw [List.getD_eq_getElem?_getD] at this
            cases hx : S.groups[g]? with
            | none => have h3 := HN3.out; rw [List.getElem?_eq_none_iff] at hx; omega
            | some y => rw [hx] at this; exact List.mem_of_getElem? (by rw [hx]; exact congrArg some this))
          omega
        obtain ⟨fl, hfe⟩ : ∃ fl, fl = (ofP l p).length := ⟨_, rfl⟩
        have HFe := Lib.hid hfe
        rw [← hfe] at hfl HF2 ⊢
        clear hs hb HOf d31 hcell hfe
        go_wp2_with (at_builtin; go_must (refine wpList_append_src _ rfl (.tmp 71) (.tmp 80) 81 rfl wr.heap.size 9 i0 (.string .empty) 1 16 Try.underlying81 hi hz0 hz1 hz2 rfl (by decide) _ 1 _ rfl HO2.out _ _ _ _ rfl HF2.out.src.1 (strV_one _) (by unfold maxLen; omega) (by omega) HB2.out.size ?_); intro v6 w6 hown hgrow hat; have HBz : Hid (Below wr.heap.size wr w6) := (turns_own hgrow).below HB2.out HB2.out.size (fun g hg => (own_blk HO2.out hg).1); have d4 := (HC.out.below HBz.out).cells.2.2.2.2)
        have HSz : Hid (StrsIs w6 wr.heap.size v6 (S.base g p :: ofP (S.groups.getD g []) p)) := by
          unfold Hid StrsIs; rw [HE.out, List.length_cons, ← HFe.out, Nat.add_comm]
          exact hown
        obtain ⟨Az, cz, rfl, _, _⟩ := own_shape hown
        have hmz : 1 + fl ≤ 1048577 := by omega
        clear hown hgrow hat HO2 HF2
        have HCz := Lib.hid (HC.out.below HBz.out)
        obtain ⟨sz, hsz⟩ : ∃ sz, sz = S.sz := ⟨_, rfl⟩
        have HSZ := Lib.hid hsz
        have hsz5 : sz ≤ 512 := by rw [hsz]; exact HC.out.sz.2
        clear hsz
        have hmk : ∀ v : World, (Instr.makeSlice 22 (.int .i64 sz) (.int .i64 sz)).run Try.prog v = .ok (.slice (some ⟨v.heap.size, 0, none⟩) sz sz) (v.alloc (.cells (madeCells #[.int .u8 0] sz) 5)) := fun v =>
          run_make_row' (P := Try.prog) 22 5 _ 1 Try.underlying22 u8_info rfl .i64 .i64 sz (by omega) (by omega) v
        have kz : ∀ v : World, (convert 22 9 (.slice (some ⟨v.heap.size, 0, none⟩) sz sz)).run Try.prog (v.alloc (.cells (madeCells #[.int .u8 0] sz) 5)) = .ok (.string (textOf (zs sz))) (v.alloc (.cells (madeCells #[.int .u8 0] sz) 5)) := fun v => by
          have h1 := (dat_made v 0 sz (Nat.zero_le _) (by unfold reachBytes; omega) (by unfold maxLen; omega)).lies
          have h2 := conv_text (c := sz) h1
          rw [show (zs sz).length = sz by simp [zs]] at h2
          exact h2
        have HOf2 := Lib.hid (rfof_any B A4 n4 c4 S.fly p w6 HCz.out.fly HC.out.few.2.2 (by omega))
        have hff : (ofP S.fly p).length ≤ 1048576 := Nat.le_trans (ofP_len _ _) HC.out.few.2.2
        refine HOf2.out.mono ?_
        rintro e wy ⟨v, rfl, hs, hb⟩
        obtain ⟨A7, c7, rfl, _, _⟩ := hs.shape
        have HOy := Lib.hid (HSz.out.below hb)
        have HFy := Lib.hid hs
        have HBy : Hid (Below wr.heap.size wr wy) := HBz.out.trans (hb.mono HBz.out.size)
        obtain ⟨ff, hffe⟩ : ∃ ff, ff = (ofP S.fly p).length := ⟨_, rfl⟩
        have HFfe := Lib.hid hffe
        rw [← hffe] at hff HFy ⊢
        have hmy : 1 + fl = (S.base g p :: ofP (S.groups.getD g []) p).length := HOy.out.at.1
        have HMy := Lib.hid hmy
        have hOw := HOy.out
        unfold StrsIs at hOw
        rw [← hmy] at hOw
        have HOw := Lib.hid hOw
        clear hOw hs hb HOf2 hffe HCz d4 hmy
        cases hlo : S.loose p with
        | false =>
          have HE2 : Hid (S.atL g p = (S.base g p :: ofP (S.groups.getD g []) p) ++ ofP S.fly p) := by unfold Hid Cr.atL; rw [hlo]; simp
          go_wp2_with (at_builtin; (refine wpList_append_src _ rfl (.tmp 82) (.tmp 88) 81 rfl wr.heap.size 9 i0 (.string .empty) 1 16 Try.underlying81 hi hz0 hz1 hz2 rfl (by decide) _ _ _ rfl HOw.out _ _ _ _ rfl HFy.out.src.1 (strV_one _) (by unfold maxLen; omega) (by omega) HBy.out.size ?_); intro v8 w8 hown hgrow hat; have HB8 : Hid (Below wr.heap.size wr w8) := (turns_own hgrow).below HBy.out HBy.out.size (fun g hg => (own_blk HOy.out hg).1); have d2 := (HC.out.below HB8.out).cells.2.2.1; have y1 := ((HC.out.below HB8.out).loose.at HP.out).1; rw [hlo] at y1)
          have HS8 : Hid (StrsIs w8 wr.heap.size v8 (S.atL g p)) := by
            unfold Hid StrsIs; rw [HE2.out, List.length_append, ← HFfe.out, ← HMy.out]
            unfold strV at hown ⊢
            rw [List.map_append]
            exact hown
          go_ret
          exact ⟨_, rfl, HS8.out, HB8.out⟩
        | true =>
          cases hah : (S.ahead g p).isEmpty with
          | false =>
            have HE2 : Hid (S.atL g p = (S.base g p :: ofP (S.groups.getD g []) p) ++ ofP S.fly p) := by unfold Hid Cr.atL; rw [hlo, hah]; simp
            go_wp2_with (at_builtin; (refine wpList_append_src _ rfl (.tmp 82) (.tmp 88) 81 rfl wr.heap.size 9 i0 (.string .empty) 1 16 Try.underlying81 hi hz0 hz1 hz2 rfl (by decide) _ _ _ rfl HOw.out _ _ _ _ rfl HFy.out.src.1 (strV_one _) (by unfold maxLen; omega) (by omega) HBy.out.size ?_); intro v8 w8 hown hgrow hat; have HB8 : Hid (Below wr.heap.size wr w8) := (turns_own hgrow).below HBy.out HBy.out.size (fun g hg => (own_blk HOy.out hg).1); have d2 := (HC.out.below HB8.out).cells.2.2.1; have y1 := ((HC.out.below HB8.out).loose.at HP.out).1; rw [hlo] at y1)
            have HS8 : Hid (StrsIs w8 wr.heap.size v8 (S.atL g p)) := by
              unfold Hid StrsIs; rw [HE2.out, List.length_append, ← HFfe.out, ← HMy.out]
              unfold strV at hown ⊢
              rw [List.map_append]
              exact hown
            go_ret
            exact ⟨_, rfl, HS8.out, HB8.out⟩
          | true =>
            have HE2 : Hid (S.atL g p = ((S.base g p :: ofP (S.groups.getD g []) p) ++ ofP S.fly p) ++ [zs sz]) := by unfold Hid Cr.atL; rw [hlo, hah, HSZ.out]; simp
            have HXt : Hid (∀ w8, Below wr.heap.size wr w8 → w8.cell? ⟨R, 2, none⟩ = some (.slice (some ⟨L, 0, none⟩) S.n S.n) ∧ w8.cell? ⟨L, p, none⟩ = some (.bool true) ∧ w8.cell? ⟨R, 0, none⟩ = some (.int .i64 sz)) := fun w8 hb => ⟨(HC.out.below hb).cells.2.2.1, by rw [← hlo]; exact ((HC.out.below hb).loose.at HP.out).1, by rw [HSZ.out]; exact (HC.out.below hb).cells.1⟩
            have HXo : Hid (∀ (w8 : World) (v8 : Value), Below wr.heap.size wr w8 → w8.ownsRow wr.heap.size 9 1 v8 (1 + fl + ff) (strV (S.base g p :: ofP (S.groups.getD g []) p) ++ strV (ofP S.fly p)) →
                ((w8.alloc (.cells (madeCells #[.int .u8 0] sz) 5)).alloc (.cells #[.string (textOf (zs sz))] 9)).ownsRow wr.heap.size 9 1 v8 (1 + fl + ff) (strV (S.base g p :: ofP (S.groups.getD g []) p) ++ strV (ofP S.fly p)) ∧
                Src ((w8.alloc (.cells (madeCells #[.int .u8 0] sz) 5)).alloc (.cells #[.string (textOf (zs sz))] 9)) 1 (some ⟨w8.heap.size + 1, 0, none⟩) 1 [.string (textOf (zs sz))] ∧
                wr.heap.size ≤ ((w8.alloc (.cells (madeCells #[.int .u8 0] sz) 5)).alloc (.cells #[.string (textOf (zs sz))] 9)).heap.size ∧ Below w8.heap.size w8 ((w8.alloc (.cells (madeCells #[.int .u8 0] sz) 5)).alloc (.cells #[.string (textOf (zs sz))] 9))) := fun w8 v8 hb ho => by
              have hBa : Below w8.heap.size w8 ((w8.alloc (.cells (madeCells #[.int .u8 0] sz) 5)).alloc (.cells #[.string (textOf (zs sz))] 9)) := ((Below.refl _ _).alloc (Nat.le_refl _) _).alloc (by rw [World.size_alloc]; omega) _
              refine ⟨own_below ho hBa, ?_, Nat.le_trans hb.size hBa.size, hBa⟩
              have := src_new (w := w8.alloc (.cells (madeCells #[.int .u8 0] sz) 5)) (t := 9) (cs := [.string (textOf (zs sz))]) (sz := 1) rfl
              rw [World.size_alloc] at this; exact this
            go_wp2_with (first | (go_loud (at_builtin; (refine wpList_append_src _ rfl (.tmp 82) (.tmp 88) 81 rfl wr.heap.size 9 i0 (.string .empty) 1 16 Try.underlying81 hi hz0 hz1 hz2 rfl (by decide) _ _ _ rfl HOw.out _ _ _ _ rfl HFy.out.src.1 (strV_one _) (by unfold maxLen; omega) (by omega) HBy.out.size ?_); intro v8 w8 hown hgrow hat; have HB8 : Hid (Below wr.heap.size wr w8) := (turns_own hgrow).below HBy.out HBy.out.size (fun g hg => (own_blk HOy.out hg).1); have HE8 := Lib.hid (HXt.out w8 HB8.out); have d2 := HE8.out.1; have y1 := HE8.out.2.1; have d0 := HE8.out.2.2; have HO8 := Lib.hid hown; have HOb := Lib.hid (HXo.out w8 v8 HB8.out hown))) | (at_builtin; go_must (refine wpList_append_src _ rfl (.tmp 101) (.tmp 108) 81 rfl wr.heap.size 9 i0 (.string .empty) 1 16 Try.underlying81 hi hz0 hz1 hz2 rfl (by decide) _ (1 + fl + ff) _ rfl HOb.out.1 _ _ _ _ rfl HOb.out.2.1 (by intro u hu; rw [List.mem_singleton.1 hu]; rfl) (by unfold maxLen; omega) (by omega) HOb.out.2.2.1 ?_); intro v9 w9 hown9 hgrow9 hat9))
            have HS9 : Hid (StrsIs w9 wr.heap.size v9 (S.atL g p)) := by
              unfold Hid StrsIs; rw [HE2.out, List.length_append, List.length_append, ← HFfe.out, ← HMy.out]
              unfold strV at hown9 ⊢
              rw [List.map_append, List.map_append]
              exact hown9
            have HB9 : Hid (Below wr.heap.size wr w9) := (turns_own hgrow9).below (HB8.out.trans (HOb.out.2.2.2.mono HB8.out.size)) HOb.out.2.2.1 (fun g hg => (own_blk HOb.out.1 hg).1)
            clear hown hgrow hat hown9 hgrow9 hat9 y1 d0 d2
            go_wp2
            go_ret
            exact ⟨_, rfl, HS9.out, HB9.out⟩
      · have he : S.groups.getD g [] = [] := by rw [List.getD_eq_getElem?_getD, List.getElem?_eq_none (by have := HN3.out; omega)]; rfl
        have HSz : Hid (StrsIs w1 wr.heap.size (.slice (some ⟨wr.heap.size, 0, none⟩) 1 1) (S.base g p :: ofP (S.groups.getD g []) p)) := by unfold Hid; rw [he]; exact HS0.out
        have HBz := HB1
        have d4 : w1.cell? ⟨R, 4, none⟩ = some (.slice A4 n4 c4) := (HC.out.below HBz.out).cells.2.2.2.2
        rw [HW1.out] at d4
        have hmz : 1 ≤ 1048577 := by omega
        clear he
        go_wp2_with fail
        rw [← HW1.out]
        clear d31
        have HCz := Lib.hid (HC.out.below HBz.out)
        obtain ⟨sz, hsz⟩ : ∃ sz, sz = S.sz := ⟨_, rfl⟩
        have HSZ := Lib.hid hsz
        have hsz5 : sz ≤ 512 := by rw [hsz]; exact HC.out.sz.2
        clear hsz
        have hmk : ∀ v : World, (Instr.makeSlice 22 (.int .i64 sz) (.int .i64 sz)).run Try.prog v = .ok (.slice (some ⟨v.heap.size, 0, none⟩) sz sz) (v.alloc (.cells (madeCells #[.int .u8 0] sz) 5)) := fun v =>
          run_make_row' (P := Try.prog) 22 5 _ 1 Try.underlying22 u8_info rfl .i64 .i64 sz (by omega) (by omega) v
        have kz : ∀ v : World, (convert 22 9 (.slice (some ⟨v.heap.size, 0, none⟩) sz sz)).run Try.prog (v.alloc (.cells (madeCells #[.int .u8 0] sz) 5)) = .ok (.string (textOf (zs sz))) (v.alloc (.cells (madeCells #[.int .u8 0] sz) 5)) := fun v => by
          have h1 := (dat_made v 0 sz (Nat.zero_le _) (by unfold reachBytes; omega) (by unfold maxLen; omega)).lies
          have h2 := conv_text (c := sz) h1
          rw [show (zs sz).length = sz by simp [zs]] at h2
          exact h2
        have HOf2 := Lib.hid (rfof_any B A4 n4 c4 S.fly p w1 HCz.out.fly HC.out.few.2.2 (by omega))
        have hff : (ofP S.fly p).length ≤ 1048576 := Nat.le_trans (ofP_len _ _) HC.out.few.2.2
        refine HOf2.out.mono ?_
        rintro e wy ⟨v, rfl, hs, hb⟩
        obtain ⟨A7, c7, rfl, _, _⟩ := hs.shape
        have HOy := Lib.hid (HSz.out.below hb)
        have HFy := Lib.hid hs
        have HBy : Hid (Below wr.heap.size wr wy) := HBz.out.trans (hb.mono HBz.out.size)
        obtain ⟨ff, hffe⟩ : ∃ ff, ff = (ofP S.fly p).length := ⟨_, rfl⟩
        have HFfe := Lib.hid hffe
        rw [← hffe] at hff HFy ⊢
        have hmy : 1 = (S.base g p :: ofP (S.groups.getD g []) p).length := HOy.out.at.1
        have HMy := Lib.hid hmy
        have hOw := HOy.out
        unfold StrsIs at hOw
        rw [← hmy] at hOw
        have HOw := Lib.hid hOw
        clear hOw hs hb HOf2 hffe HCz d4 hmy
        cases hlo : S.loose p with
        | false =>
          have HE2 : Hid (S.atL g p = (S.base g p :: ofP (S.groups.getD g []) p) ++ ofP S.fly p) := by unfold Hid Cr.atL; rw [hlo]; simp
          go_wp2_with (at_builtin; (refine wpList_append_src _ rfl (.tmp 82) (.tmp 88) 81 rfl wr.heap.size 9 i0 (.string .empty) 1 16 Try.underlying81 hi hz0 hz1 hz2 rfl (by decide) _ _ _ rfl HOw.out _ _ _ _ rfl HFy.out.src.1 (strV_one _) (by unfold maxLen; omega) (by omega) HBy.out.size ?_); intro v8 w8 hown hgrow hat; have HB8 : Hid (Below wr.heap.size wr w8) := (turns_own hgrow).below HBy.out HBy.out.size (fun g hg => (own_blk HOy.out hg).1); have d2 := (HC.out.below HB8.out).cells.2.2.1; have y1 := ((HC.out.below HB8.out).loose.at HP.out).1; rw [hlo] at y1)
          have HS8 : Hid (StrsIs w8 wr.heap.size v8 (S.atL g p)) := by
            unfold Hid StrsIs; rw [HE2.out, List.length_append, ← HFfe.out, ← HMy.out]
            unfold strV at hown ⊢
            rw [List.map_append]
            exact hown
          go_ret
          exact ⟨_, rfl, HS8.out, HB8.out⟩
        | true =>
          cases hah : (S.ahead g p).isEmpty with
          | false =>
            have HE2 : Hid (S.atL g p = (S.base g p :: ofP (S.groups.getD g []) p) ++ ofP S.fly p) := by unfold Hid Cr.atL; rw [hlo, hah]; simp
            go_wp2_with (at_builtin; (refine wpList_append_src _ rfl (.tmp 82) (.tmp 88) 81 rfl wr.heap.size 9 i0 (.string .empty) 1 16 Try.underlying81 hi hz0 hz1 hz2 rfl (by decide) _ _ _ rfl HOw.out _ _ _ _ rfl HFy.out.src.1 (strV_one _) (by unfold maxLen; omega) (by omega) HBy.out.size ?_); intro v8 w8 hown hgrow hat; have HB8 : Hid (Below wr.heap.size wr w8) := (turns_own hgrow).below HBy.out HBy.out.size (fun g hg => (own_blk HOy.out hg).1); have d2 := (HC.out.below HB8.out).cells.2.2.1; have y1 := ((HC.out.below HB8.out).loose.at HP.out).1; rw [hlo] at y1)
            have HS8 : Hid (StrsIs w8 wr.heap.size v8 (S.atL g p)) := by
              unfold Hid StrsIs; rw [HE2.out, List.length_append, ← HFfe.out, ← HMy.out]
              unfold strV at hown ⊢
              rw [List.map_append]
              exact hown
            go_ret
            exact ⟨_, rfl, HS8.out, HB8.out⟩
          | true =>
            have HE2 : Hid (S.atL g p = ((S.base g p :: ofP (S.groups.getD g []) p) ++ ofP S.fly p) ++ [zs sz]) := by unfold Hid Cr.atL; rw [hlo, hah, HSZ.out]; simp
            have HXt : Hid (∀ w8, Below wr.heap.size wr w8 → w8.cell? ⟨R, 2, none⟩ = some (.slice (some ⟨L, 0, none⟩) S.n S.n) ∧ w8.cell? ⟨L, p, none⟩ = some (.bool true) ∧ w8.cell? ⟨R, 0, none⟩ = some (.int .i64 sz)) := fun w8 hb => ⟨(HC.out.below hb).cells.2.2.1, by rw [← hlo]; exact ((HC.out.below hb).loose.at HP.out).1, by rw [HSZ.out]; exact (HC.out.below hb).cells.1⟩
            have HXo : Hid (∀ (w8 : World) (v8 : Value), Below wr.heap.size wr w8 → w8.ownsRow wr.heap.size 9 1 v8 (1 + ff) (strV (S.base g p :: ofP (S.groups.getD g []) p) ++ strV (ofP S.fly p)) →
                ((w8.alloc (.cells (madeCells #[.int .u8 0] sz) 5)).alloc (.cells #[.string (textOf (zs sz))] 9)).ownsRow wr.heap.size 9 1 v8 (1 + ff) (strV (S.base g p :: ofP (S.groups.getD g []) p) ++ strV (ofP S.fly p)) ∧
                Src ((w8.alloc (.cells (madeCells #[.int .u8 0] sz) 5)).alloc (.cells #[.string (textOf (zs sz))] 9)) 1 (some ⟨w8.heap.size + 1, 0, none⟩) 1 [.string (textOf (zs sz))] ∧
                wr.heap.size ≤ ((w8.alloc (.cells (madeCells #[.int .u8 0] sz) 5)).alloc (.cells #[.string (textOf (zs sz))] 9)).heap.size ∧ Below w8.heap.size w8 ((w8.alloc (.cells (madeCells #[.int .u8 0] sz) 5)).alloc (.cells #[.string (textOf (zs sz))] 9))) := fun w8 v8 hb ho => by
              have hBa : Below w8.heap.size w8 ((w8.alloc (.cells (madeCells #[.int .u8 0] sz) 5)).alloc (.cells #[.string (textOf (zs sz))] 9)) := ((Below.refl _ _).alloc (Nat.le_refl _) _).alloc (by rw [World.size_alloc]; omega) _
              refine ⟨own_below ho hBa, ?_, Nat.le_trans hb.size hBa.size, hBa⟩
              have := src_new (w := w8.alloc (.cells (madeCells #[.int .u8 0] sz) 5)) (t := 9) (cs := [.string (textOf (zs sz))]) (sz := 1) rfl
              rw [World.size_alloc] at this; exact this
            go_wp2_with (first | (go_loud (at_builtin; (refine wpList_append_src _ rfl (.tmp 82) (.tmp 88) 81 rfl wr.heap.size 9 i0 (.string .empty) 1 16 Try.underlying81 hi hz0 hz1 hz2 rfl (by decide) _ _ _ rfl HOw.out _ _ _ _ rfl HFy.out.src.1 (strV_one _) (by unfold maxLen; omega) (by omega) HBy.out.size ?_); intro v8 w8 hown hgrow hat; have HB8 : Hid (Below wr.heap.size wr w8) := (turns_own hgrow).below HBy.out HBy.out.size (fun g hg => (own_blk HOy.out hg).1); have HE8 := Lib.hid (HXt.out w8 HB8.out); have d2 := HE8.out.1; have y1 := HE8.out.2.1; have d0 := HE8.out.2.2; have HO8 := Lib.hid hown; have HOb := Lib.hid (HXo.out w8 v8 HB8.out hown))) | (at_builtin; go_must (refine wpList_append_src _ rfl (.tmp 101) (.tmp 108) 81 rfl wr.heap.size 9 i0 (.string .empty) 1 16 Try.underlying81 hi hz0 hz1 hz2 rfl (by decide) _ (1 + ff) _ rfl HOb.out.1 _ _ _ _ rfl HOb.out.2.1 (by intro u hu; rw [List.mem_singleton.1 hu]; rfl) (by unfold maxLen; omega) (by omega) HOb.out.2.2.1 ?_); intro v9 w9 hown9 hgrow9 hat9))
            have HS9 : Hid (StrsIs w9 wr.heap.size v9 (S.atL g p)) := by
              unfold Hid StrsIs; rw [HE2.out, List.length_append, List.length_append, ← HFfe.out, ← HMy.out]
              unfold strV at hown9 ⊢
              rw [List.map_append, List.map_append]
              exact hown9
            have HB9 : Hid (Below wr.heap.size wr w9) := (turns_own hgrow9).below (HB8.out.trans (HOb.out.2.2.2.mono HB8.out.size)) HOb.out.2.2.1 (fun g hg => (own_blk HOb.out.1 hg).1)
            clear hown hgrow hat hown9 hgrow9 hat9 y1 d0 d2
            go_wp2
            go_ret
            exact ⟨_, rfl, HS9.out, HB9.out⟩
end Go.Proofs.Ytomigaldomiefaa

namespace Go.Proofs.Ytomigaldomiefaa
open Go.RowKit Go.MapKept Go.ChangeMaps
set_option linter.unusedVariables false
set_option linter.unusedSimpArgs false

theorem RfIs.small0 {w : World} {B R X L : Nat} {v3 v4 : Value} {S : Cr} (h : RfIs w B R X L v3 v4 S) {p : Nat} (hp : p < S.n) : ∀ u ∈ S.base0 p, u < 256 := by
  obtain ⟨A, c, _, h2, _⟩ := h.has.at hp
  exact h2.small
theorem rf_level_ok {w : World} {B R X L : Nat} {v3 v4 : Value} {S : Cr} (h : RfIs w B R X L v3 v4 S) (k : Nat) {p : Nat} (hp : p < S.n) : ∀ d ∈ S.atL k p, d.length = S.sz ∧ ∀ u ∈ d, u < 256 := by
  have hg : ∀ (g : List Wr), g ∈ S.groups → ∀ d ∈ ofP g p, d.length = S.sz ∧ ∀ u ∈ d, u < 256 := fun g hg d hd => (h.okG g hg _ (mem_ofP.1 hd)).2
  intro d hd
  unfold Cr.atL at hd
  simp only [List.mem_cons, List.mem_append] at hd
  rcases hd with rfl | hd | hd | hd
  · unfold Cr.base
    cases hl : (S.ahead k p).getLast? with
    | none => exact ⟨h.okH p hp, h.small0 hp⟩
    | some x =>
      have hx := List.mem_of_getLast? hl
      unfold Cr.ahead at hx
      obtain ⟨g, hg1, hg2⟩ := List.mem_flatMap.1 hx
      exact hg g (List.mem_of_mem_take hg1) x hg2
  · rw [List.getD_eq_getElem?_getD] at hd
    cases hk : S.groups[k]? with
    | none => rw [hk] at hd; simp [ofP] at hd
    | some g => rw [hk] at hd; exact hg g (List.mem_of_getElem? hk) d hd
  · exact (h.okF _ (mem_ofP.1 hd)).2
  · split at hd
    · rw [List.mem_singleton.1 hd]
      exact ⟨by simp [zs], fun u hu => by rw [List.eq_of_mem_replicate hu]; decide⟩
    · cases hd
theorem atL_len {w : World} {B R X L : Nat} {v3 v4 : Value} {S : Cr} (h : RfIs w B R X L v3 v4 S) (k p : Nat) : (S.atL k p).length ≤ 2097154 := by
  have h2 : (S.groups.getD k []).length ≤ 1048576 := by
    rw [List.getD_eq_getElem?_getD]
    cases hk : S.groups[k]? with
    | none => simp
    | some g => exact h.few.2.1 g (List.mem_of_getElem? hk)
  have h3 := ofP_len S.fly p
  have h4 := ofP_len (S.groups.getD k []) p
  have h6 := h.few.2.2
  have h5 : (if S.loose p && (S.ahead k p).isEmpty then [zs S.sz] else []).length ≤ 1 := by split <;> simp
  unfold Cr.atL
  simp only [List.length_cons, List.length_append]
  omega
theorem at_atL (S : Cr) (k p : Nat) (b : List Nat) : S.at k p b = ((S.atL k p).contains b || b.isEmpty) := by
  unfold Cr.at
  congr 1
  rw [Bool.eq_iff_iff, List.contains_iff_mem, List.contains_iff_mem, mem_atL]
/-- As a bool says. -/
def OkB (b : Bool) (P Q : Prop) : Prop := (b = true ∧ P) ∨ (b = false ∧ Q)
set_option maxRecDepth 100000 in
set_option maxHeartbeats 4000000 in
theorem rfMay_any (B R X L : Nat) (v3 v4 : Value) (S : Cr) (A : Option Addr) (c : Nat) (ds : List (List Nat)) (w : World) (h : RfIs w B R X L v3 v4 S) (hr : RdsAt w A ds) (hl : ds.length ≤ 1048576) (hb : ∀ d ∈ ds, ∀ u ∈ d, u < 256) :
    Calls Try.prog 47 #[.pointer (some ⟨R, 0, none⟩), .slice A ds.length c] w fun e w' => e = .returned (.bool (S.may (rdOf ds))) ∧ Below w.heap.size w w' := by
  obtain ⟨n3, A3, c3, rfl⟩ : ∃ n A c, v3 = .slice A n c := by
    obtain ⟨vs, h1, _⟩ := h.grs
    obtain ⟨A, c, e, _⟩ := own_shape h1
    exact ⟨_, A, c, e⟩
  have hn3 := h.grs.at.1
  have HC : Hid (∀ wr, Below w.heap.size w wr → RfIs wr B R X L (.slice A3 n3 c3) v4 S) := fun wr hb => h.below hb
  have HR : Hid (∀ wr, Below w.heap.size w wr → RdsAt wr A ds) := fun wr hb => hr.keep (keep_below hb)
  have HBy := Lib.hid hb
  obtain ⟨n, hn⟩ : ∃ n, n = S.n := ⟨_, rfl⟩
  have HN := Lib.hid hn
  have hn16 : n ≤ 16384 := by rw [hn]; exact h.n.2
  have hgl : n3 ≤ 1048576 := by rw [hn3]; exact h.few.1
  have HN3 := Lib.hid hn3
  obtain ⟨m, hm⟩ : ∃ m, m = ds.length := ⟨_, rfl⟩
  have HM := Lib.hid hm
  rw [← hm] at hl ⊢
  clear h hr hb hn hn3 hm
  go_enter Try.func47, Try.ntmps47
  go_wp2
  go_loopw [5] (fun i wr => ∃ k : Nat, i = .int .i64 k ∧ k ≤ n3 + 1 ∧ Below w.heap.size w wr ∧ ∀ k', k' < k → ¬ (∀ q, q < n → S.at k' q (rdOf ds q) = true)) (fun i _ => n3 + 1 - (intOf i).toNat)
  case atStart => exact ⟨0, rfl, by omega, Below.refl _ _, fun k' h => absurd h (by omega)⟩
  case round =>
    obtain ⟨k, rfl, hk, hb, hno⟩ := hrel
    have HB := Lib.hid hb
    have HNo := Lib.hid hno
    have d3 := (HC.out wr hb).cells.2.2.2.1
    clear hb hno
    by_cases hkn : k ≤ n3
    · have HCk : Hid (k ≤ S.groups.length) := by rw [← HN3.out]; exact hkn
      go_wp2_with fail
      clear d3
      go_loopw [6, 7] (fun o i wx => ∃ (j : Nat) (b : Bool), i = .int .i64 j ∧ o = .bool b ∧ j ≤ n ∧ Below w.heap.size w wx ∧ OkB b (∀ q, q < j → S.at k q (rdOf ds q) = true) (¬ (∀ q, q < n → S.at k q (rdOf ds q) = true))) (fun _ i _ => n - (intOf i).toNat)
      case atStart => exact ⟨0, true, rfl, rfl, by omega, HB.out, .inl ⟨rfl, fun q h => absurd h (by omega)⟩⟩
      case round =>
        obtain ⟨j, b, rfl, rfl, hj, hb, hok⟩ := hrel
        have HBx := Lib.hid hb
        have HOk := Lib.hid hok
        have d1 := (HC.out _ hb).cells.2.1
        rw [← HN.out] at d1
        clear hb hok HB
        cases b with
        | false =>
          have HBad : Hid (¬ (∀ q, q < n → S.at k q (rdOf ds q) = true)) := by
            rcases HOk.out with ⟨h, _⟩ | ⟨_, h⟩
            · cases h
            · exact h
          by_cases hjn : j < n
          · go_wp2_with fail
            clear d1
            go_roundw
            case rel => exact ⟨k + 1, by go_num, by omega, HBx.out, fun k' hk' => by
              rcases Nat.lt_or_eq_of_le (Nat.le_of_lt_succ hk') with h1 | h1
              · exact HNo.out k' h1
              · rw [h1]; exact HBad.out⟩
            case measure => simp [intOf]; omega
          · have hjd : decide ((j : Int) < n) = false := decide_eq_false (by omega)
            go_wp2_with fail
            clear d1
            go_roundw
            case rel => exact ⟨k + 1, by go_num, by omega, HBx.out, fun k' hk' => by
              rcases Nat.lt_or_eq_of_le (Nat.le_of_lt_succ hk') with h1 | h1
              · exact HNo.out k' h1
              · rw [h1]; exact HBad.out⟩
            case measure => simp [intOf]; omega
        | true =>
          have HGood : Hid (∀ q, q < j → S.at k q (rdOf ds q) = true) := by
            rcases HOk.out with ⟨_, h⟩ | ⟨h, _⟩
            · exact h
            · cases h
          by_cases hjn : j < n
          · have HStep : Hid (∀ b : Bool, S.at k j (rdOf ds j) = b → OkB b (∀ q, q < j + 1 → S.at k q (rdOf ds q) = true) (¬ (∀ q, q < n → S.at k q (rdOf ds q) = true))) := fun b hb => by
              cases b with
              | true => exact .inl ⟨rfl, fun q hq => by
                  rcases Nat.lt_or_eq_of_le (Nat.le_of_lt_succ hq) with h1 | h1
                  · exact HGood.out q h1
                  · rw [h1]; exact hb⟩
              | false => exact .inr ⟨rfl, fun h => by rw [h j hjn] at hb; cases hb⟩
            by_cases hjm : j < m
            · obtain ⟨d, hd⟩ : ∃ d, ds[j]? = some d := ⟨_, List.getElem?_eq_getElem (by rw [← HM.out]; exact hjm)⟩
              have HE : Hid (rdOf ds j = d) := by unfold Hid rdOf; rw [List.getD_eq_getElem?_getD, hd]; rfl
              obtain ⟨g, off, A1, c1, e1, hcell, hc8⟩ := HR.out _ HBx.out j d hd
              subst e1
              have HDs := Lib.hid (HBy.out d (List.mem_of_getElem? hd))
              have hjd : decide ((j : Int) ≥ m) = false := decide_eq_false (by omega)
              have hjd2 : decide (m ≤ j) = false := decide_eq_false (by omega)
              by_cases hz : d.length = 0
              · have HT := Lib.hid (HStep.out true (by rw [HE.out, List.eq_nil_of_length_eq_zero hz]; simp [Cr.at]))
                obtain ⟨dl, hdl⟩ : ∃ dl, dl = d.length := ⟨_, rfl⟩
                have hz2 : ((dl : Int) == 0) = true := beq_iff_eq.2 (by omega)
                rw [← hdl] at hcell
                clear hc8 hz hd hdl
                go_wp2_with fail
                clear d1
                go_quiet (fail)
                go_wp2_with fail
                go_roundw
                case rel => exact ⟨j + 1, true, by go_num, rfl, by omega, below_drewN0 HBx.out _, HT.out⟩
                case measure => simp [intOf]; omega
              · obtain ⟨dl, hdl⟩ : ∃ dl, dl = d.length := ⟨_, rfl⟩
                have hz2 : ((dl : Int) == 0) = false := beq_eq_false_iff_ne.2 (by omega)
                have HDl := Lib.hid hdl
                rw [← hdl] at hcell hz
                have HRw := Lib.hid ((HC.out _ HBx.out).keep (T := []) ((Turns.refl wr []).drew) (by simp) (nodat_nil wr))
                have hjS : j < S.n := by rw [← HN.out]; exact hjn
                have HAt := Lib.hid (rfAt_any B R X L _ v4 S k j wr.drew HRw.out HCk.out hjS)
                have HLv := Lib.hid (rf_level_ok HRw.out k hjS)
                have HLl := Lib.hid (atL_len HRw.out k j)
                have kc : ∀ t : Kept wr [], (convert 22 9 (.slice A1 dl c1)).run Try.prog t.u = .ok (.string (textOf d)) t.u := fun t => by rw [hdl]; exact conv_text (hc8.keep fun a v h => t.h.cell h (by simp))
                have k1 : ∀ t : Kept wr [], t.u.cell? ⟨g, off + j, none⟩ = some (.slice A1 dl c1) := fun t => t.h.cell hcell (by simp)
                clear hc8 hd hdl hcell hjS
                go_wp2_with fail
                clear d1
                (refine region_kept ([]) [0, 1, 2, 3, 4, 5, 6, 7, 8, 9, 10, 11, 12, 13, 14, 15, 17, 18, 19, 20, 21] [16, 22, 23, 24] (by kernel_rfl) (by kernel_rfl) (fun _ _ _ _ _ h => h) ?_; simp only [List.filterMap_cons, List.getElem?_cons_zero, List.getElem?_cons_succ, List.filterMap_nil]; (repeat ((show wpQuiet _ _ _ _ (_ :: _) _); go_big_quiet_step (fail))); refine wpQuiet_nil ?_)
                clear k1 kc
                have HT : Hid (OkB ((S.atL k j).contains d) (∀ q, q < j + 1 → S.at k q (rdOf ds q) = true) (¬ (∀ q, q < n → S.at k q (rdOf ds q) = true))) := HStep.out _ (by
                  rw [HE.out, at_atL]
                  have h1 := HDl.out
                  cases d with
                  | nil => exact absurd h1 (by simpa using hz)
                  | cons x r => simp)
                obtain ⟨bb, hbb⟩ : ∃ b, (S.atL k j).contains d = b := ⟨_, rfl⟩
                have HCo := Lib.hid hbb
                rw [hbb] at HT
                clear hbb
                refine wpSeqS_step ?_
                go_wp2_with fail
                refine HAt.out.mono ?_
                rintro e w4 ⟨v, rfl, hs, hb⟩
                obtain ⟨A5, c5, rfl, _, _⟩ := hs.shape
                have HB4 : Hid (Below wr.heap.size wr w4) := (Below.refl _ _).drew.trans hb
                have hHs := rfhas_any _ A5 _ c5 (S.atL k j) d w4 hs (by have := HLl.out; omega) (fun t ht => (HLv.out t ht).2) HDs.out
                rw [HCo.out] at hHs
                have HHs := Lib.hid hHs
                generalize (S.atL k j).length = al at *
                clear hs hb hHs HAt
                go_wp2_with fail
                refine outQ_normal (Turns.of_below HB4.out _) ?_
                refine wpSeqS_step ?_
                go_wp2_with fail
                refine HHs.out.mono ?_
                rintro e w5 ⟨rfl, rfl⟩
                clear HHs
                go_wp2_with fail
                refine outQ_normal (Turns.of_below HB4.out _) ?_
                refine wpSeqS_step ?_
                go_wp2_with fail
                refine outQ_normal (Turns.of_below HB4.out _) ?_
                refine wpSeqS_last ?_
                go_wp2
                have HB5 : Hid (Below w.heap.size w w5) := HBx.out.trans (HB4.out.mono HBx.out.size)
                go_roundw
                case rel => exact ⟨j + 1, bb, by go_num, rfl, by omega, HB5.out, HT.out⟩
                case measure => simp [intOf]; omega
            · have hjd : (j : Int) ≥ m := by omega
              have HT := Lib.hid (HStep.out true (by
                have : rdOf ds j = [] := by unfold rdOf; rw [List.getD_eq_getElem?_getD, List.getElem?_eq_none (by rw [← HM.out]; omega)]; rfl
                rw [this]; simp [Cr.at]))
              go_wp2_with fail
              clear d1
              go_quiet (fail)
              go_wp2_with fail
              go_roundw
              case rel => exact ⟨j + 1, true, by go_num, rfl, by omega, below_drewN0 HBx.out _, HT.out⟩
              case measure => simp [intOf]; omega
          · have hjd : decide ((j : Int) < n) = false := decide_eq_false (by omega)
            have HT : Hid (S.may (rdOf ds) = true) := (Cr.may_iff S _).2 ⟨k, HCk.out, fun q hq => HGood.out q (by rw [← HN.out] at hq; omega)⟩
            go_wp2_with fail
            clear d1
            go_ret
            exact ⟨by rw [HT.out]; rfl, HBx.out⟩
    · obtain rfl : k = n3 + 1 := by omega
      have HF : Hid (S.may (rdOf ds) = false) := by
        unfold Hid
        rw [Bool.eq_false_iff]
        intro hm
        obtain ⟨k, hk, h1⟩ := (Cr.may_iff S _).1 hm
        exact HNo.out k (by have := HN3.out; omega) (fun q hq => h1 q (by rw [← HN.out]; exact hq))
      go_wp2
      go_ret
      exact ⟨by rw [HF.out]; rfl, HB.out⟩
end Go.Proofs.Ytomigaldomiefaa
