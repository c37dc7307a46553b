/- CrashMore: its walk, within its bounds. -/
import Derived.Test.YtomigaldomiefaaCrMore
import Derived.Test.YtomigaldomiefaaCrWholeP
namespace Go.Proofs.Ytomigaldomiefaa
open Go.RowKit Go.Shelf Go.MapKept Go.ChangeMaps
attribute [local go_sem] Oper.semAt_some
attribute [local simp, local go_sem] wide_fn
set_option linter.unusedVariables false
set_option linter.unusedSimpArgs false

theorem writes_below {w w' : World} {A : Option Addr} {its : List Ws} (h : Writes w A its) (hb : Below w.heap.size w w') : Writes w' A its := h.keep (keep_below hb)
set_option maxRecDepth 100000 in
set_option maxHeartbeats 8000000 in
theorem more_walk (A1 A2 A3 A4 : Option Addr) (c1 c2 c3 c4 : Nat) (its its3 : List Ws) (gss : List Gs) (ds : List (List Nat)) (q : Int) (hl1 : its.length ≤ 60) (hl2 : gss.length ≤ 6) (hl3 : its3.length ≤ 30) (hl4 : ds.length ≤ 40) (hb8 : ∀ d ∈ ds, ∀ u ∈ d, u < 256)
    (w : World) (hW1 : Writes w A1 its) (hG : ArgG w A2 gss) (hW3 : Writes w A3 its3) (hD : RdsAt w A4 ds) :
    Calls Try.prog 6 #[.slice A1 its.length c1, .slice A2 gss.length c2, .slice A3 its3.length c3, .int .i64 q, .slice A4 ds.length c4] w fun e w' => e = .returned (.bool true) ∧ Below w.heap.size w w' := by
  obtain ⟨n1, hn1⟩ : ∃ n, n = its.length := ⟨_, rfl⟩
  obtain ⟨n2, hn2⟩ : ∃ n, n = gss.length := ⟨_, rfl⟩
  obtain ⟨n3, hn3⟩ : ∃ n, n = its3.length := ⟨_, rfl⟩
  obtain ⟨n4, hn4⟩ : ∃ n, n = ds.length := ⟨_, rfl⟩
  have HN := Lib.hid (And.intro hn1 (And.intro hn2 (And.intro hn3 hn4)))
  rw [← hn1, ← hn2, ← hn3, ← hn4]
  rw [← hn1] at hl1
  rw [← hn2] at hl2
  rw [← hn3] at hl3
  rw [← hn4] at hl4
  have HW1 := Lib.hid hW1
  have HG := Lib.hid hG
  have HW3 := Lib.hid hW3
  have HD := Lib.hid hD
  have H8 := Lib.hid hb8
  have p1 : ¬ (60 : Int) < n1 := by omega
  have p2 : ¬ (6 : Int) < n2 := by omega
  have p3 : ¬ (30 : Int) < n3 := by omega
  have p4 : ¬ (40 : Int) < n4 := by omega
  clear hn1 hn2 hn3 hn4 hW1 hG hW3 hD hb8
  go_enter Try.func6, Try.ntmps6
  go_wp2_with fail
  refine (known_any w).mono ?_
  rintro e w2 ⟨rfl, hb⟩
  have HB2 := Lib.hid hb
  clear hb
  go_wp2_with fail
  go_loopw [11] (fun i wr => ∃ k : Nat, i = .int .i64 k ∧ k ≤ n2 ∧ (∀ (j : Nat) (g : Gs), j < k → gss[j]? = some g → g.its.length ≤ 30) ∧ wr = w2) (fun i _ => n2 - (intOf i).toNat)
  case atStart => exact ⟨0, rfl, by omega, by omega, rfl⟩
  case round =>
    obtain ⟨k, rfl, hk, hgs, rfl⟩ := hrel
    have HGs := Lib.hid hgs
    clear hgs
    by_cases hkn : k < n2
    · obtain ⟨g, hg⟩ : ∃ g, gss[k]? = some g := ⟨_, List.getElem?_eq_getElem (by rw [← HN.out.2.1]; exact hkn)⟩
      obtain ⟨⟨b, off, e1, hcell⟩, _⟩ := HG.out.at0 k g hg
      subst e1
      have hc := keep_below HB2.out _ _ hcell
      have HGk := Lib.hid hg
      obtain ⟨gA, gc, gi⟩ := g
      simp only at hc
      by_cases h30 : 30 < gi.length
      · have h30' : (30 : Int) < gi.length := by omega
        clear hcell hg
        generalize gi.length = gl at *
        go_wp2
        go_ret
        exact ⟨rfl, HB2.out⟩
      · have h30' : ¬ (30 : Int) < gi.length := by omega
        have HGi : Hid (gi.length ≤ 30) := by unfold Hid; omega
        obtain ⟨gl, hgl⟩ : ∃ gl, gl = gi.length := ⟨_, rfl⟩
        rw [← hgl] at hc h30'
        clear hcell hg hgl h30
        go_wp2
        go_roundw
        case rel => exact ⟨k + 1, by go_num, by omega, fun j g hj hg => by
          by_cases e : j = k
          · subst e
            rw [HGk.out] at hg; injection hg with hg; subst hg
            exact HGi.out
          · exact HGs.out j g (by omega) hg, trivial⟩
        case measure => simp [intOf]; omega
    · obtain rfl : k = n2 := by omega
      have HNw := Lib.hid (New_yes 4 2 (by decide) (by decide) wr)
      go_wp2_with fail
      refine HNw.out.mono ?_
      rintro e w3 ⟨C, H, L, rfl, hca, hb⟩
      have HB3 : Hid (Below w.heap.size w w3) := HB2.out.trans (hb.mono HB2.out.size)
      have HCa := Lib.hid hca
      have HNw2 := Lib.hid (New_yes 4 2 (by decide) (by decide) w3)
      clear hb hca HNw
      go_wp2_with fail
      refine HNw2.out.mono ?_
      rintro e w4 ⟨C', H', L', rfl, hcb, hb⟩
      have HB4 : Hid (Below w.heap.size w w4) := HB3.out.trans (hb.mono HB3.out.size)
      have HT4 : Hid (TwoIs w4 wr.heap.size C H L w3.heap.size C' H' L' (cr0 4 2) (cr0 4 2)) :=
        ⟨⟨_, _, HCa.out.below hb⟩, ⟨_, _, hcb⟩, ⟨HCa.out.row.lt, HCa.out.has.lt, HCa.out.loose.lt⟩⟩
      have HLo : Hid ((w.heap.size ≤ C ∧ w.heap.size ≤ H ∧ w.heap.size ≤ L) ∧ (w.heap.size ≤ C' ∧ w.heap.size ≤ H' ∧ w.heap.size ≤ L')) := by
        have h1 := HCa.out.low
        have h2 := hcb.low
        have h3 := HB2.out.size
        have h4 := HB3.out.size
        unfold Hid; omega
      clear hb hcb HNw2 HCa
      have HGall : Hid (∀ g ∈ gss, g.its.length ≤ 1048576) := fun g hg => by
        obtain ⟨i, hi⟩ := List.mem_iff_getElem?.1 hg
        have := HGs.out i g (by rw [HN.out.2.1]; exact (List.getElem?_eq_some_iff.1 hi).1) hi
        omega
      obtain ⟨D, hDe⟩ : ∃ D, D = (cr0 4 2).durable (rightL 4 2 its) := ⟨_, rfl⟩
      have HDf : Hid (D.n = 4 ∧ D.sz = 2 ∧ D.groups = [] ∧ D.fly = [] ∧ ∀ p, D.loose p = false) := by
        obtain ⟨h1, h2, h3, h4⟩ := durable_same (rightL 4 2 its) (cr0 4 2)
        rw [← hDe] at h1 h2 h3 h4
        exact ⟨h1, h2, h3, h4, by rw [hDe]; exact durable_loose _ _ (fun _ => rfl)⟩
      -- a.Durable
      obtain ⟨x4, x5, hx⟩ := HT4.out.a
      have HC1 := Lib.hid (Durable_any hx A1 c1 its (by rw [← HN.out.1]; omega) (HW1.out.keep (keep_below HB4.out)))
      rw [← HN.out.1, show (cr0 4 2).durable (rightL (cr0 4 2).n (cr0 4 2).sz its) = D from hDe.symm] at HC1
      have HDe := Lib.hid hDe
      clear hx hDe HGs
      go_wp2_with fail
      refine HC1.out.mono ?_
      rintro e w5 ⟨⟨_, rfl⟩, hc, ht⟩
      have HT5 := Lib.hid (HT4.out.turnA (turns_sub ht (by simp)) ⟨_, _, hc⟩)
      have HB5 : Hid (Below w.heap.size w w5) := ht.below HB4.out HB4.out.size (by have := HLo.out; simp; omega)
      clear hc ht HC1 HT4
      -- b.Durable
      obtain ⟨x4, x5, hx⟩ := HT5.out.b
      have HC1 := Lib.hid (Durable_any hx A1 c1 its (by rw [← HN.out.1]; omega) (HW1.out.keep (keep_below HB5.out)))
      rw [← HN.out.1, show (cr0 4 2).durable (rightL (cr0 4 2).n (cr0 4 2).sz its) = D from HDe.out.symm] at HC1
      clear hx
      go_wp2_with fail
      refine HC1.out.mono ?_
      rintro e w6 ⟨⟨_, rfl⟩, hc, ht⟩
      have HT6 := Lib.hid (HT5.out.turnB (turns_sub ht (by simp)) ⟨_, _, hc⟩)
      have HB6 : Hid (Below w.heap.size w w6) := ht.below HB5.out HB5.out.size (by have := HLo.out; simp; omega)
      clear hc ht HC1 HT5
      -- a.Cached
      obtain ⟨E, hE⟩ : ∃ E, E = { D with groups := rightG D.n D.sz gss } := ⟨_, rfl⟩
      have HE := Lib.hid hE
      obtain ⟨x4, x5, hx⟩ := HT6.out.a
      have HC1 := Lib.hid (Cached_any hx A2 c2 gss (by rw [← HN.out.2.1]; omega) HGall.out (fun wr' ht => HG.out.keep (keep_below (ht.below HB6.out HB6.out.size (by have := HLo.out; simp; omega)))))
      rw [← HN.out.2.1, ← hE] at HC1
      clear hx hE
      go_wp2_with fail
      refine HC1.out.mono ?_
      rintro e w7 ⟨⟨_, rfl⟩, ⟨_, hc⟩, ht⟩
      have HT7 := Lib.hid (HT6.out.turnA (turns_sub ht (by simp)) ⟨_, _, hc⟩)
      have HB7 : Hid (Below w.heap.size w w7) := ht.below HB6.out HB6.out.size (by have := HLo.out; simp; omega)
      clear hc ht HC1 HT6
      -- b.Cached
      obtain ⟨x4, x5, hx⟩ := HT7.out.b
      have HC1 := Lib.hid (Cached_any hx A2 c2 gss (by rw [← HN.out.2.1]; omega) HGall.out (fun wr' ht => HG.out.keep (keep_below (ht.below HB7.out HB7.out.size (by have := HLo.out; simp; omega)))))
      rw [← HN.out.2.1, ← HE.out] at HC1
      clear hx
      go_wp2_with fail
      refine HC1.out.mono ?_
      rintro e w8 ⟨⟨_, rfl⟩, ⟨_, hc⟩, ht⟩
      have HT8 := Lib.hid (HT7.out.turnB (turns_sub ht (by simp)) ⟨_, _, hc⟩)
      have HB8 : Hid (Below w.heap.size w w8) := ht.below HB7.out HB7.out.size (by have := HLo.out; simp; omega)
      clear hc ht HC1 HT7
      -- b.Flight
      obtain ⟨F, hF⟩ : ∃ F, F = { E with fly := rightL E.n E.sz its3 } := ⟨_, rfl⟩
      have HF := Lib.hid hF
      obtain ⟨x4, x5, hx⟩ := HT8.out.b
      have HC1 := Lib.hid (Flight_any hx A3 c3 its3 (by rw [← HN.out.2.2.1]; omega) (HW3.out.keep (keep_below HB8.out)))
      rw [← HN.out.2.2.1, ← hF] at HC1
      clear hx hF
      go_wp2_with fail
      refine HC1.out.mono ?_
      rintro e w9 ⟨⟨_, rfl⟩, ⟨_, hc⟩, ht⟩
      have HT9 := Lib.hid (HT8.out.turnB (turns_sub ht (by simp)) ⟨_, _, hc⟩)
      have HB9 : Hid (Below w.heap.size w w9) := ht.below HB8.out HB8.out.size (by have := HLo.out; simp; omega)
      clear hc ht HC1 HT8
      -- b.Loose
      obtain ⟨M, hM⟩ : ∃ M, M = { F with loose := fun p => F.loose p || (decide (0 ≤ q ∧ q < F.n) && decide (p = q.toNat)) } := ⟨_, rfl⟩
      have HM := Lib.hid hM
      obtain ⟨x4, x5, hx⟩ := HT9.out.b
      have HC1 := Lib.hid (Loose_any hx q)
      rw [← hM] at HC1
      clear hx hM
      go_wp2_with fail
      refine HC1.out.mono ?_
      rintro e wa ⟨⟨_, rfl⟩, hc, ht⟩
      have HTa := Lib.hid (HT9.out.turnB (turns_sub ht (by simp)) ⟨_, _, hc⟩)
      have HBa : Hid (Below w.heap.size w wa) := ht.below HB9.out HB9.out.size (by have := HLo.out; simp; omega)
      clear hc ht HC1 HT9
      have HMore : Hid (AsMore E M) := by
        unfold Hid
        rw [HM.out, HF.out]
        exact ⟨rfl, rfl, rfl, rfl, by rw [HE.out]; exact HDf.out.2.2.2.1, by rw [HE.out]; exact HDf.out.2.2.2.2⟩
      have HEn : Hid (E.n = 4 ∧ M.n = 4) := by
        refine ⟨by rw [HE.out]; exact HDf.out.1, by rw [HM.out, HF.out, HE.out]; exact HDf.out.1⟩
      have HRa := Lib.hid (reader_any A4 n4 c4 wa)
      go_wp2_with fail
      refine HRa.out.mono ?_
      rintro e wb ⟨rfl, hwb⟩
      have HBb : Hid (Below wa.heap.size wa wb) := by unfold Hid; rw [hwb]; exact (Below.refl _ _).alloc (Nat.le_refl _) _
      have HRb : Hid (Row wb wa.heap.size 37 #[.slice A4 n4 c4]) := by unfold Hid; rw [hwb]; exact Row.fresh _ _ _
      have HBwb : Hid (Below w.heap.size w wb) := HBa.out.trans (HBb.out.mono HBa.out.size)
      obtain ⟨x4, x5, hx⟩ := (HTa.out.below HBb.out).a
      have hMa := May_any wr.heap.size C H L x4 x5 E [] _ _ (rdOf ds) wb (reader_ok wa.heap.size c4 E.n (by rw [HEn.out.1]; omega) A4 ds (by rw [← HN.out.2.2.2]; omega) H8.out [] wb (fun V hV => ⟨by rw [← HN.out.2.2.2]; exact (hV.row HRb.out (by simp)).cell 0, (HD.out.keep (keep_below HBwb.out)).keep fun a v h => hV.cell h (by simp)⟩)) hx
      clear hwb hx HRa
      have HMm := Lib.hid (more_may HMore.out (rdOf ds))
      cases hma : E.may (rdOf ds) with
      | false =>
        rw [hma] at hMa
        have HMa := Lib.hid hMa
        clear hma hMa HMm
        go_wp2_with fail
        refine HMa.out.mono ?_
        rintro e wc ⟨rfl, hb⟩
        have HBc : Hid (Below wa.heap.size wa wc) := HBb.out.trans (hb.mono HBb.out.size)
        clear hb HMa
        go_wp2_with fail
        go_loopw [16] (fun i wx => ∃ k : Nat, i = .int .i64 k ∧ k ≤ 4 ∧ Below wa.heap.size wa wx) (fun i _ => 4 - (intOf i).toNat)
        case atStart => exact ⟨0, rfl, by omega, HBc.out⟩
        case round =>
          obtain ⟨j, rfl, hj, hbx⟩ := hrel
          have HBx := Lib.hid hbx
          clear hbx
          by_cases hj4 : j < 4
          · have HWi := Lib.hid (within_any _ C H L _ C' H' L' E M j (by rw [HEn.out.1]; exact hj4) (by rw [HEn.out.2]; exact hj4) _ (HTa.out.below HBx.out) (fun x hx => by rw [HMore.out.groups]; exact more_vals HMore.out j _ x hx))
            go_wp2_with fail
            refine HWi.out.mono ?_
            rintro e wy ⟨rfl, hby⟩
            have HBy := Lib.hid (HBx.out.trans (hby.mono HBx.out.size))
            clear hby HWi
            go_wp2
            go_roundw
            case rel => exact ⟨j + 1, by go_num, by omega, HBy.out⟩
            case measure => simp [intOf]; omega
          · obtain rfl : j = 4 := by omega
            go_wp2
            go_ret
            exact ⟨rfl, HBa.out.trans (HBx.out.mono HBa.out.size)⟩
      | true =>
        rw [hma] at hMa
        have HMa := Lib.hid hMa
        have HMt : Hid (M.may (rdOf ds) = true) := HMm.out hma
        clear hma hMa HMm
        go_wp2_with fail
        refine HMa.out.mono ?_
        rintro e wc ⟨rfl, hb⟩
        have HBc : Hid (Below wa.heap.size wa wc) := HBb.out.trans (hb.mono HBb.out.size)
        clear hb HMa
        have HRa := Lib.hid (reader_any A4 n4 c4 wc)
        go_wp2_with fail
        refine HRa.out.mono ?_
        rintro e wd ⟨rfl, hwb⟩
        have HBd : Hid (Below wc.heap.size wc wd) := by unfold Hid; rw [hwb]; exact (Below.refl _ _).alloc (Nat.le_refl _) _
        have HRd : Hid (Row wd wc.heap.size 37 #[.slice A4 n4 c4]) := by unfold Hid; rw [hwb]; exact Row.fresh _ _ _
        have HBad : Hid (Below wa.heap.size wa wd) := HBc.out.trans (HBd.out.mono HBc.out.size)
        have HBwd : Hid (Below w.heap.size w wd) := HBa.out.trans (HBad.out.mono HBa.out.size)
        obtain ⟨y4, y5, hy⟩ := (HTa.out.below HBad.out).b
        have hMb := May_any w3.heap.size C' H' L' y4 y5 M [] _ _ (rdOf ds) wd (reader_ok wc.heap.size c4 M.n (by rw [HEn.out.2]; omega) A4 ds (by rw [← HN.out.2.2.2]; omega) H8.out [] wd (fun V hV => ⟨by rw [← HN.out.2.2.2]; exact (hV.row HRd.out (by simp)).cell 0, (HD.out.keep (keep_below HBwd.out)).keep fun a v h => hV.cell h (by simp)⟩)) hy
        rw [HMt.out] at hMb
        have HMb := Lib.hid hMb
        clear hMb hy hwb HRa HBc
        go_wp2_with fail
        refine HMb.out.mono ?_
        rintro e wf ⟨rfl, hb⟩
        have HBc : Hid (Below wa.heap.size wa wf) := HBad.out.trans (hb.mono HBad.out.size)
        clear hb HMb
        go_wp2_with fail
        go_loopw [16] (fun i wx => ∃ k : Nat, i = .int .i64 k ∧ k ≤ 4 ∧ Below wa.heap.size wa wx) (fun i _ => 4 - (intOf i).toNat)
        case atStart => exact ⟨0, rfl, by omega, HBc.out⟩
        case round =>
          obtain ⟨j, rfl, hj, hbx⟩ := hrel
          have HBx := Lib.hid hbx
          clear hbx
          by_cases hj4 : j < 4
          · have HWi := Lib.hid (within_any _ C H L _ C' H' L' E M j (by rw [HEn.out.1]; exact hj4) (by rw [HEn.out.2]; exact hj4) _ (HTa.out.below HBx.out) (fun x hx => by rw [HMore.out.groups]; exact more_vals HMore.out j _ x hx))
            go_wp2_with fail
            refine HWi.out.mono ?_
            rintro e wy ⟨rfl, hby⟩
            have HBy := Lib.hid (HBx.out.trans (hby.mono HBx.out.size))
            clear hby HWi
            go_wp2
            go_roundw
            case rel => exact ⟨j + 1, by go_num, by omega, HBy.out⟩
            case measure => simp [intOf]; omega
          · obtain rfl : j = 4 := by omega
            go_wp2
            go_ret
            exact ⟨rfl, HBa.out.trans (HBx.out.mono HBa.out.size)⟩
end Go.Proofs.Ytomigaldomiefaa
