/- What follows is laid together from several texts of mine, in their order. -/
import Derived.Test.YtomigaldomiefaaQ12
import Derived.Test.YtomigaldomiefaaQ11
import Derived.Test.YtomigaldomiefaaQ6

namespace Go.Proofs.Ytomigaldomiefaa
open Go.RowKit Go.MapKept Go.ChangeMaps Go.Sort Go.Shelf
open Go.Maps (Keyed)
attribute [local go_sem] Oper.semAt_some
attribute [local simp, local go_sem] wide_fn
set_option linter.unusedVariables false
set_option linter.unusedSimpArgs false

theorem stringKeyed : Keyed Try.prog 9 := Go.Maps.string_keyed Try.underlying9
theorem seenS_under : Try.prog.underlying 78 = some (.map 9 4) := Try.underlying78
theorem textOf_size (d : List Nat) : (textOf d).size = d.length := by
  have := congrArg List.length (textOf_data d)
  rw [List.length_map] at this
  rw [← this]; rfl
theorem text_key {d : List Nat} (h : d.length ≤ 65536) : keyOf Try.prog 9 (.string (textOf d)) = some (.string (d.map UInt8.ofNat)) := by
  rw [Go.WideMaps.keyOf_string_mk Try.underlying9 (by rw [textOf_size]; unfold maxLen; omega), textOf_data]
/-- Texts that lie in bounds. -/
def OkT (d : List Nat) : Prop := d.length ≤ 65536 ∧ ∀ u ∈ d, u < 256
/-- Texts that were seen, as a map. -/
def SeenS (w : World) (Q : Nat) (L : List (List Nat)) : Prop :=
  (∃ n f, MapIs Try.prog 9 w Q n f ∧ ∀ key v, f key = some v ↔ ∃ d, d ∈ L ∧ key = .string (textOf d) ∧ v = .bool true) ∧ ∀ d ∈ L, OkT d
section
variable {w w' : World} {Q : Nat} {L : List (List Nat)}
theorem SeenS.lt (h : SeenS w Q L) : Q < w.heap.size := by obtain ⟨⟨n, f, h, _⟩, _⟩ := h; exact h.lt
theorem SeenS.turns {T : List Nat} (h : SeenS w Q L) (ht : Turns w w' T) (hb : Q ∉ T) : SeenS w' Q L := by obtain ⟨⟨n, f, h, h2⟩, h3⟩ := h; exact ⟨⟨n, f, h.turns ht hb, h2⟩, h3⟩
theorem SeenS.kpc {T : List Nat} (h : SeenS w Q L) (hk : KpC T w w') (hb : Q ∉ T) : SeenS w' Q L := by
  obtain ⟨⟨n, f, ⟨es, clock, h1, h1'⟩, h2⟩, h3⟩ := h
  exact ⟨⟨n, f, ⟨es, clock, hk.same Q _ hb h1 rfl, h1'⟩, h2⟩, h3⟩
theorem SeenS.block (h : SeenS w Q L) (hb : w'.heap[Q]? = w.heap[Q]?) : SeenS w' Q L := by
  obtain ⟨⟨n, f, ⟨es, clock, h1, h1'⟩, h2⟩, h3⟩ := h
  exact ⟨⟨n, f, ⟨es, clock, hb.trans h1, h1'⟩, h2⟩, h3⟩
theorem SeenS.not_row (h : SeenS w Q L) (t : TypeId) (cs : Array Value) : ¬ Row w Q t cs := by
  obtain ⟨⟨n, f, ⟨es, clock, hb, _⟩, _⟩, _⟩ := h
  intro hr
  unfold Row at hr
  rw [hr] at hb; cases hb
theorem SeenS.fresh (w : World) : SeenS (w.alloc (.map #[] 0)) w.heap.size [] := ⟨⟨_, _, MapIs.fresh _ _ w, by simp⟩, by simp⟩
theorem SeenS.same {L' : List (List Nat)} (h : SeenS w Q L) (hL : ∀ d, d ∈ L' ↔ d ∈ L) : SeenS w Q L' := by
  obtain ⟨⟨n, f, h1, h2⟩, h3⟩ := h
  exact ⟨⟨n, f, h1, fun key v => by rw [h2]; simp only [hL]⟩, fun d hd => h3 d ((hL d).1 hd)⟩
theorem SeenS.set (h : SeenS w Q L) {d : List Nat} (hd : OkT d) :
    ∃ w', (Instr.mapUpdate 78 (.map (some Q)) (.string (textOf d)) (.bool true)).run Try.prog w = .ok () w' ∧ SeenS w' Q (L ++ [d]) ∧ Turns w w' [Q] := by
  obtain ⟨⟨n, f, h, h2⟩, h3⟩ := h
  obtain ⟨w', hr, hm, hg⟩ := h.update (val := .bool true) stringKeyed seenS_under (text_key hd.1)
  refine ⟨w', hr, ⟨⟨_, _, hm, fun key v => ?_⟩, fun x hx => ?_⟩, Turns.of_grown hg⟩
  · by_cases he : key = .string (textOf d)
    · subst he
      rw [updK_same]
      constructor
      · rintro h; injection h with h; exact ⟨d, by simp, rfl, h.symm⟩
      · rintro ⟨k', _, _, rfl⟩; rfl
    · rw [updK_ne _ _ _ he, h2]
      constructor
      · rintro ⟨k', h1, h4, h5⟩
        exact ⟨k', by simp [h1], h4, h5⟩
      · rintro ⟨k', h1, rfl, h5⟩
        rcases List.mem_append.1 h1 with h1 | h1
        · exact ⟨k', h1, rfl, h5⟩
        · exact absurd (by rw [List.mem_singleton.1 h1]) he
  · rcases List.mem_append.1 hx with hx | hx
    · exact h3 x hx
    · rw [List.mem_singleton.1 hx]; exact hd
theorem SeenS.look (h : SeenS w Q L) {d : List Nat} (hd : OkT d) : (Instr.lookup 78 (.map (some Q)) (.string (textOf d)) false).run Try.prog w = .ok (.bool (L.contains d)) w := by
  obtain ⟨⟨n, f, h, h2⟩, h3⟩ := h
  rw [(h.look stringKeyed seenS_under (zero_bool w) (text_key hd.1)).1]
  cases hb : L.contains d with
  | true => rw [(h2 (.string (textOf d)) (.bool true)).2 ⟨d, List.contains_iff_mem.1 hb, rfl, rfl⟩]; rfl
  | false =>
    cases hf : f (.string (textOf d)) with
    | none => rfl
    | some v =>
      obtain ⟨d', h4, h5, _⟩ := (h2 _ _).1 hf
      injection h5 with h5
      obtain rfl := textOf_inj hd.2 (h3 d' h4).2 h5
      rw [List.contains_iff_mem.2 h4] at hb; cases hb
end
abbrev bytesOf (d : List Nat) : List UInt8 := d.map UInt8.ofNat
theorem encStr_bytes (d : List Nat) : encStr (bytesOf d) = .string (textOf d) := by
  have : (⟨(bytesOf d).toArray⟩ : ByteArray) = textOf d := ByteArray.ext (Array.toList_inj.1 (by rw [textOf_data]))
  show Value.string _ = _
  rw [this]
set_option maxRecDepth 100000 in
theorem SeenS.owned {w : World} {Q : Nat} {L : List (List Nat)} (h : SeenS w Q L) (hn : L.length ≤ 8796093022208) :
    ∃ (nn : Nat) (D0 : DataW Unit), w.ownsMap Try.prog 9 (fun _ => some (.nil, [])) Q nn D0 ∧ Maps.size D0 ≤ L.length ∧ (strKeys D0).Nodup ∧ ∀ x, x ∈ strKeys D0 ↔ ∃ d, d ∈ L ∧ x = bytesOf d := by
  obtain ⟨⟨n, f, ⟨es, clock, hb, hs, hsz, hk, hf⟩, h2⟩, h3⟩ := h
  have hkey : ∀ x ∈ es.toList, ∃ d, d ∈ L ∧ x.key = .string (textOf d) := fun x hx => by
    obtain ⟨d, h4, h5, _⟩ := (h2 x.key x.val).1 ((hf _ _).2 ⟨x, hx, rfl, rfl⟩)
    exact ⟨d, h4, h5⟩
  have hnd : (es.toList.map (·.key)).Pairwise (· ≠ ·) := List.pairwise_map.2 ((stamped_iff es clock).1 hs).2.2
  have hle : es.size ≤ L.length := by
    have := nodup_le (l := es.toList.map (·.key)) (m := L.map fun d => Value.string (textOf d)) hnd (fun y hy => by
      obtain ⟨x, hx, rfl⟩ := List.mem_map.1 hy
      obtain ⟨d, h4, h5⟩ := hkey x hx
      exact List.mem_map.2 ⟨d, h4, h5.symm⟩)
    simpa using this
  have hF : WideElems.Fit (H := Unit) Try.prog 9 (fun _ => some (.nil, [])) es clock := ⟨by unfold maxLen; omega, hs, fun x hx => by
    obtain ⟨l, hl⟩ := hk x hx
    exact ⟨(l, .nil), by unfold WideElems.rd; rw [hl]; rfl⟩⟩
  refine ⟨es.size, _, ⟨es, clock, hb, hF, Nat.le_refl _, rfl⟩, ?_, ?_⟩
  · exact Nat.le_trans (World.ownsMap.size_le ⟨es, clock, hb, hF, Nat.le_refl _, rfl⟩) hle
  · have hrg : ∀ x ∈ es.toList, ∀ d, d ∈ L → x.key = .string (textOf d) → strOf (WideElems.rg (H := Unit) Try.prog 9 (fun _ => some (.nil, [])) x).1 = bytesOf d := fun x hx d hd hkk => by
      have e : WideElems.rd (H := Unit) Try.prog 9 (fun _ => some (.nil, [])) x = some (.string (bytesOf d), .nil) := by
        unfold WideElems.rd; rw [hkk, text_key (h3 d hd).1]; rfl
      rw [WideElems.rg_of e]; rfl
    have hp1 := (Go.WideShapes.sorted_perm (es.toList.map (WideElems.rg (H := Unit) Try.prog 9 (fun _ => some (.nil, []))))).map fun p => strOf p.1
    have hp2 : ((es.toList.map (WideElems.rg (H := Unit) Try.prog 9 (fun _ => some (.nil, [])))).map fun p => strOf p.1).Nodup := by
      rw [List.map_map]
      refine List.pairwise_map.2 (((stamped_iff es clock).1 hs).2.2.imp_of_mem fun {x z} hx hz hne e => hne ?_)
      obtain ⟨d1, h4, e1⟩ := hkey x hx
      obtain ⟨d3, h5, e3⟩ := hkey z hz
      have a1 := hrg x hx d1 h4 e1
      have a3 := hrg z hz d3 h5 e3
      simp only [Function.comp_apply] at e
      rw [a1, a3] at e
      rw [e1, e3, ← encStr_bytes, ← encStr_bytes, e]
    refine ⟨hp1.nodup_iff.2 hp2, fun x => ?_⟩
    refine hp1.mem_iff.trans ?_
    rw [List.map_map, List.mem_map]
    constructor
    · rintro ⟨y, hy, rfl⟩
      obtain ⟨d, h4, e1⟩ := hkey y hy
      exact ⟨d, h4, hrg y hy d h4 e1⟩
    · rintro ⟨d, h4, rfl⟩
      obtain ⟨y, hy, e1, _⟩ := (hf _ _).1 ((h2 (.string (textOf d)) (.bool true)).2 ⟨d, h4, rfl, rfl⟩)
      exact ⟨y, hy, hrg y hy d h4 e1⟩
theorem sortsS (m : Nat) : AnyZ.SortsIn Try.prog Try.sortedS_ren Fence.wide m :=
  ⟨fun blk off cap ss W hH hblk hsz => callsIn_wide.2 (AnyM.slices_Sort_string Try.sortS blk off cap ss W hH hblk hsz),
   fun p cap W => callsIn_wide.2 (AnyM.slices_Sort_string_none Try.sortS p cap W)⟩
theorem keysS_any (mb : Option Nat) (W : World) : Calls Try.prog 45 #[.map mb] W fun e w' => e = .returned (.func (.func 62) #[] #[.pointer (some ⟨W.heap.size, 0, none⟩)]) ∧ w' = W.alloc (.cells #[.map mb] 78) :=
  (callsIn_wide (n := 5)).1 (AnyZ.keys_in Try.keysS Fence.wide 5 trivial rfl mb W)
/-- A list of bytes back as numbers. -/
abbrev numsOf (x : List UInt8) : List Nat := x.map UInt8.toNat
theorem nums_bytes {d : List Nat} (h : ∀ u ∈ d, u < 256) : numsOf (bytesOf d) = d := by
  unfold numsOf bytesOf
  rw [List.map_map]
  conv => rhs; rw [← List.map_id d]
  exact List.map_congr_left fun u hu => by
    have := h u hu
    show (UInt8.ofNat u).toNat = u
    rw [UInt8.toNat_ofNat']; omega
/-- Sorted, no text twice. -/
def SortN (vs : List (List Nat)) : Prop := vs.Nodup ∧ vs.Pairwise fun d e => bytesOf d ≤ bytesOf e
set_option maxHeartbeats 1000000 in
theorem sortedS_any {Q : Nat} {L : List (List Nat)} (w : World) (h : SeenS w Q L) (hn : L.length ≤ 8796093022208) :
    Calls Try.prog 44 #[.func (.func 62) #[] #[.pointer (some ⟨w.heap.size, 0, none⟩)]] (w.alloc (.cells #[.map (some Q)] 78)) fun e w' => ∃ (v : Value) (vs : List (List Nat)), e = .returned v ∧
      w'.ownsRow (w.heap.size + 1) 9 1 v vs.length (vs.map fun d => .string (textOf d)) ∧ SortN vs ∧ (∀ d, d ∈ vs ↔ d ∈ L) ∧ vs.length ≤ L.length ∧ Below (w.heap.size + 1) (w.alloc (.cells #[.map (some Q)] 78)) w' := by
  have hok := h.2
  obtain ⟨nn, D0, hown, hsz, hp, hm⟩ := h.owned hn
  have hbl := h.lt
  have hseq : SeqGives Fence.wide 2 Try.prog 62 #[.pointer (some ⟨w.heap.size, 0, none⟩)] encStr (fun ss => ss.Perm (strKeys D0)) (Maps.size D0) (w.alloc (.cells #[.map (some Q)] 78)) :=
    AnyZ.keys_gives (ρ := Try.keysS_ren) { Try.keysS with } Fence.wide _ trivial rfl (by omega) w.heap.size Q nn D0 _ (by simp) (by simp) (by
      obtain ⟨es, clock, hb, Ft, hs, hD⟩ := hown
      exact ⟨es, clock, (Below.heap_alloc _ _ Q hbl).trans hb, Ft, hs, hD⟩)
  have cS := AnyZ.sorted_in Try.sortedS Fence.wide 5 trivial trivial trivial trivial rfl (by omega) (sortsS _) (enters_of Try.func61 (by kernel_rfl) rfl) 62 #[.pointer (some ⟨w.heap.size, 0, none⟩)] trivial (enters_of Try.func62 (by kernel_rfl) rfl) _ _ (by unfold maxLen; omega) (by omega) _ hseq
  change CallsIn _ _ Try.prog 44 _ _ _ at cS
  refine ((callsIn_wide (n := 5)).1 cS).mono ?_
  rintro e w' ⟨v, ss, rfl, hS, hrow, _, hb⟩
  rw [World.size_alloc] at hrow hb
  obtain ⟨sl, hsl⟩ : ∃ sl, sl = ss.mergeSort (fun x y => decide (x ≤ y)) := ⟨_, rfl⟩
  have hpm : sl.Perm (strKeys D0) := by rw [hsl]; exact (List.mergeSort_perm _ _).trans hS
  have hmem : ∀ x, x ∈ sl ↔ ∃ d, d ∈ L ∧ x = bytesOf d := fun x => hpm.mem_iff.trans (hm x)
  rw [← hsl, show ss.length = sl.length by rw [hsl, List.length_mergeSort]] at hrow
  have hnb : ∀ x ∈ sl, bytesOf (numsOf x) = x := fun x hx => by
    obtain ⟨d, hd, rfl⟩ := (hmem x).1 hx
    rw [nums_bytes (hok d hd).2]
  refine ⟨v, sl.map numsOf, rfl, ?_, ?_, fun d => ?_, ?_, hb⟩
  · have e1 : (sl.map numsOf).map (fun d => Value.string (textOf d)) = sl.map encStr := by
      rw [List.map_map]
      exact List.map_congr_left fun x hx => by
        show Value.string (textOf (numsOf x)) = _
        rw [← encStr_bytes, hnb x hx]
    rw [e1, List.length_map]; exact hrow
  · have hso : sl.Pairwise fun x y => x ≤ y := by
      have h1 := List.pairwise_mergeSort (le := fun x y : List UInt8 => decide (x ≤ y)) (fun a b c h1 h2 => by simp only [decide_eq_true_eq] at *; exact List.le_trans h1 h2) (fun a b => by simp only [Bool.or_eq_true, decide_eq_true_eq]; exact List.le_total a b) ss
      rw [← hsl] at h1
      exact h1.imp (fun h => of_decide_eq_true h)
    have h1 : (sl.map numsOf).Nodup := by
      refine List.pairwise_map.2 ((hpm.nodup_iff.2 hp).imp_of_mem fun {x z} hx hz hne e => hne ?_)
      rw [← hnb x hx, ← hnb z hz, e]
    refine ⟨h1, List.pairwise_map.2 (hso.imp_of_mem fun {x z} hx hz h => ?_)⟩
    rw [hnb x hx, hnb z hz]; exact h
  · rw [List.mem_map]
    constructor
    · rintro ⟨x, hx, rfl⟩
      obtain ⟨d, hd, rfl⟩ := (hmem x).1 hx
      rw [nums_bytes (hok d hd).2]; exact hd
    · intro hd
      exact ⟨bytesOf d, (hmem _).2 ⟨d, hd, rfl⟩, nums_bytes (hok d hd).2⟩
  · rw [List.length_map, hpm.length_eq]
    have := nodup_le (l := strKeys D0) (m := L.map bytesOf) hp (fun y hy => by
      obtain ⟨d, hd, rfl⟩ := (hm y).1 hy
      exact List.mem_map.2 ⟨d, hd, rfl⟩)
    simpa using this
/-- What slices.Values' closure reads. -/
structure VlAt (W : World) (Z c : Nat) (A : Option Addr) (vs : List (List Nat)) : Prop where
  z : W.cell? ⟨Z, 0, none⟩ = some (.slice A vs.length c)
  at0 : ∀ (k : Nat) (x : List Nat), vs[k]? = some x → ∃ g, A = some ⟨g, 0, none⟩ ∧ W.cell? ⟨g, k, none⟩ = some (.string (textOf x))
set_option maxRecDepth 100000 in
set_option maxHeartbeats 2000000 in
theorem vals1_own (n : Nat) (hn : 2 ≤ n) (Z c : Nat) (A : Option Addr) (vs : List (List Nat)) (hlen : vs.length ≤ 4611686018427387904) (w : World) {Kp : World → World → Prop} (hKb : ∀ W W' : World, Below W.heap.size W W' → Kp W W') (hKt : ∀ {X Y Z : World}, Kp X Y → Kp Y Z → Kp X Z) (hc : ∀ W, Kp w W → VlAt W Z c A vs) :
    SeqOwn Fence.wide n Try.prog 59 #[.pointer (some ⟨Z, 0, none⟩)] encT Kp (fun x _ => x ∈ vs) (fun xs => xs = vs) (fun pre => ∃ k, k ≤ vs.length ∧ pre = vs.take k) vs.length w := by
  intro lb J Jx W hW hJ hJx hY h0
  obtain ⟨len, hl⟩ : ∃ len, len = vs.length := ⟨_, rfl⟩
  have HL := Lib.hid hl
  have HC := Lib.hid hc
  have HY := Lib.hid hY
  have HJ := Lib.hid hJ
  have hW0 : Kp w W := hKb _ _ hW
  have HKb := Lib.hid hKb
  have HKt : Hid (∀ {X Y Z : World}, Kp X Y → Kp Y Z → Kp X Z) := hKt
  rw [← hl] at hlen ⊢
  have hz0 : W.cell? ⟨Z, 0, none⟩ = some (.slice A len c) := by rw [hl]; exact (hc W hW0).z
  clear hc hY hl hJ hJx hW hKb hKt
  refine callsIn_of_wp Try.func59 rfl trivial ?_ rfl
  simp only [Try.ntmps59, List.size_toArray, List.length_cons, List.length_nil, Nat.reduceAdd, Nat.reduceSub, Array.replicate_succ, Array.replicate_zero, List.push_toArray, List.append_toArray, List.nil_append, List.cons_append]
  gi_wp2
  gi_loopw [4, 7] (fun bp i wr => ∃ k : Nat, k ≤ len ∧ i = .int .i64 k ∧ J (vs.take k) wr ∧ Kp w wr) (fun _ i _ => len - (intOf i).toNat)
  case atStart => exact ⟨0, by omega, rfl, h0, hW0⟩
  case round =>
    clear hz0 h0 hW0
    obtain ⟨k, hk, rfl, hjs, hkp⟩ := hrel
    by_cases hkn : k < len
    · obtain ⟨d, hx⟩ : ∃ x, vs[k]? = some x := ⟨_, List.getElem?_eq_getElem (by rw [← HL.out]; exact hkn)⟩
      have hof := HC.out wr hkp
      obtain ⟨g, rfl, q0⟩ := hof.at0 k d hx
      have HSt : Hid (vs.take (k + 1) = vs.take k ++ [d]) := by unfold Hid; rw [List.take_add_one, hx]; rfl
      have HPl : Hid ((vs.take k).length < vs.length) := by unfold Hid; rw [List.length_take, ← HL.out]; omega
      have HJs := Lib.hid hjs
      have HKp := Lib.hid hkp
      obtain ⟨fn, tmps, assign, body, hy, hR⟩ := HY.out _ d wr (List.mem_of_getElem? hx) HJs.out HPl.out
      rw [← HSt.out] at hR
      try dsimp only [encT] at hy
      have HR := Lib.hid hR
      clear hR hjs hkp hof hx
      gi_wp2
      refine ⟨fun _ => by omega, HR.out.mono ?_⟩
      rintro e W3 (⟨rfl, hJ3, hk3, _⟩ | ⟨rfl, hJx3, _, _⟩)
      · have HJ3 := Lib.hid hJ3
        have HK3 := Lib.hid hk3
        clear hJ3 hk3 hy q0
        gi_wp2
        go_roundw
        case rel => exact ⟨k + 1, by omega, by go_num, HJ3.out, HKt.out HKp.out HK3.out⟩
        case measure => simp [intOf]; omega
      · have HX := Lib.hid hJx3
        clear hJx3 hy q0
        gi_wp2
        refine bodyPost_ret (results_none rfl _ _ _) rfl ?_
        exact ⟨⟨_, rfl⟩, .inr ⟨_, ⟨k + 1, by omega, rfl⟩, HX.out⟩⟩
    · obtain rfl : k = len := by omega
      have hall : vs.take k = vs := by rw [HL.out]; exact List.take_length
      rw [hall] at hjs
      have HJs := Lib.hid hjs
      clear HY HJ hjs
      gi_wp2
      go_end0
      exact ⟨⟨_, rfl⟩, .inl ⟨_, rfl, HJs.out⟩⟩
theorem slval_any (A : Option Addr) (m c : Nat) (W : World) : Calls Try.prog 43 #[.slice A m c] W fun e w' => e = .returned (.func (.func 59) #[] #[.pointer (some ⟨W.heap.size, 0, none⟩)]) ∧ w' = W.alloc (.cells #[.slice A m c] 81) := by
  go_enter Try.func43, Try.ntmps43
  go_wp2
  go_ret
  exact ⟨rfl, rfl⟩
end Go.Proofs.Ytomigaldomiefaa

namespace Go.Proofs.Ytomigaldomiefaa
open Go.RowKit Go.Shelf Go.MapKept Go.ChangeMaps
attribute [local go_sem] Oper.semAt_some
attribute [local simp, local go_sem] wide_fn
set_option linter.unusedVariables false
set_option linter.unusedSimpArgs false
/-- What a place may have at the levels before j. -/
def Cr.vals (S : Cr) (p j : Nat) : List (List Nat) := (List.range j).flatMap fun k => S.level k p
theorem vals_step (S : Cr) (p j : Nat) : S.vals p (j + 1) = S.vals p j ++ S.level j p := by
  unfold Cr.vals
  rw [List.range_succ, List.flatMap_append, List.flatMap_singleton]
theorem level_len (S : Cr) (k p a b : Nat) (hg : ∀ g ∈ S.groups, g.length ≤ a) (hf : S.fly.length ≤ b) : (S.level k p).length ≤ 2 + a + b := by
  have h2 : (S.groups.getD k []).length ≤ a := by
    rw [List.getD_eq_getElem?_getD]
    cases hk : S.groups[k]? with
    | none => simp
    | some g => exact hg g (List.mem_of_getElem? hk)
  unfold Cr.level
  have h3 := ofP_le S.fly p
  have h4 := ofP_le (S.groups.getD k []) p
  have h5 : (if S.loose p && (S.ahead k p).isEmpty then [zs S.sz] else []).length ≤ 1 := by split <;> simp
  simp only [List.length_cons, List.length_append]
  omega
theorem vals_len (S : Cr) (p a b : Nat) (hg : ∀ g ∈ S.groups, g.length ≤ a) (hf : S.fly.length ≤ b) : ∀ j, (S.vals p j).length ≤ j * (2 + a + b)
  | 0 => by simp [Cr.vals]
  | j + 1 => by
    have h1 := vals_len S p a b hg hf j
    have h2 := level_len S j p a b hg hf
    rw [vals_step, List.length_append, Nat.add_mul]
    omega
theorem CrIs.vals_ok {w : World} {B C H L : Nat} {v4 v5 : Value} {S : Cr} (h : CrIs w B C H L v4 v5 S) (p j : Nat) : ∀ d ∈ S.vals p j, OkT d := fun d hd => by
  unfold Cr.vals at hd
  obtain ⟨k, _, hd⟩ := List.mem_flatMap.1 hd
  have h1 := Cr.level_ok h k p d hd
  exact ⟨by rw [h1.1]; exact h.sz.2, h1.2⟩
/-- Texts, as slices.Values' closure finds them. -/
def ValsAt (W : World) (B Z : Nat) (vs : List (List Nat)) : Prop := vs.length ≤ 4611686018427387904 ∧ ∃ v, Row W Z 81 #[v] ∧ W.ownsRow B 9 1 v vs.length (vs.map fun d => .string (textOf d))
theorem valsAt_own (w : World) (B Z : Nat) (vs : List (List Nat)) (hB : w.heap.size ≤ B) : OwnFrom B (fun (_ : Unit) V => ValsAt V w.heap.size Z vs ∧ Below w.heap.size w V) := fun _ W W' row ⟨⟨h1, v, h2, h3⟩, h4⟩ hg hr =>
  ⟨⟨h1, v, Row.kept h2 hg (fun r e => (hr r e).2), h3.kept hg (by
    rcases h3.2 with ⟨e1, _⟩ | ⟨g, cap, cur, e1, _, h5, _⟩
    · rw [e1]; simp [Value.ownBlock]
    · right; rw [e1]
      intro e
      obtain ⟨_, o, ho, hn⟩ := hr g (by simpa [Value.ownBlock] using e.symm)
      rw [h5] at ho; injection ho with ho; subst ho; cases hn)⟩, h4.grown hg h4.size (fun r e => by have := (hr r e).1; omega)⟩
theorem vals_results (tmps : Array Value) (W : World) (u : Value) (h4 : tmps.getD 4 undef = u) : (results Try.f19 tmps).run Try.prog W = .ok u W := by
  simp at h4
  simp [results, Try.results19, go_sem, h4]
set_option maxRecDepth 100000 in
set_option maxHeartbeats 4000000 in
theorem Values_in (B C H L : Nat) (v4 v5 : Value) (S : Cr) (p : Nat) (hp : p < S.n) (hfew : (S.vals p (S.groups.length + 1)).length ≤ 8796093022208) (w : World) (h : CrIs w B C H L v4 v5 S) :
    Calls Try.prog 19 #[.pointer (some ⟨C, 0, none⟩), .int .i64 p] w fun e w' => ∃ (Z : Nat) (vs : List (List Nat)), e = .returned (.func (.func 59) #[] #[.pointer (some ⟨Z, 0, none⟩)]) ∧ w.heap.size ≤ Z ∧ ValsAt w' w.heap.size Z vs ∧
      SortN vs ∧ (∀ d, d ∈ vs ↔ d ∈ S.vals p (S.groups.length + 1)) ∧ Below w.heap.size w w' := by
  obtain ⟨Q, hQ⟩ : ∃ Q, Q = w.heap.size := ⟨_, rfl⟩
  obtain ⟨M, hM⟩ : ∃ M, M = Q + 1 := ⟨_, rfl⟩
  obtain ⟨w1, hw1⟩ : ∃ w1, w1 = (w.alloc (.map #[] 0)).alloc (.cells #[.map (some Q)] 78) := ⟨_, rfl⟩
  have HB1 : Hid (Below w.heap.size w w1) := by unfold Hid; rw [hw1]; (repeat (first | (with_reducible refine Below.drew ?_) | (with_reducible refine below_drewN0 ?_ _) | ((with_reducible refine Below.setCell ?_ ?_ _); rotate_left; focus (first | omega | (simp; done) | (simp; omega) | (simp at *; omega))) | ((with_reducible refine Below.alloc ?_ ?_ _); rotate_left; focus (first | omega | (simp; done) | (simp; omega) | (simp at *; omega))) | (with_reducible exact Below.refl _ _)))
  have HM1 : Hid (Row w1 M 78 #[.map (some Q)]) := by
    unfold Hid; rw [hw1, hM, hQ]
    have := Row.fresh (w.alloc (.map #[] 0)) 78 #[.map (some w.heap.size)]
    rw [World.size_alloc] at this; exact this
  have HQ1 : Hid (SeenS w1 Q []) := by
    unfold Hid; rw [hw1, hQ]
    exact (SeenS.fresh w).turns (Turns.of_below ((Below.refl _ _).alloc (Nat.le_refl _) _) []) (by simp)
  have HC0 := Lib.hid h
  have HW1 := Lib.hid hw1
  have HQe := Lib.hid hQ
  have HMe := Lib.hid hM
  have HTh := Lib.hid (there_any C S.n p w1 ((h.below HB1.out).row.cell 0))
  have HLe := Lib.hid (Levels_any (h.below HB1.out))
  have HP := Lib.hid hp
  have HVf := Lib.hid hfew
  obtain ⟨vs, hv1, hv2⟩ := h.grs
  have HV : Hid (w.ownsRow B 23 1 v4 S.groups.length vs ∧ ∀ (i : Nat) (g : List Wr), S.groups[i]? = some g → ∃ u, vs[i]? = some u ∧ WrsIs w B u g) := ⟨hv1, hv2⟩
  have hdec : decide (0 ≤ (p : Int) ∧ (p : Int) < (S.n : Int)) = true := decide_eq_true (by omega)
  rw [hdec] at HTh
  obtain ⟨G, hG⟩ : ∃ G, G = S.groups.length := ⟨_, rfl⟩
  rw [← hG] at HLe HVf ⊢
  have HG := Lib.hid hG
  have hg20 : G ≤ 1048576 := by rw [hG]; exact h.few.1
  clear h hw1 hQ hM hdec hG hp hv1 hv2 hfew
  refine (callsIn_wide (n := 9)).1 (callsIn_of_wp_marks Try.func19 rfl trivial ?_ rfl)
  simp only [Try.ntmps19, List.size_toArray, List.length_cons, List.length_nil, Nat.reduceAdd, Nat.reduceSub, Array.replicate_succ, Array.replicate_zero, List.push_toArray, List.append_toArray, List.nil_append, List.cons_append]
  refine wpIn_wide.2 ?_
  have hmm := @run_makeMap Try.prog
  go_wp2_with fail
  clear hmm
  rw [← HQe.out, ← HMe.out, ← HW1.out]
  refine HTh.out.mono ?_
  rintro e w2 ⟨rfl, rfl⟩
  go_wp2_with fail
  refine HLe.out.mono ?_
  rintro e w2 ⟨rfl, rfl⟩
  go_wp2_with fail
  have hC1 : ∀ V, KpC [Q] w1 V → CrIs V B C H L v4 v5 S := fun V hV => HC0.out.kpc ((KpC.of_below HB1.out).trans hV) (fun g hg => by rw [List.mem_singleton.1 hg, HQe.out]; exact Nat.le_refl _)
  have HC1 := Lib.hid hC1
  clear HTh HLe hC1
  refine wp_loop (fun a wr => ∃ (j : Nat) (v6 v15 v16 v17 v18 v19 v20 v24 : Value) (ds : List Deferred), a = { tmps := #[.pointer (some ⟨C, 0, none⟩), .int .i64 p, undef, undef, .nilFunc, .pointer (some ⟨M, 0, none⟩), v6, undef, .map (some Q), .pointer (some ⟨C, 0, none⟩), .int .i64 p, .bool true, .pointer (some ⟨C, 0, none⟩), .int .i64 ((G : Int) + 1), .int .i64 (j : Int), v15, v16, v17, v18, v19, v20, undef, undef, undef, v24, undef, undef, undef, undef], defers := ds } ∧ j ≤ G + 1 ∧ MarksIn w1.heap.size wr ds ∧ SeenS wr Q (S.vals p j) ∧ Row wr M 78 #[.map (some Q)] ∧ KpC [Q] w1 wr ∧ Below w.heap.size w wr) (fun a _ => G + 1 - (intOf (a.tmps.getD 14 undef)).toNat) ?start ?round
  case start => exact ⟨0, _, _, _, _, _, _, _, _, [], rfl, by omega, trivial, HQ1.out, HM1.out, KpC.of_below (Below.refl _ _), HB1.out⟩
  case round =>
    rintro a wr ⟨j, v6, v15, v16, v17, v18, v19, v20, v24, ds, rfl, hj, hMk, hSe, hRm, hKp, hB⟩
    have HMk := Lib.hid hMk
    have HSe := Lib.hid hSe
    have HRm := Lib.hid hRm
    have HKp := Lib.hid hKp
    have HB := Lib.hid hB
    clear hMk hSe hRm hKp hB
    by_cases hjk : j < G + 1
    · have HLv := Lib.hid (level_any C j p wr)
      go_wp2_with fail
      refine HLv.out.mono ?_
      rintro e w2 ⟨Z, rfl, hZ, z1, z2, z3, hb⟩
      have HB2 := Lib.hid hb
      have HZ1 := Lib.hid z1
      have HZ2 := Lib.hid z2
      have HZ3 := Lib.hid z3
      have HZ := Lib.hid hZ
      clear HLv hb z1 z2 z3 hZ
      go_wp2_with fail
      have HQw : Hid (Q < w1.heap.size ∧ M < w1.heap.size ∧ Q < M ∧ w1.heap.size ≤ wr.heap.size ∧ wr.heap.size ≤ w2.heap.size ∧ w.heap.size = Q) := ⟨HQ1.out.lt, HM1.out.lt, by have := HMe.out; omega, HKp.out.size, HB2.out.size, HQe.out.symm⟩
      have HKp2 : Hid (KpC [Q] w1 w2) := HKp.out.trans (KpC.of_below HB2.out)
      have HB02 : Hid (Below w.heap.size w w2) := HB.out.trans (HB2.out.mono HB.out.size)
      have HS2 : Hid (SeenS w2 Q (S.vals p j)) := HSe.out.turns (Turns.of_below HB2.out []) (by simp)
      have HRm2 := Lib.hid (HRm.out.below HB2.out HRm.out.lt)
      have HM2 : Hid (MarksIn w1.heap.size w2 ds) := HMk.out.mono fun D _ _ hD => (HB2.out.block D (Array.getElem?_eq_some_iff.1 hD).1).trans hD
      have HMl : Hid (∀ (d : Deferred), d ∈ ds → ∃ D, d = { target := .collected D, args := #[] } ∧ D < w2.heap.size) := marks_lt HM2.out
      have hLv : ∀ V, KpC [Q] w2 V → LvAt V B C H L Z (Z + 2) (Z + 1) v4 v5 vs S j p := fun V hV => by
        have hZ := HZ.out
        have hq := HQw.out
        have hn : ∀ i, Z + i ∉ [Q] := fun i hm => by have := List.mem_singleton.1 hm; omega
        exact lvAt_of HC0.out HV.out ((KpC.of_below HB1.out).trans (HKp2.out.trans hV)) (fun g hg => by rw [List.mem_singleton.1 hg]; omega) (hV.row HZ1.out (hn 0)) (hV.row HZ3.out (hn 2)) (hV.row HZ2.out (hn 1))
      have HSeq := Lib.hid (level1_own 8 (by omega) B C H L Z (Z + 2) (Z + 1) v4 v5 vs S j p (by rw [← HG.out]; omega) HP.out [Q] w2 (fun t ht => by have := HQw.out; rw [List.mem_singleton.1 ht]; omega) hLv)
      have HOkj : Hid (∀ x ∈ S.level j p, OkT x) := fun x hx => by
        have h1 := Cr.level_ok HC0.out j p x hx
        exact ⟨by rw [h1.1]; exact HC0.out.sz.2, h1.2⟩
      clear hLv HSe HRm HMk HKp HB
      refine (wpIn_wide (n := 9)).1 ?_
      apply wpIn_range_ownA rfl (by omega) (gf := 56) (lb := #[.pointer (some ⟨Z, 0, none⟩), .pointer (some ⟨Z + 2, 0, none⟩), .pointer (some ⟨Z + 1, 0, none⟩)]) rfl trivial (enters_of Try.func56 (by kernel_rfl) rfl)
        (hseq := HSeq.out)
        (hKr := fun V => KpC.of_below (Below.refl _ _)) (hKt := fun h h' => KpC.trans h h') (hKb := fun V l r o' _ hl => KpC.put hl) (hb0 := Below.refl _ _) (hps := fun _ => rfl)
        (I := fun pre V => (SeenS V Q (S.vals p j ++ pre) ∧ (∀ d ∈ pre, OkT d)) ∧ KpC [Q] w1 V ∧ Row V M 78 #[.map (some Q)] ∧ Below w.heap.size w V ∧ MarksIn w1.heap.size V ds) (Ix := fun _ _ _ => False)
      case hI =>
        rintro s V V' row ⟨⟨h1, h2⟩, h3, h4, h5, h6⟩ hg hr
        have hk : KpC [Q] w1 V' := ⟨Nat.le_trans h3.size hg.size, fun k o hn hk ho => by
          have h7 := h3.same k o hn hk ho
          exact (hg.block k (Array.getElem?_eq_some_iff.1 h7).1 (fun e => by have := (hr k e.symm).1; have := HQw.out; have := (Array.getElem?_eq_some_iff.1 hk).1; omega)).trans h7⟩
        refine ⟨⟨h1.block (hg.block Q h1.lt (fun e => by have := (hr Q e.symm).1; have := HQw.out; omega)), h2⟩, hk, Row.kept h4 hg (fun r e => (hr r e).2), h5.grown hg h5.size (fun r e => by have := (hr r e).1; have := HQw.out; omega), h6.mono fun D _ hm hD => ?_⟩
        obtain ⟨D', e, hlt⟩ := HMl.out _ hm
        obtain rfl : D = D' := by injection e with e _; injection e
        exact (hg.block D (Array.getElem?_eq_some_iff.1 hD).1 (fun e => by have := (hr D e.symm).1; omega)).trans hD
      case hIx => exact fun _ _ _ _ _ hs _ _ => hs
      case h0 => exact ⟨⟨by rw [List.append_nil]; exact HS2.out, by simp⟩, HKp2.out, HRm2.out, HB02.out, HM2.out⟩
      case hassign =>
        intro l pre x V hi _ _
        gi_wp2
        exact ⟨rfl, trivial⟩
      case hbody =>
        rintro l pre x V ⟨⟨h1, h2⟩, h3, h4, h5, h6⟩ hxm _
        have hokx : OkT x := HOkj.out x hxm
        obtain ⟨V', hup, hs', ht'⟩ := h1.set hokx
        have c1 := h4.cell 0
        simp only [List.getElem?_toArray, List.getElem?_cons_zero, List.getElem?_cons_succ] at c1
        have HF : Hid (KeepsFrom w2.heap.size V V' ∧ KpC [Q] V V' ∧ ((SeenS V' Q (S.vals p j ++ (pre ++ [x])) ∧ (∀ d ∈ pre ++ [x], OkT d)) ∧ KpC [Q] w1 V' ∧ Row V' M 78 #[.map (some Q)] ∧ Below w.heap.size w V' ∧ MarksIn w1.heap.size V' ds)) := by
          have hq := HQw.out
          have hk : KpC [Q] V V' := KpC.of_turns ht' (fun y hy => hy)
          refine ⟨⟨ht'.size, fun k o hk0 hk1 _ => (ht'.block k (Array.getElem?_eq_some_iff.1 hk1).1 (by simp; omega)).trans hk1⟩, hk, ⟨by rw [← List.append_assoc]; exact hs', fun d hd => ?_⟩, h3.trans hk, hk.row h4 (by simp; omega), ht'.below h5 h5.size (fun y hy => by rw [List.mem_singleton.1 hy]; omega), h6.mono fun D hD _ h0 => (ht'.block D (Array.getElem?_eq_some_iff.1 h0).1 (by simp; omega)).trans h0⟩
          rcases List.mem_append.1 hd with hd | hd
          · exact h2 d hd
          · rw [List.mem_singleton.1 hd]; exact hokx
        clear h1 h2 h3 h4 h5 h6 hs' ht' hokx hxm
        gi_wp2
        exact HF.out
      case hdone =>
        rintro D ys V hD rfl ⟨⟨h1, h2⟩, h3, h4, h5, h6⟩ hDf
        have HF : Hid (MarksIn w1.heap.size V ({ target := .collected D, args := #[] } :: ds) ∧ SeenS V Q (S.vals p (j + 1)) ∧ Row V M 78 #[.map (some Q)] ∧ KpC [Q] w1 V ∧ Below w.heap.size w V) :=
          ⟨h6.push (by have := HQw.out; omega) hDf (fun hm => by obtain ⟨D', e, hlt⟩ := HMl.out _ hm; injection e with e _; injection e with e; omega), by rw [vals_step]; exact h1, h4, h3, h5⟩
        clear h1 h2 h3 h4 h5 h6
        go_wp2
        exact ⟨⟨j + 1, _, _, _, _, _, _, _, _, _, rfl, by omega, HF.out⟩, by simp [intOf]; omega⟩
      case hstop =>
        rintro D c pre V _ _ h _
        exact h.elim
    · obtain rfl : j = G + 1 := by omega
      have c1 := HRm.out.cell 0
      simp only [List.getElem?_toArray, List.getElem?_cons_zero, List.getElem?_cons_succ] at c1
      have HKy := Lib.hid (keysS_any (some Q) wr)
      have HSo := Lib.hid (sortedS_any wr HSe.out (by have := HVf.out; omega))
      clear HC1 HC0 HV HP HQ1 HM1
      go_wp2_with fail
      refine HKy.out.mono ?_
      rintro e w3 ⟨rfl, rfl⟩
      clear HKy
      go_wp2_with fail
      refine HSo.out.mono ?_
      rintro e w3 ⟨v, us, rfl, ho, hnd, hmem, hle, hb3⟩
      clear HSo
      obtain ⟨A3, c3, rfl, _, _⟩ := own_shape ho
      have HSl := Lib.hid (slval_any A3 us.length c3 w3)
      have HO := Lib.hid ho
      have HU := Lib.hid (And.intro hnd (And.intro hmem hle))
      have HB3 : Hid (Below wr.heap.size wr w3) := ((Below.refl wr.heap.size wr).alloc (Nat.le_refl _) _).trans (hb3.mono (by omega))
      clear ho hnd hmem hle hb3
      go_wp2_with fail
      refine HSl.out.mono ?_
      rintro e w4 ⟨rfl, rfl⟩
      clear HSl
      go_wp2
      have hB4 : Below wr.heap.size wr (w3.alloc (.cells #[.slice A3 us.length c3] 81)) := HB3.out.alloc (by have := HB3.out.size; omega) _
      have hwr : w.heap.size ≤ wr.heap.size := HB.out.size
      refine leaves_marks (B := w1.heap.size) (Rb := fun V => ValsAt V w.heap.size w3.heap.size us ∧ Below w.heap.size w V) (fun V hV => ?_) (fun V D hD hV h0 => ?_) _ _ ?_ ?_
      · exact ⟨_, vals_results _ V _ rfl, w3.heap.size, us, rfl, by have := HB3.out.size; omega, hV.1, HU.out.1, HU.out.2.1, hV.2⟩
      · exact (valsAt_own w _ _ us (HB1.out.size)).putObj (s := ()) _ hV hD h0 rfl
      · exact HMk.out.mono fun D _ _ hD => (hB4.block D (Array.getElem?_eq_some_iff.1 hD).1).trans hD
      · exact ⟨⟨by have := HU.out.2.2; have := HVf.out; omega, _, Row.fresh _ _ _, own_mono (own_below HO.out ((Below.refl _ _).alloc (Nat.le_refl _) _)) (by omega)⟩, HB.out.trans (hB4.mono hwr)⟩
set_option maxRecDepth 100000 in
set_option maxHeartbeats 4000000 in
theorem Values_out (B C H L : Nat) (v4 v5 : Value) (S : Cr) (p : Int) (hp : ¬ (0 ≤ p ∧ p < S.n)) (w : World) (h : CrIs w B C H L v4 v5 S) :
    Calls Try.prog 19 #[.pointer (some ⟨C, 0, none⟩), .int .i64 p] w fun e w' => ∃ (Z : Nat), e = .returned (.func (.func 59) #[] #[.pointer (some ⟨Z, 0, none⟩)]) ∧ w.heap.size ≤ Z ∧ ValsAt w' w.heap.size Z [] ∧ Below w.heap.size w w' := by
  obtain ⟨Q, hQ⟩ : ∃ Q, Q = w.heap.size := ⟨_, rfl⟩
  obtain ⟨M, hM⟩ : ∃ M, M = Q + 1 := ⟨_, rfl⟩
  obtain ⟨w1, hw1⟩ : ∃ w1, w1 = (w.alloc (.map #[] 0)).alloc (.cells #[.map (some Q)] 78) := ⟨_, rfl⟩
  have HB1 : Hid (Below w.heap.size w w1) := by unfold Hid; rw [hw1]; (repeat (first | (with_reducible refine Below.drew ?_) | (with_reducible refine below_drewN0 ?_ _) | ((with_reducible refine Below.setCell ?_ ?_ _); rotate_left; focus (first | omega | (simp; done) | (simp; omega) | (simp at *; omega))) | ((with_reducible refine Below.alloc ?_ ?_ _); rotate_left; focus (first | omega | (simp; done) | (simp; omega) | (simp at *; omega))) | (with_reducible exact Below.refl _ _)))
  have HM1 : Hid (Row w1 M 78 #[.map (some Q)]) := by
    unfold Hid; rw [hw1, hM, hQ]
    have := Row.fresh (w.alloc (.map #[] 0)) 78 #[.map (some w.heap.size)]
    rw [World.size_alloc] at this; exact this
  have HQ1 : Hid (SeenS w1 Q []) := by
    unfold Hid; rw [hw1, hQ]
    exact (SeenS.fresh w).turns (Turns.of_below ((Below.refl _ _).alloc (Nat.le_refl _) _) []) (by simp)
  have HW1 := Lib.hid hw1
  have HQe := Lib.hid hQ
  have HMe := Lib.hid hM
  have HTh := Lib.hid (there_any C S.n p w1 ((h.below HB1.out).row.cell 0))
  rw [decide_eq_false hp] at HTh
  clear h hw1 hQ hM hp
  refine (callsIn_wide (n := 9)).1 (callsIn_of_wp_marks Try.func19 rfl trivial ?_ rfl)
  simp only [Try.ntmps19, List.size_toArray, List.length_cons, List.length_nil, Nat.reduceAdd, Nat.reduceSub, Array.replicate_succ, Array.replicate_zero, List.push_toArray, List.append_toArray, List.nil_append, List.cons_append]
  refine wpIn_wide.2 ?_
  have hmm := @run_makeMap Try.prog
  go_wp2_with fail
  clear hmm
  rw [← HQe.out, ← HMe.out, ← HW1.out]
  refine HTh.out.mono ?_
  rintro e w2 ⟨rfl, rfl⟩
  have c1 := HM1.out.cell 0
  simp only [List.getElem?_toArray, List.getElem?_cons_zero, List.getElem?_cons_succ] at c1
  have HKy := Lib.hid (keysS_any (some Q) w1)
  have HSo := Lib.hid (sortedS_any w1 HQ1.out (by simp))
  clear HTh HQ1 HM1
  go_wp2_with fail
  refine HKy.out.mono ?_
  rintro e w3 ⟨rfl, rfl⟩
  clear HKy
  go_wp2_with fail
  refine HSo.out.mono ?_
  rintro e w3 ⟨v, us, rfl, ho, hnd, hmem, hle, hb3⟩
  clear HSo
  obtain rfl : us = [] := List.eq_nil_of_length_eq_zero (by simpa using hle)
  obtain ⟨A3, c3, rfl, _, _⟩ := own_shape ho
  have HSl := Lib.hid (slval_any A3 0 c3 w3)
  have HO := Lib.hid ho
  have HB3 : Hid (Below w1.heap.size w1 w3) := ((Below.refl w1.heap.size w1).alloc (Nat.le_refl _) _).trans (hb3.mono (by omega))
  clear ho hnd hmem hle hb3
  dsimp only [List.length_nil] at HO ⊢
  go_wp2_with fail
  refine HSl.out.mono ?_
  rintro e w4 ⟨rfl, rfl⟩
  clear HSl
  go_wp2
  have hB4 : Below w1.heap.size w1 (w3.alloc (.cells #[.slice A3 0 c3] 81)) := HB3.out.alloc (by have := HB3.out.size; omega) _
  have hwr : w.heap.size ≤ w1.heap.size := HB1.out.size
  refine ⟨_, vals_results _ _ _ rfl, w3.heap.size, rfl, by have := HB3.out.size; omega, ⟨by simp, _, Row.fresh _ _ _, own_mono (own_below HO.out ((Below.refl _ _).alloc (Nat.le_refl _) _)) (by omega)⟩, HB1.out.trans (hB4.mono hwr)⟩
end Go.Proofs.Ytomigaldomiefaa

namespace Go.Proofs.Ytomigaldomiefaa
open Go.RowKit
set_option linter.unusedVariables false
set_option linter.unusedSimpArgs false

/-- The like, with more in flight, or loose. -/
structure AsMore (S S' : Cr) : Prop where
  n : S'.n = S.n
  sz : S'.sz = S.sz
  has : S'.has = S.has
  groups : S'.groups = S.groups
  fly : S.fly = []
  loose : ∀ p, S.loose p = false
section
variable {S S' : Cr} (h : AsMore S S')
include h
theorem more_level (k p : Nat) : ∀ x ∈ S.level k p, x ∈ S'.level k p := fun x hx => by
  have hb : S'.base k p = S.base k p := by
    unfold Cr.base Cr.base0 Cr.ahead
    rw [h.groups, h.has, h.sz]
  unfold Cr.level at hx ⊢
  rw [h.loose p, h.fly] at hx
  rw [hb, h.groups]
  simp only [Bool.false_and, ofP, List.filterMap_nil, List.nil_append, List.mem_cons, List.mem_append] at hx ⊢
  rcases hx with hx | hx
  · exact .inl hx
  · refine .inr (.inr (.inr ?_))
    simpa [ofP] using hx
theorem more_may (rd : Nat → List Nat) (hm : S.may rd = true) : S'.may rd = true := by
  rw [Cr.may_iff] at hm ⊢
  obtain ⟨k, hk, hp⟩ := hm
  refine ⟨k, by rw [h.groups]; exact hk, fun p hpn => ?_⟩
  have := hp p (by rw [← h.n]; exact hpn)
  unfold Cr.at at this ⊢
  rw [Bool.or_eq_true, List.contains_iff_mem] at this ⊢
  rcases this with h1 | h1
  · exact .inl (more_level h k p _ h1)
  · exact .inr h1
theorem more_vals (p j : Nat) : ∀ x ∈ S.vals p j, x ∈ S'.vals p j := fun x hx => by
  unfold Cr.vals at hx ⊢
  obtain ⟨k, hk, hx⟩ := List.mem_flatMap.1 hx
  exact List.mem_flatMap.2 ⟨k, hk, more_level h k p x hx⟩
end
theorem CrIs.other {w w' : World} {B C H L : Nat} {v4 v5 : Value} {S : Cr} {T : List Nat} (h : CrIs w B C H L v4 v5 S) (ht : Turns w w' T) (hT : Lone w T) (hC : C ∉ T) (hH : H ∉ T) (hL : L ∉ T) : CrIs w' B C H L v4 v5 S :=
  ⟨ht.row h.row hC, h.has.turns ht hH, h.loose.turns ht hL, h.grs.lone ht hT, h.fly.lone ht hT, h.low, h.ne, h.n, h.sz, h.okG, h.okF, h.few⟩
theorem Lone.sub {w : World} {T T' : List Nat} (h : Lone w T) (hs : ∀ x ∈ T', x ∈ T) : Lone w T' := fun g ty cs hr hne hm => h g ty cs hr hne (hs g hm)
/-- Two states, one laid behind the other. -/
structure TwoIs (w : World) (B C H L B' C' H' L' : Nat) (S S' : Cr) : Prop where
  a : ∃ v4 v5, CrIs w B C H L v4 v5 S
  b : ∃ v4 v5, CrIs w B' C' H' L' v4 v5 S'
  sep : C < B' ∧ H < B' ∧ L < B'
section
variable {w w' : World} {B C H L B' C' H' L' : Nat} {S S' S2 : Cr}
theorem TwoIs.turnA (h : TwoIs w B C H L B' C' H' L' S S') (ht : Turns w w' [C, H, L]) (ha : ∃ v4 v5, CrIs w' B C H L v4 v5 S2) : TwoIs w' B C H L B' C' H' L' S2 S' := by
  obtain ⟨v4, v5, h1⟩ := h.a
  obtain ⟨u4, u5, h2⟩ := h.b
  have hs := h.sep
  have hl := h2.low
  exact ⟨ha, ⟨u4, u5, h2.other ht h1.lone (by simp; omega) (by simp; omega) (by simp; omega)⟩, hs⟩
theorem TwoIs.turnB (h : TwoIs w B C H L B' C' H' L' S S') (ht : Turns w w' [C', H', L']) (hb : ∃ v4 v5, CrIs w' B' C' H' L' v4 v5 S2) : TwoIs w' B C H L B' C' H' L' S S2 := by
  obtain ⟨v4, v5, h1⟩ := h.a
  obtain ⟨u4, u5, h2⟩ := h.b
  have hs := h.sep
  have hl := h2.low
  exact ⟨⟨v4, v5, h1.other ht h2.lone (by simp; omega) (by simp; omega) (by simp; omega)⟩, hb, hs⟩
theorem TwoIs.below (h : TwoIs w B C H L B' C' H' L' S S') (hb : Below w.heap.size w w') : TwoIs w' B C H L B' C' H' L' S S' := by
  obtain ⟨v4, v5, h1⟩ := h.a
  obtain ⟨u4, u5, h2⟩ := h.b
  exact ⟨⟨v4, v5, h1.below hb⟩, ⟨u4, u5, h2.below hb⟩, h.sep⟩
end
theorem turns_sub {w w' : World} {T T' : List Nat} (h : Turns w w' T) (hs : ∀ x ∈ T, x ∈ T') : Turns w w' T' := ⟨h.os, h.tape, h.output, h.size, fun k hk hn => h.block k hk (fun hm => hn (hs k hm))⟩
end Go.Proofs.Ytomigaldomiefaa
