/- crash: a map of texts to true; its keys, sorted; slices.Values' closure. -/
import Derived.Test.YtomigaldomiefaaCrSort
namespace Go.Proofs.Ytomigaldomiefaa
open Go.RowKit Go.MapKept Go.ChangeMaps Go.Sort Go.Shelf
open Go.Maps (Keyed)
attribute [local go_sem] Oper.semAt_some
attribute [local simp, local go_sem] wide_fn
set_option linter.unusedVariables false
set_option linter.unusedSimpArgs false

theorem stringKeyed : Keyed Try.prog 9 := Go.Maps.string_keyed Try.underlying9
theorem seenS_under : Try.prog.underlying 78 = some (.map 9 4) := Try.underlying78
theorem textOf_size (d : List Nat) : (textOf d).size = d.length := by
  have := congrArg List.length (textOf_data d)
  rw [List.length_map] at this
  rw [← this]; rfl
theorem text_key {d : List Nat} (h : d.length ≤ 65536) : keyOf Try.prog 9 (.string (textOf d)) = some (.string (d.map UInt8.ofNat)) := by
  rw [Go.WideMaps.keyOf_string_mk Try.underlying9 (by rw [textOf_size]; unfold maxLen; omega), textOf_data]
/-- Texts that lie in bounds. -/
def OkT (d : List Nat) : Prop := d.length ≤ 65536 ∧ ∀ u ∈ d, u < 256
/-- Texts that were seen, as a map. -/
def SeenS (w : World) (Q : Nat) (L : List (List Nat)) : Prop :=
  (∃ n f, MapIs Try.prog 9 w Q n f ∧ ∀ key v, f key = some v ↔ ∃ d, d ∈ L ∧ key = .string (textOf d) ∧ v = .bool true) ∧ ∀ d ∈ L, OkT d
section
variable {w w' : World} {Q : Nat} {L : List (List Nat)}
theorem SeenS.lt (h : SeenS w Q L) : Q < w.heap.size := by obtain ⟨⟨n, f, h, _⟩, _⟩ := h; exact h.lt
theorem SeenS.turns {T : List Nat} (h : SeenS w Q L) (ht : Turns w w' T) (hb : Q ∉ T) : SeenS w' Q L := by obtain ⟨⟨n, f, h, h2⟩, h3⟩ := h; exact ⟨⟨n, f, h.turns ht hb, h2⟩, h3⟩
theorem SeenS.kpc {T : List Nat} (h : SeenS w Q L) (hk : KpC T w w') (hb : Q ∉ T) : SeenS w' Q L := by
  obtain ⟨⟨n, f, ⟨es, clock, h1, h1'⟩, h2⟩, h3⟩ := h
  exact ⟨⟨n, f, ⟨es, clock, hk.same Q _ hb h1 rfl, h1'⟩, h2⟩, h3⟩
theorem SeenS.block (h : SeenS w Q L) (hb : w'.heap[Q]? = w.heap[Q]?) : SeenS w' Q L := by
  obtain ⟨⟨n, f, ⟨es, clock, h1, h1'⟩, h2⟩, h3⟩ := h
  exact ⟨⟨n, f, ⟨es, clock, hb.trans h1, h1'⟩, h2⟩, h3⟩
theorem SeenS.not_row (h : SeenS w Q L) (t : TypeId) (cs : Array Value) : ¬ Row w Q t cs := by
  obtain ⟨⟨n, f, ⟨es, clock, hb, _⟩, _⟩, _⟩ := h
  intro hr
  unfold Row at hr
  rw [hr] at hb; cases hb
theorem SeenS.fresh (w : World) : SeenS (w.alloc (.map #[] 0)) w.heap.size [] := ⟨⟨_, _, MapIs.fresh _ _ w, by simp⟩, by simp⟩
theorem SeenS.same {L' : List (List Nat)} (h : SeenS w Q L) (hL : ∀ d, d ∈ L' ↔ d ∈ L) : SeenS w Q L' := by
  obtain ⟨⟨n, f, h1, h2⟩, h3⟩ := h
  exact ⟨⟨n, f, h1, fun key v => by rw [h2]; simp only [hL]⟩, fun d hd => h3 d ((hL d).1 hd)⟩
theorem SeenS.set (h : SeenS w Q L) {d : List Nat} (hd : OkT d) :
    ∃ w', (Instr.mapUpdate 78 (.map (some Q)) (.string (textOf d)) (.bool true)).run Try.prog w = .ok () w' ∧ SeenS w' Q (L ++ [d]) ∧ Turns w w' [Q] := by
  obtain ⟨⟨n, f, h, h2⟩, h3⟩ := h
  obtain ⟨w', hr, hm, hg⟩ := h.update (val := .bool true) stringKeyed seenS_under (text_key hd.1)
  refine ⟨w', hr, ⟨⟨_, _, hm, fun key v => ?_⟩, fun x hx => ?_⟩, Turns.of_grown hg⟩
  · by_cases he : key = .string (textOf d)
    · subst he
      rw [updK_same]
      constructor
      · rintro h; injection h with h; exact ⟨d, by simp, rfl, h.symm⟩
      · rintro ⟨k', _, _, rfl⟩; rfl
    · rw [updK_ne _ _ _ he, h2]
      constructor
      · rintro ⟨k', h1, h4, h5⟩
        exact ⟨k', by simp [h1], h4, h5⟩
      · rintro ⟨k', h1, rfl, h5⟩
        rcases List.mem_append.1 h1 with h1 | h1
        · exact ⟨k', h1, rfl, h5⟩
        · exact absurd (by rw [List.mem_singleton.1 h1]) he
  · rcases List.mem_append.1 hx with hx | hx
    · exact h3 x hx
    · rw [List.mem_singleton.1 hx]; exact hd
theorem SeenS.look (h : SeenS w Q L) {d : List Nat} (hd : OkT d) : (Instr.lookup 78 (.map (some Q)) (.string (textOf d)) false).run Try.prog w = .ok (.bool (L.contains d)) w := by
  obtain ⟨⟨n, f, h, h2⟩, h3⟩ := h
  rw [(h.look stringKeyed seenS_under (zero_bool w) (text_key hd.1)).1]
  cases hb : L.contains d with
  | true => rw [(h2 (.string (textOf d)) (.bool true)).2 ⟨d, List.contains_iff_mem.1 hb, rfl, rfl⟩]; rfl
  | false =>
    cases hf : f (.string (textOf d)) with
    | none => rfl
    | some v =>
      obtain ⟨d', h4, h5, _⟩ := (h2 _ _).1 hf
      injection h5 with h5
      obtain rfl := textOf_inj hd.2 (h3 d' h4).2 h5
      rw [List.contains_iff_mem.2 h4] at hb; cases hb
end
abbrev bytesOf (d : List Nat) : List UInt8 := d.map UInt8.ofNat
theorem encStr_bytes (d : List Nat) : encStr (bytesOf d) = .string (textOf d) := by
  have : (⟨(bytesOf d).toArray⟩ : ByteArray) = textOf d := ByteArray.ext (Array.toList_inj.1 (by rw [textOf_data]))
  show Value.string _ = _
  rw [this]
set_option maxRecDepth 100000 in
theorem SeenS.owned {w : World} {Q : Nat} {L : List (List Nat)} (h : SeenS w Q L) (hn : L.length ≤ 8796093022208) :
    ∃ (nn : Nat) (D0 : DataW Unit), w.ownsMap Try.prog 9 (fun _ => some (.nil, [])) Q nn D0 ∧ Maps.size D0 ≤ L.length ∧ (strKeys D0).Nodup ∧ ∀ x, x ∈ strKeys D0 ↔ ∃ d, d ∈ L ∧ x = bytesOf d := by
  obtain ⟨⟨n, f, ⟨es, clock, hb, hs, hsz, hk, hf⟩, h2⟩, h3⟩ := h
  have hkey : ∀ x ∈ es.toList, ∃ d, d ∈ L ∧ x.key = .string (textOf d) := fun x hx => by
    obtain ⟨d, h4, h5, _⟩ := (h2 x.key x.val).1 ((hf _ _).2 ⟨x, hx, rfl, rfl⟩)
    exact ⟨d, h4, h5⟩
  have hnd : (es.toList.map (·.key)).Pairwise (· ≠ ·) := List.pairwise_map.2 ((stamped_iff es clock).1 hs).2.2
  have hle : es.size ≤ L.length := by
    have := nodup_le (l := es.toList.map (·.key)) (m := L.map fun d => Value.string (textOf d)) hnd (fun y hy => by
      obtain ⟨x, hx, rfl⟩ := List.mem_map.1 hy
      obtain ⟨d, h4, h5⟩ := hkey x hx
      exact List.mem_map.2 ⟨d, h4, h5.symm⟩)
    simpa using this
  have hF : WideElems.Fit (H := Unit) Try.prog 9 (fun _ => some (.nil, [])) es clock := ⟨by unfold maxLen; omega, hs, fun x hx => by
    obtain ⟨l, hl⟩ := hk x hx
    exact ⟨(l, .nil), by unfold WideElems.rd; rw [hl]; rfl⟩⟩
  refine ⟨es.size, _, ⟨es, clock, hb, hF, Nat.le_refl _, rfl⟩, ?_, ?_⟩
  · exact Nat.le_trans (World.ownsMap.size_le ⟨es, clock, hb, hF, Nat.le_refl _, rfl⟩) hle
  · have hrg : ∀ x ∈ es.toList, ∀ d, d ∈ L → x.key = .string (textOf d) → strOf (WideElems.rg (H := Unit) Try.prog 9 (fun _ => some (.nil, [])) x).1 = bytesOf d := fun x hx d hd hkk => by
      have e : WideElems.rd (H := Unit) Try.prog 9 (fun _ => some (.nil, [])) x = some (.string (bytesOf d), .nil) := by
        unfold WideElems.rd; rw [hkk, text_key (h3 d hd).1]; rfl
      rw [WideElems.rg_of e]; rfl
    have hp1 := (Go.WideShapes.sorted_perm (es.toList.map (WideElems.rg (H := Unit) Try.prog 9 (fun _ => some (.nil, []))))).map fun p => strOf p.1
    have hp2 : ((es.toList.map (WideElems.rg (H := Unit) Try.prog 9 (fun _ => some (.nil, [])))).map fun p => strOf p.1).Nodup := by
      rw [List.map_map]
      refine List.pairwise_map.2 (((stamped_iff es clock).1 hs).2.2.imp_of_mem fun {x z} hx hz hne e => hne ?_)
      obtain ⟨d1, h4, e1⟩ := hkey x hx
      obtain ⟨d3, h5, e3⟩ := hkey z hz
      have a1 := hrg x hx d1 h4 e1
      have a3 := hrg z hz d3 h5 e3
      simp only [Function.comp_apply] at e
      rw [a1, a3] at e
      rw [e1, e3, ← encStr_bytes, ← encStr_bytes, e]
    refine ⟨hp1.nodup_iff.2 hp2, fun x => ?_⟩
    refine hp1.mem_iff.trans ?_
    rw [List.map_map, List.mem_map]
    constructor
    · rintro ⟨y, hy, rfl⟩
      obtain ⟨d, h4, e1⟩ := hkey y hy
      exact ⟨d, h4, hrg y hy d h4 e1⟩
    · rintro ⟨d, h4, rfl⟩
      obtain ⟨y, hy, e1, _⟩ := (hf _ _).1 ((h2 (.string (textOf d)) (.bool true)).2 ⟨d, h4, rfl, rfl⟩)
      exact ⟨y, hy, hrg y hy d h4 e1⟩
theorem sortsS (m : Nat) : AnyZ.SortsIn Try.prog Try.sortedS_ren Fence.wide m :=
  ⟨fun blk off cap ss W hH hblk hsz => callsIn_wide.2 (AnyM.slices_Sort_string Try.sortS blk off cap ss W hH hblk hsz),
   fun p cap W => callsIn_wide.2 (AnyM.slices_Sort_string_none Try.sortS p cap W)⟩
theorem keysS_any (mb : Option Nat) (W : World) : Calls Try.prog 45 #[.map mb] W fun e w' => e = .returned (.func (.func 62) #[] #[.pointer (some ⟨W.heap.size, 0, none⟩)]) ∧ w' = W.alloc (.cells #[.map mb] 78) :=
  (callsIn_wide (n := 5)).1 (AnyZ.keys_in Try.keysS Fence.wide 5 trivial rfl mb W)
/-- A list of bytes back as numbers. -/
abbrev numsOf (x : List UInt8) : List Nat := x.map UInt8.toNat
theorem nums_bytes {d : List Nat} (h : ∀ u ∈ d, u < 256) : numsOf (bytesOf d) = d := by
  unfold numsOf bytesOf
  rw [List.map_map]
  conv => rhs; rw [← List.map_id d]
  exact List.map_congr_left fun u hu => by
    have := h u hu
    show (UInt8.ofNat u).toNat = u
    rw [UInt8.toNat_ofNat']; omega
set_option maxHeartbeats 1000000 in
theorem sortedS_any {Q : Nat} {L : List (List Nat)} (w : World) (h : SeenS w Q L) (hn : L.length ≤ 8796093022208) :
    Calls Try.prog 44 #[.func (.func 62) #[] #[.pointer (some ⟨w.heap.size, 0, none⟩)]] (w.alloc (.cells #[.map (some Q)] 78)) fun e w' => ∃ (v : Value) (vs : List (List Nat)), e = .returned v ∧
      w'.ownsRow (w.heap.size + 1) 9 1 v vs.length (vs.map fun d => .string (textOf d)) ∧ vs.Nodup ∧ (∀ d, d ∈ vs ↔ d ∈ L) ∧ vs.length ≤ L.length ∧ Below (w.heap.size + 1) (w.alloc (.cells #[.map (some Q)] 78)) w' := by
  have hok := h.2
  obtain ⟨nn, D0, hown, hsz, hp, hm⟩ := h.owned hn
  have hbl := h.lt
  have hseq : SeqGives Fence.wide 2 Try.prog 62 #[.pointer (some ⟨w.heap.size, 0, none⟩)] encStr (fun ss => ss.Perm (strKeys D0)) (Maps.size D0) (w.alloc (.cells #[.map (some Q)] 78)) :=
    AnyZ.keys_gives (ρ := Try.keysS_ren) { Try.keysS with } Fence.wide _ trivial rfl (by omega) w.heap.size Q nn D0 _ (by simp) (by simp) (by
      obtain ⟨es, clock, hb, Ft, hs, hD⟩ := hown
      exact ⟨es, clock, (Below.heap_alloc _ _ Q hbl).trans hb, Ft, hs, hD⟩)
  have cS := AnyZ.sorted_in Try.sortedS Fence.wide 5 trivial trivial trivial trivial rfl (by omega) (sortsS _) (enters_of Try.func61 (by kernel_rfl) rfl) 62 #[.pointer (some ⟨w.heap.size, 0, none⟩)] trivial (enters_of Try.func62 (by kernel_rfl) rfl) _ _ (by unfold maxLen; omega) (by omega) _ hseq
  change CallsIn _ _ Try.prog 44 _ _ _ at cS
  refine ((callsIn_wide (n := 5)).1 cS).mono ?_
  rintro e w' ⟨v, ss, rfl, hS, hrow, _, hb⟩
  rw [World.size_alloc] at hrow hb
  obtain ⟨sl, hsl⟩ : ∃ sl, sl = ss.mergeSort (fun x y => decide (x ≤ y)) := ⟨_, rfl⟩
  have hpm : sl.Perm (strKeys D0) := by rw [hsl]; exact (List.mergeSort_perm _ _).trans hS
  have hmem : ∀ x, x ∈ sl ↔ ∃ d, d ∈ L ∧ x = bytesOf d := fun x => hpm.mem_iff.trans (hm x)
  rw [← hsl, show ss.length = sl.length by rw [hsl, List.length_mergeSort]] at hrow
  have hnb : ∀ x ∈ sl, bytesOf (numsOf x) = x := fun x hx => by
    obtain ⟨d, hd, rfl⟩ := (hmem x).1 hx
    rw [nums_bytes (hok d hd).2]
  refine ⟨v, sl.map numsOf, rfl, ?_, ?_, fun d => ?_, ?_, hb⟩
  · have e1 : (sl.map numsOf).map (fun d => Value.string (textOf d)) = sl.map encStr := by
      rw [List.map_map]
      exact List.map_congr_left fun x hx => by
        show Value.string (textOf (numsOf x)) = _
        rw [← encStr_bytes, hnb x hx]
    rw [e1, List.length_map]; exact hrow
  · refine List.pairwise_map.2 ((hpm.nodup_iff.2 hp).imp_of_mem fun {x z} hx hz hne e => hne ?_)
    rw [← hnb x hx, ← hnb z hz, e]
  · rw [List.mem_map]
    constructor
    · rintro ⟨x, hx, rfl⟩
      obtain ⟨d, hd, rfl⟩ := (hmem x).1 hx
      rw [nums_bytes (hok d hd).2]; exact hd
    · intro hd
      exact ⟨bytesOf d, (hmem _).2 ⟨d, hd, rfl⟩, nums_bytes (hok d hd).2⟩
  · rw [List.length_map, hpm.length_eq]
    have := nodup_le (l := strKeys D0) (m := L.map bytesOf) hp (fun y hy => by
      obtain ⟨d, hd, rfl⟩ := (hm y).1 hy
      exact List.mem_map.2 ⟨d, hd, rfl⟩)
    simpa using this
/-- What slices.Values' closure reads. -/
structure VlAt (W : World) (Z c : Nat) (A : Option Addr) (vs : List (List Nat)) : Prop where
  z : W.cell? ⟨Z, 0, none⟩ = some (.slice A vs.length c)
  at0 : ∀ (k : Nat) (x : List Nat), vs[k]? = some x → ∃ g, A = some ⟨g, 0, none⟩ ∧ W.cell? ⟨g, k, none⟩ = some (.string (textOf x))
set_option maxRecDepth 100000 in
set_option maxHeartbeats 2000000 in
theorem vals1_own (n : Nat) (hn : 2 ≤ n) (Z c : Nat) (A : Option Addr) (vs : List (List Nat)) (hlen : vs.length ≤ 4611686018427387904) (w : World) {Kp : World → World → Prop} (hKb : ∀ W W' : World, Below W.heap.size W W' → Kp W W') (hKt : ∀ {X Y Z : World}, Kp X Y → Kp Y Z → Kp X Z) (hc : ∀ W, Kp w W → VlAt W Z c A vs) :
    SeqOwn Fence.wide n Try.prog 59 #[.pointer (some ⟨Z, 0, none⟩)] encT Kp (fun x _ => x ∈ vs) (fun xs => xs = vs) (fun pre => ∃ k, k ≤ vs.length ∧ pre = vs.take k) vs.length w := by
  intro lb J Jx W hW hJ hJx hY h0
  obtain ⟨len, hl⟩ : ∃ len, len = vs.length := ⟨_, rfl⟩
  have HL := Lib.hid hl
  have HC := Lib.hid hc
  have HY := Lib.hid hY
  have HJ := Lib.hid hJ
  have hW0 : Kp w W := hKb _ _ hW
  have HKb := Lib.hid hKb
  have HKt : Hid (∀ {X Y Z : World}, Kp X Y → Kp Y Z → Kp X Z) := hKt
  rw [← hl] at hlen ⊢
  have hz0 : W.cell? ⟨Z, 0, none⟩ = some (.slice A len c) := by rw [hl]; exact (hc W hW0).z
  clear hc hY hl hJ hJx hW hKb hKt
  refine callsIn_of_wp Try.func59 rfl trivial ?_ rfl
  simp only [Try.ntmps59, List.size_toArray, List.length_cons, List.length_nil, Nat.reduceAdd, Nat.reduceSub, Array.replicate_succ, Array.replicate_zero, List.push_toArray, List.append_toArray, List.nil_append, List.cons_append]
  gi_wp2
  gi_loopw [4, 7] (fun bp i wr => ∃ k : Nat, k ≤ len ∧ i = .int .i64 k ∧ J (vs.take k) wr ∧ Kp w wr) (fun _ i _ => len - (intOf i).toNat)
  case atStart => exact ⟨0, by omega, rfl, h0, hW0⟩
  case round =>
    clear hz0 h0 hW0
    obtain ⟨k, hk, rfl, hjs, hkp⟩ := hrel
    by_cases hkn : k < len
    · obtain ⟨d, hx⟩ : ∃ x, vs[k]? = some x := ⟨_, List.getElem?_eq_getElem (by rw [← HL.out]; exact hkn)⟩
      have hof := HC.out wr hkp
      obtain ⟨g, rfl, q0⟩ := hof.at0 k d hx
      have HSt : Hid (vs.take (k + 1) = vs.take k ++ [d]) := by unfold Hid; rw [List.take_add_one, hx]; rfl
      have HPl : Hid ((vs.take k).length < vs.length) := by unfold Hid; rw [List.length_take, ← HL.out]; omega
      have HJs := Lib.hid hjs
      have HKp := Lib.hid hkp
      obtain ⟨fn, tmps, assign, body, hy, hR⟩ := HY.out _ d wr (List.mem_of_getElem? hx) HJs.out HPl.out
      rw [← HSt.out] at hR
      try dsimp only [encT] at hy
      have HR := Lib.hid hR
      clear hR hjs hkp hof hx
      gi_wp2
      refine ⟨fun _ => by omega, HR.out.mono ?_⟩
      rintro e W3 (⟨rfl, hJ3, hk3, _⟩ | ⟨rfl, hJx3, _, _⟩)
      · have HJ3 := Lib.hid hJ3
        have HK3 := Lib.hid hk3
        clear hJ3 hk3 hy q0
        gi_wp2
        go_roundw
        case rel => exact ⟨k + 1, by omega, by go_num, HJ3.out, HKt.out HKp.out HK3.out⟩
        case measure => simp [intOf]; omega
      · have HX := Lib.hid hJx3
        clear hJx3 hy q0
        gi_wp2
        refine bodyPost_ret (results_none rfl _ _ _) rfl ?_
        exact ⟨⟨_, rfl⟩, .inr ⟨_, ⟨k + 1, by omega, rfl⟩, HX.out⟩⟩
    · obtain rfl : k = len := by omega
      have hall : vs.take k = vs := by rw [HL.out]; exact List.take_length
      rw [hall] at hjs
      have HJs := Lib.hid hjs
      clear HY HJ hjs
      gi_wp2
      go_end0
      exact ⟨⟨_, rfl⟩, .inl ⟨_, rfl, HJs.out⟩⟩
theorem slval_any (A : Option Addr) (m c : Nat) (W : World) : Calls Try.prog 43 #[.slice A m c] W fun e w' => e = .returned (.func (.func 59) #[] #[.pointer (some ⟨W.heap.size, 0, none⟩)]) ∧ w' = W.alloc (.cells #[.slice A m c] 81) := by
  go_enter Try.func43, Try.ntmps43
  go_wp2
  go_ret
  exact ⟨rfl, rfl⟩
end Go.Proofs.Ytomigaldomiefaa
