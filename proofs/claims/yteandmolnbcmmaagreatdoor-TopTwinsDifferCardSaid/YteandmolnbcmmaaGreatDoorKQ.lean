/- A row of the call's own that a sort or a compaction has laid anew. Walk: rule.devices. No condition beyond what each theorem states. -/
import Derived.Test.YteandmolnbcmmaaGreatDoorKP
import Derived.Test.YteandmolnbcmmaaGreatDoorShelfB

namespace Go.Proofs.YteandmolnbcmmaaGreatDoor
open Go.RowKit Go.Sort

theorem Own.putCells {w : World} {base : Nat} {e : TypeId} {k n g off cap : Nat} {xs : List Value} (h : Own w base e k (.slice (some ⟨g, off, none⟩) n cap) n xs) (f : Array Value) (hf : f.size = n * k) :
    Own (putRow id w g off f) base e k (.slice (some ⟨g, off, none⟩) n cap) n f.toList := by
  rcases h.2 with ⟨hv, _⟩ | ⟨g', off', cap', cur, hv, hb, hgg, hc, hm, hs, ht⟩
  · cases hv
  · simp only [Value.slice.injEq, Option.some.injEq, Addr.mk.injEq] at hv
    obtain ⟨⟨rfl, rfl, _⟩, _, rfl⟩ := hv
    refine ⟨by rw [Array.length_toList, hf], .inr ⟨g, off, cap, Sort.putCells id off f cur, rfl, hb, ?_, hc, hm, by simpa [Sort.putCells] using hs, ?_⟩⟩
    · unfold putRow mapBlock
      simp [Array.getElem?_modify, hgg, onCells]
    · refine List.ext_getElem? fun i => ?_
      have hle : n * k ≤ cap * k := Nat.mul_le_mul_right _ hc
      rw [List.getElem?_take, List.getElem?_drop]
      by_cases hi : i < n * k
      · rw [if_pos hi, Array.getElem?_toList, Array.getElem?_toList]
        unfold Sort.putCells
        rw [Array.getElem?_mapIdx, Array.getElem?_eq_getElem (by omega : off + i < cur.size), Option.map_some, if_pos ⟨by omega, by omega⟩, show off + i - off = i by omega, getElem!_pos f i (by omega), Array.getElem?_eq_getElem (by omega)]
        rfl
      · rw [if_neg hi, Array.getElem?_toList, Array.getElem?_eq_none (by omega)]

theorem Grows.of_grow (w : World) (os : Array Obj) : Grows w (Sort.grow w os) := ⟨0, os, rfl⟩

theorem Own.grow {w : World} {base : Nat} {e : TypeId} {k n : Nat} {v : Value} {xs : List Value} (h : Own w base e k v n xs) (os : Array Obj) : Own (grow w os) base e k v n xs :=
  h.same fun g hg => (Grows.of_grow w os).below.block g (h.lt g hg).2

theorem putRow_enc {α : Type} [Inhabited α] (enc : α → Value) (w : World) (g off : Nat) (d : Array α) : putRow enc w g off d = putRow id w g off (d.map enc) := by
  unfold putRow Sort.putCells
  congr 1
  funext c
  apply Array.ext_getElem?
  intro i
  rw [Array.getElem?_mapIdx, Array.getElem?_mapIdx]
  congr 1
  funext x
  rw [Array.size_map]
  split
  · rename_i h
    rw [getElem!_pos d (i - off) (by omega), getElem!_pos (d.map enc) (i - off) (by simp; omega)]
    simp
  · rfl

/-- All other blocks are as they were. -/
theorem keeps_putRow {α : Type} [Inhabited α] (enc : α → Value) (w : World) (g off : Nat) (d : Array α) : Keeps (fun k => k < w.heap.size ∧ k ≠ g) w (putRow enc w g off d) :=
  ⟨rfl, rfl, rfl, by simp [putRow, mapBlock], fun k hk => by
    unfold putRow mapBlock
    simp [Array.getElem?_modify, Ne.symm hk.2]⟩

theorem keeps_grow {F : Nat → Prop} {a w : World} (h : Keeps F a w) (hF : ∀ k, F k → k < w.heap.size) (os : Array Obj) : Keeps F a (grow w os) :=
  h.trans ⟨(Grows.of_grow w os).below.os, (Grows.of_grow w os).below.tape, (Grows.of_grow w os).below.output, (Grows.of_grow w os).below.size, fun k hk => (Grows.of_grow w os).below.block k (hF k hk)⟩

theorem Own.holds {α : Type} [Inhabited α] (enc : α → Value) {w : World} {base : Nat} {e : TypeId} {n g off cap : Nat} {l : List α} (h : Own w base e 1 (.slice (some ⟨g, off, none⟩) n cap) n (l.map enc)) : Holds enc w g off l.toArray := by
  intro j hj
  simp at hj
  refine ⟨?_, h.free j⟩
  refine h.cell j _ ?_
  rw [List.getElem?_map, List.getElem?_eq_getElem hj, getElem!_pos _ j (by simpa using hj)]
  simp

end Go.Proofs.YteandmolnbcmmaaGreatDoor

namespace Go.Proofs.YteandmolnbcmmaaGreatDoor
open Go.RowKit Go.Sort Go.Shelf

theorem info9 : (Tryz.prog.info? 9).map (fun i => (i.zero, i.size, i.bytes)) = some (some (.string ByteArray.empty), 1, 16) := by kernel_rfl
theorem under62 : Tryz.prog.underlying 62 = some (.slice 9) := by kernel_rfl

/-- The devices of a metric, in the samples' order. -/
def devsRaw (m : ByteArray) (l : List Samp) : List ByteArray := (l.filter fun s => decide (s.metric = m)).map (·.device)

theorem devsRaw_snoc (m : ByteArray) (l : List Samp) (s : Samp) : devsRaw m (l ++ [s]) = devsRaw m l ++ (if s.metric = m then [s.device] else []) := by
  unfold devsRaw
  rw [List.filter_append, List.map_append]
  congr 1
  by_cases h : s.metric = m <;> simp [h]

theorem devsRaw_len (m : ByteArray) (l : List Samp) : (devsRaw m l).length ≤ l.length := by
  unfold devsRaw
  rw [List.length_map]
  exact List.length_filter_le _ _

theorem eqS_false {a b : ByteArray} (h : a ≠ b) : (a.toList == b.toList) = false := by
  rw [beq_eq_false_iff_ne, Lib.toList_data, Lib.toList_data]
  exact fun e => h (bytes_ext e)

theorem map_toL (D : List ByteArray) : D.map Value.string = (D.map toL).map encStr := by
  rw [List.map_map]
  refine List.map_congr_left fun b _ => ?_
  show Value.string b = Value.string ⟨(toL b).toArray⟩
  rw [show (⟨(toL b).toArray⟩ : ByteArray) = b from ofL_toL b]

theorem keeps_row {α : Type} [Inhabited α] (enc : α → Value) (w : World) (q g off : Nat) (d : Array α) (n cap : Nat) : Keeps (fun k => k < w.heap.size ∧ some k ≠ (Value.slice (some ⟨g, off, none⟩) n cap).ownBlock) w (putRow enc (Sort.ahead w q) g off d) := by
  have h1 : Keeps (fun k => k < w.heap.size ∧ some k ≠ (Value.slice (some ⟨g, off, none⟩) n cap).ownBlock) w (Sort.ahead w q) := ⟨rfl, rfl, rfl, Nat.le_refl _, fun _ _ => rfl⟩
  exact h1.trans ((keeps_putRow enc (Sort.ahead w q) g off d).mono fun k h => ⟨h.1, fun e => h.2 (by rw [e]; rfl)⟩)

theorem sort149_calls {w : World} {base : Nat} {v : Value} {D : List ByteArray} (h : Own w base 9 1 v D.length (D.map Value.string)) (hn : D.length ≤ 100000000) :
    Calls Tryz.prog 149 #[v] w fun e w' => e = .returned (.tuple #[]) ∧ Own w' base 9 1 v D.length (((D.map toL).mergeSort fun x y => decide (x ≤ y)).map encStr) ∧ Keeps (fun k => k < w.heap.size ∧ some k ≠ v.ownBlock) w w' := by
  by_cases hD : D = []
  · subst hD
    obtain ⟨A, c, rfl, _⟩ := h.slice
    exact (AnyM.slices_Sort_string_none Tryz.laysSort A c w).mono fun e w' ⟨he, hw⟩ => by subst hw; exact ⟨he, by simpa using h, Keeps.refl _ _⟩
  · obtain ⟨g, off, cap, rfl, _, _, hg⟩ := h.form (List.length_pos_iff.2 hD)
    have hl : D.length = (D.map toL).length := by simp
    have h' := h
    rw [map_toL] at h'
    have hc := AnyM.slices_Sort_string Tryz.laysSort g off cap (D.map toL) w h'.holds hg (by simp; omega)
    rw [← hl] at hc
    refine hc.mono fun e w' ⟨he, q, os, hw⟩ => ?_
    subst hw
    refine ⟨he, ?_, ?_⟩
    · have := (h'.same (w' := Sort.ahead w q) fun _ _ => rfl).putCells ((((D.map toL).mergeSort fun x y => decide (x ≤ y)).toArray).map encStr) (by simp)
      have h3 := this.grow os
      rw [← putRow_enc] at h3
      simpa using h3
    · exact keeps_grow (keeps_row encStr w q g off _ D.length cap) (fun k h => Nat.lt_of_lt_of_le h.1 (by simp [putRow, mapBlock, Sort.ahead])) os

theorem compact150_none (A : Option Addr) (c : Nat) (w : World) : Calls Tryz.prog 150 #[.slice A 0 c] w fun e w' => e = .returned (.slice A 0 c) ∧ w' = w := by
  go_enter Tryz.func150, Tryz.ntmps150
  go_wp2
  go_ret
  exact ⟨rfl, rfl⟩

theorem compact150_calls {w : World} {base : Nat} {v : Value} {S : List (List UInt8)} (h : Own w base 9 1 v S.length (S.map encStr)) (hn : S.length ≤ 100000000) :
    Calls Tryz.prog 150 #[v] w fun e w' => (∃ v', e = .returned v' ∧ Own w' base 9 1 v' ((Go.Lib.compactUpTo S.toArray S.length).map ofL).length (((Go.Lib.compactUpTo S.toArray S.length).map ofL).map Value.string)) ∧ Keeps (fun k => k < w.heap.size ∧ some k ≠ v.ownBlock) w w' := by
  by_cases hD : S = []
  · subst hD
    obtain ⟨A, c, rfl, _⟩ := h.slice
    refine (compact150_none A c w).mono fun e w' ⟨he, hw⟩ => ?_
    subst hw
    exact ⟨⟨_, he, by simpa [Go.Lib.compactUpTo] using h⟩, Keeps.refl _ _⟩
  · obtain ⟨g, off, cap, rfl, hcap, _, hg⟩ := h.form (List.length_pos_iff.2 hD)
    have hE : EqlAt Tryz.prog 9 encStr (fun x y => decide (x = y)) := by
      refine ⟨fun x y w => ?_, fun op a b x y w => (EqlAt.string Tryz.prog 9).2 op a b ⟨x.toArray⟩ ⟨y.toArray⟩ w⟩
      rw [(EqlAt.string Tryz.prog 9).1 ⟨x.toArray⟩ ⟨y.toArray⟩ w]
      congr 2
      dsimp only
      rw [Lib.toList_data, Lib.toList_data]
      by_cases hxy : x = y <;> simp [hxy]
    have hN : NeqAt Tryz.prog 9 encStr (fun x y => decide (x = y)) := by
      refine ⟨fun x y w => ?_, fun op a b x y w => (NeqAt.string Tryz.prog 9).2 op a b ⟨x.toArray⟩ ⟨y.toArray⟩ w⟩
      rw [(NeqAt.string Tryz.prog 9).1 ⟨x.toArray⟩ ⟨y.toArray⟩ w]
      congr 3
      dsimp only
      rw [Lib.toList_data, Lib.toList_data]
      by_cases hxy : x = y <;> simp [hxy]
    have hc := AnyE.slices_Compact Tryz.laysCompact encStr (fun _ => rfl) hE hN [] (fun w => by have := Tryz.zeroValue9 w; exact this) g off cap S.toArray w h.holds (by simp; omega) (by simpa using hcap)
    simp only [List.size_toArray] at hc
    refine hc.mono fun e w' ⟨he, q, hw⟩ => ?_
    subst hw
    have hle : (Go.Lib.compactUpTo S.toArray S.length).length ≤ S.length := by
      unfold Go.Lib.compactUpTo
      rw [List.length_map]
      refine Nat.le_trans (List.length_filter_le _ _) (by simp)
    refine ⟨⟨_, he, ?_⟩, ?_⟩
    · have := (h.same (w' := Sort.ahead w q) fun _ _ => rfl).putCells (((Go.Lib.compactUpTo S.toArray S.length ++ List.replicate (S.length - (Go.Lib.compactUpTo S.toArray S.length).length) []).toArray).map encStr) (by simp; omega)
      rw [← putRow_enc] at this
      have h3 := this.cut hle
      rw [List.length_map]
      rw [map_toL, List.map_map (g := toL)]
      have e1 : (toL ∘ ofL) = id := by funext x; exact toL_ofL x
      rw [e1, List.map_id]
      simpa using h3
    · exact keeps_row encStr w q g off _ S.length cap

set_option maxHeartbeats 4000000 in
set_option maxRecDepth 100000 in
theorem devices_calls {w : World} {v : Value} {l : List Samp} {m : ByteArray} (hl : ReadsK w 4 v (l.map encSa)) (hn : l.length ≤ 1000000) :
    Calls Tryz.prog 105 #[v, .string m] w fun e w' => (∃ ov, e = .returned ov ∧ Own w' w.heap.size 9 1 ov (devs m l).length ((devs m l).map Value.string)) ∧ Below w.heap.size w w' := by
  obtain ⟨i0, hi0, hz0, hz1, hz2⟩ := info_parts info9
  obtain ⟨A, c, rfl, hcap, hrow⟩ := hl
  rw [List.length_map] at hcap ⊢
  have HRow := Lib.hid hrow
  clear hrow
  obtain ⟨n, hnn⟩ : ∃ n, l.length = n := ⟨_, rfl⟩
  rw [hnn] at hn hcap ⊢
  have HN := Lib.hid hnn
  clear hnn
  go_enter Tryz.func105, Tryz.ntmps105
  go_wp2_with fail
  go_loopw [5, 10] (fun v i wr => ∃ k : Nat, k ≤ n ∧ i = .int .i64 k ∧ Own wr w.heap.size 9 1 v (devsRaw m (l.take k)).length ((devsRaw m (l.take k)).map Value.string) ∧ Keeps (· < w.heap.size) w wr) (fun _ i _ => n - (intOf i).toNat)
  case atStart => exact ⟨0, Nat.zero_le _, rfl, Own.nil _ _ _ _, Keeps.refl _ _⟩
  case round =>
    obtain ⟨k, hk, rfl, hO, hK⟩ := hrel
    have hlk : (l.take k).length = k := by rw [List.length_take, HN.out]; omega
    have hcl := devsRaw_len m (l.take k)
    rw [hlk] at hcl
    have HO := Lib.hid hO
    have HK := Lib.hid hK
    clear hO hK
    by_cases hlt : k < n
    · obtain ⟨s, hs⟩ : ∃ s, l[k]? = some s := ⟨l[k]'(by rw [HN.out]; exact hlt), List.getElem?_eq_getElem _⟩
      obtain ⟨b, o, rfl, hrow⟩ := HRow.out (by intro e; rw [List.map_eq_nil_iff] at e; rw [e] at hs; simp at hs)
      have hcs := hrow k (encSa s) (by rw [List.getElem?_map, hs]; rfl)
      have d0 : w.cell? ⟨b, o + k * 4, none⟩ = some (.string s.device) := hcs 0 _ rfl
      have d1 : w.cell? ⟨b, o + k * 4 + 1, none⟩ = some (.string s.metric) := hcs 1 _ rfl
      have d2 : w.cell? ⟨b, o + k * 4 + 2, none⟩ = some (.int .i64 s.at_) := hcs 2 _ rfl
      have d3 : w.cell? ⟨b, o + k * 4 + 3, none⟩ = some (.int .i64 s.value) := hcs 3 _ rfl
      have hbl := World.block_lt_of_cell? w _ d0
      replace d0 := HK.out.cell hbl d0
      replace d1 := HK.out.cell hbl d1
      replace d2 := HK.out.cell hbl d2
      replace d3 := HK.out.cell hbl d3
      have hd : (k : Int) < (n : Int) := by omega
      have x1 : IntKind.i64.wrap ((k : Int) + 1) = (k : Int) + 1 := IntWalk.i64_in _ (by omega)
      have htk : l.take (k + 1) = l.take k ++ [s] := by rw [List.take_add_one, hs]; rfl
      have hsn := devsRaw_snoc m (l.take k) s
      rw [← htk] at hsn
      have hb2 := HK.out.size
      have P0 : Blk (wr.alloc (.cells #[.string s.device, .string s.metric, .int .i64 s.at_, .int .i64 s.value] 51)) wr.heap.size 51 #[.string s.device, .string s.metric, .int .i64 s.at_, .int .i64 s.value] := Blk.new _ _ _
      have p0 : (wr.alloc (.cells #[.string s.device, .string s.metric, .int .i64 s.at_, .int .i64 s.value] 51)).cell? ⟨wr.heap.size, 0, none⟩ = some (.string s.device) := P0.cell 0
      have p1 : (wr.alloc (.cells #[.string s.device, .string s.metric, .int .i64 s.at_, .int .i64 s.value] 51)).cell? ⟨wr.heap.size, 1, none⟩ = some (.string s.metric) := P0.cell 1
      have K1 := Lib.hid (HK.out.alloc (fun k h => Nat.lt_of_lt_of_le h HK.out.size) (.cells #[.string s.device, .string s.metric, .int .i64 s.at_, .int .i64 s.value] 51))
      have O1 := Lib.hid (HO.out.alloc (.cells #[.string s.device, .string s.metric, .int .i64 s.at_, .int .i64 s.value] 51))
      have Z1 : w.heap.size ≤ (wr.alloc (.cells #[.string s.device, .string s.metric, .int .i64 s.at_, .int .i64 s.value] 51)).heap.size := K1.out.size
      clear hrow hcs hs P0 htk HO HK
      by_cases hm : s.metric = m
      · rw [if_pos hm] at hsn
        have HSN := Lib.hid hsn
        clear hsn
        subst hm
        go_wp2_with
          (at_builtin; refine wpList_append_Own _ (by rfl) _ _ _ (by rfl) w.heap.size 9 i0 _ 1 16 under62 hi0 hz0 hz1 hz2 rfl (by omega) u5 _ _ (by rfl) (O1.out.alloc _)
            ⟨wr.heap.size + 1, 0, none⟩ 1 1 [.string s.device] (by rfl) (by rfl) (World.news_of_block (cs := #[.string s.device]) (t := 9) (fr := (0, 0)) ?_) (by simp [Value.oneCell'])
            (by unfold maxLen; omega) (by omega) (by simp; omega) ?_; (have hbn := heap_alloc_new (wr.alloc (.cells #[.string s.device, .string s.metric, .int .i64 s.at_, .int .i64 s.value] 51)) (.cells #[.string s.device] 9); simpa using hbn); intro v' w3 hown3 hgrow hfr)
        go_roundw
        case rel =>
          refine ⟨k + 1, by omega, by go_num, ?_, ?_⟩
          · rw [HSN.out, List.map_append, List.length_append]
            exact hown3
          · exact (K1.out.alloc (fun k h => Nat.lt_of_lt_of_le h Z1) _).trans ((Keeps.refl _ _).grown hgrow (fun k h => Nat.lt_of_lt_of_le h (by simp; omega)) (fun g e h => by have := (O1.out.lt g e).1; omega))
        case measure => simp [intOf]; omega
      · rw [if_neg hm, List.append_nil] at hsn
        have HSN := Lib.hid hsn
        clear hsn
        have hbm : (s.metric.toList == m.toList) = false := eqS_false hm
        go_wp2_with fail
        go_roundw
        case rel => exact ⟨k + 1, by omega, by go_num, by rw [HSN.out]; exact O1.out, K1.out⟩
        case measure => simp [intOf]; omega
    · have hkn : k = n := by omega
      subst hkn
      have hd : ¬ (k : Int) < (k : Int) := by omega
      have hlt : l.take k = l := by rw [← HN.out]; exact List.take_length
      rw [hlt] at HO hcl
      go_wp2_with fail
      refine (sort149_calls HO.out (by omega)).mono ?_
      rintro e w2 ⟨rfl, hO2, hK2⟩
      have hlen2 : (devsRaw m l).length = ((((devsRaw m l).map toL).mergeSort fun x y => decide (x ≤ y)).map ofL).length := by simp
      rw [hlen2] at hO2
      have HO2 := Lib.hid hO2
      have HK2 := Lib.hid (HK.out.trans (hK2.mono fun k h => ⟨Nat.lt_of_lt_of_le h HK.out.size, fun e => by have := (HO.out.lt k e.symm).1; omega⟩))
      clear hO2 hK2
      go_wp2_with fail
      refine (compact150_calls (S := ((devsRaw m l).map toL).mergeSort fun x y => decide (x ≤ y)) (by rw [← hlen2] at HO2 ; simpa using HO2.out) (by simp; omega)).mono ?_
      rintro e w3 ⟨⟨v', rfl, hO3⟩, hK3⟩
      have HO3 := Lib.hid hO3
      have HK3 := Lib.hid (HK2.out.trans (hK3.mono fun k h => ⟨Nat.lt_of_lt_of_le h HK2.out.size, fun e => by have := (HO2.out.lt k e.symm).1; omega⟩))
      clear hO3 hK3
      go_wp2_with fail
      go_ret
      refine ⟨⟨_, rfl, ?_⟩, HK3.out.below⟩
      have h := HO3.out
      rw [compact_sort (devsRaw m l) _ rfl] at h
      exact h

end Go.Proofs.YteandmolnbcmmaaGreatDoor
