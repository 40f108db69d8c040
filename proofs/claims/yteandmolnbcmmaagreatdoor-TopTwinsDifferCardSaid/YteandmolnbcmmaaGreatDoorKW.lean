/- slices.SortFunc at structs, of a slice of the call's own. slices.Grow of nil: of strings, of samples. slices.Concat of two slices: of strings, of samples. No condition beyond what each theorem states. -/
import Derived.Lib.AppendZeros
import Derived.Test.YteandmolnbcmmaaGreatDoorKU
import Derived.Test.YteandmolnbcmmaaGreatDoorShelfG

namespace Go.Proofs.YteandmolnbcmmaaGreatDoor
open Go.RowKit Go.Sort Go.Shelf

theorem Own.holdsF {α : Type} [Inhabited α] {enc : α → List Value} {k : Nat} (hk : ∀ x, (enc x).length = k) {w : World} {base : Nat} {e : TypeId} {n g off cap : Nat} {X : List α} (h : Own w base e k (.slice (some ⟨g, off, none⟩) n cap) n (flatE enc X)) : HoldsK enc k w g off X.toArray := by
  unfold HoldsK
  have := flatK_toList enc k hk X.toArray
  intro j hj
  refine ⟨?_, h.free j⟩
  refine h.cell j _ ?_
  have h2 : (flatE enc X)[j]? = (flatK enc k X.toArray)[j]? := by rw [← Array.getElem?_toList, this]
  rw [h2, getElem!_pos _ j hj, Array.getElem?_eq_getElem hj]
  rfl

theorem sortF_calls {α : Type} [Inhabited α] {ρ : Ren} (L : SlLaysF0.n6 Tryz.prog ρ) {enc : α → List Value} {k : Nat} (hk : ∀ x, (enc x).length = k) (h1 : ∀ x, ∀ v ∈ enc x, v.oneCell' = true)
    (aE : ∀ w, (isAgg (ρ.t 24)).run Tryz.prog w = .ok true w) (zE : ∀ w, (Go.sizeOf (ρ.t 24)).run Tryz.prog w = .ok k w) (cf : α → α → Int) (hO : SWO (ltOf cf)) (gf : Nat) (eg : ∀ args w, (callFunc gf args).run Tryz.prog w = .ok (.enter gf args) w)
    (hcmp : ∀ x y w, Calls Tryz.prog gf #[.agg (enc x).toArray, .agg (enc y).toArray] w fun e w' => e = .returned (.int .i64 (cf x y)) ∧ Grows w w')
    {w : World} {base : Nat} {e : TypeId} {v : Value} {X : List α} (h : Own w base e k v X.length (flatE enc X)) (hn : X.length ≤ 100000000000000) :
    Calls Tryz.prog (ρ.f 6) #[v, .func (.func gf) #[] #[]] w fun e' w' => e' = .returned (.tuple #[]) ∧ (∃ Y : List α, Y.Perm X ∧ (Y.Pairwise fun a b => ¬ cf b a < 0) ∧ Own w' base e k v X.length (flatE enc Y)) ∧ Keeps (fun k => k < w.heap.size ∧ some k ≠ v.ownBlock) w w' := by
  by_cases hD : X = []
  · subst hD
    obtain ⟨A, c, rfl, _⟩ := h.slice
    exact (AnyF.slices_SortFunc_none L A c (.func (.func gf) #[] #[]) w).mono fun e w' ⟨he, hw⟩ => by subst hw; exact ⟨he, ⟨[], List.Perm.refl _, List.Pairwise.nil, h⟩, Keeps.refl _ _⟩
  · obtain ⟨g, off, cap, rfl, _, _, hg⟩ := h.form (List.length_pos_iff.2 hD)
    have hlays : CmpLays Tryz.prog gf #[] enc k cf g off X.toArray.size w := fun m os dk _ x y => (hcmp x y _).mono fun e w' ⟨he, hg⟩ => ⟨he, hg⟩
    have hc := AnyQ.slices_SortFunc L k aE zE enc hk h1 cf hO gf #[] g off cap X.toArray w eg hlays (h.holdsF hk) hg (by simp; omega)
    simp only [List.size_toArray] at hc
    refine hc.mono fun e w' ⟨he, d', q, os, hp, hs, hw⟩ => ?_
    subst hw
    obtain ⟨hp1, hp2, hp3⟩ := hp
    have hsz' : d'.size = X.toArray.size → d'.size = X.length := fun h => by simpa using h
    refine ⟨he, ⟨d'.toList, ?_, ?_, ?_⟩, ?_⟩
    · have h1 : d'.extract 0 X.length = d' := by rw [← hsz' hp1]; exact Array.extract_size
      have h2 : X.toArray.extract 0 X.length = X.toArray := by simp
      rw [h1, h2] at hp3
      exact hp3
    · rw [List.pairwise_iff_getElem]
      intro i j hi hj hij
      simp only [Array.length_toList] at hi hj
      have := hs i j (Nat.zero_le _) hij (by rw [← hsz' hp1]; exact hj)
      rw [getElem!_pos d' j hj, getElem!_pos d' i hi] at this
      unfold ltOf at this
      simpa using this
    · have h1 := (h.same (w' := Sort.ahead w q) fun _ _ => rfl).putCells (flatK enc k d') (by simp [flatK, hsz' hp1])
      rw [flatK_toList enc k hk] at h1
      exact h1.grow os
    · exact keeps_grow (keeps_row id w q g off _ X.length cap) (fun k h => Nat.lt_of_lt_of_le h.1 (by simp [putRow, mapBlock, Sort.ahead])) os

/-- Comparing numbers. -/
theorem swo_iCmp {α : Type} (f : α → Int) : SWO (ltOf fun x y => iCmp (f x) (f y)) where
  irrefl := fun x => by unfold ltOf; simp only [decide_eq_false_iff_not]; rw [iCmp_neg]; omega
  trans := fun x y z h k => by unfold ltOf at *; simp only [decide_eq_true_eq] at *; rw [iCmp_neg] at *; omega
  ntrans := fun x y z h k => by unfold ltOf at *; simp only [decide_eq_false_iff_not] at *; rw [iCmp_neg] at *; omega

end Go.Proofs.YteandmolnbcmmaaGreatDoor

namespace Go.Proofs.YteandmolnbcmmaaGreatDoor
open Go.RowKit Go.Sort

theorem under3 : Tryz.prog.underlying 3 = some (.int .i64) := by kernel_rfl

theorem own_room {w : World} {e : TypeId} {k n : Nat} (z : Value) (hz : z.cells.size = k) (hn : n ≤ maxLen) :
    Own (w.drew.alloc (.cells (Builtin.zeroCells z.cells n ++ Builtin.zeroCells z.cells (grownCap w n 0 e - n)) e)) w.heap.size e k (.slice (some ⟨w.heap.size, 0, none⟩) 0 (grownCap w n 0 e)) 0 [] := by
  refine ⟨by simp, .inr ⟨w.heap.size, 0, _, _, rfl, Nat.le_refl _, heap_alloc_new w.drew _, Nat.zero_le _, grownCap_le_maxLen w n 0 e hn, ?_, by simp⟩⟩
  have hge := grownCap_ge w n 0 e
  simp only [Array.size_append, size_zeroCells, hz, ← Nat.add_mul, Nat.zero_add]
  exact Nat.mul_le_mul_right _ (by omega)

def GrowPost (e : TypeId) (k : Nat) (w : World) (en : Ending) (w' : World) : Prop := (∃ v, en = .returned v ∧ Own w' w.heap.size e k v 0 []) ∧ Grows w w'

set_option maxHeartbeats 2000000 in
set_option maxRecDepth 100000 in
theorem grow126_calls (n : Nat) (w : World) (hn : n * 16 ≤ 140737488355328) : Calls Tryz.prog 126 #[.slice none 0 0, .int .i64 n] w (GrowPost 9 1 w) := by
  obtain ⟨i0, hi0, hz0, hz1, hz2⟩ := info_parts info9
  by_cases h0 : n = 0
  · subst h0
    go_enter Tryz.func126, Tryz.ntmps126
    go_wp2
    go_ret
    exact ⟨⟨_, rfl, Own.nil _ _ _ _⟩, Grows.refl w⟩
  · have hp : (0 : Int) < n := by omega
    have hr := Lib.hid (Lib.run_append_nil_zeros (P := Tryz.prog) w 62 3 62 9 i0 _ .i64 .i64 under62 under3 hi0 hz0 n (by omega) (by omega) (by omega) (by rw [hz2]; omega))
    have hO := Lib.hid (own_room (w := w) (e := 9) (k := 1) (n := n) (Value.string ByteArray.empty) rfl (by unfold maxLen; omega))
    have hG := Lib.hid ((Grows.refl w).drew.alloc (.cells (Builtin.zeroCells (Value.string ByteArray.empty).cells n ++ Builtin.zeroCells (Value.string ByteArray.empty).cells (grownCap w n 0 9 - n)) 9))
    obtain ⟨W, hW⟩ : ∃ W, w.drew.alloc (.cells (Builtin.zeroCells (Value.string ByteArray.empty).cells n ++ Builtin.zeroCells (Value.string ByteArray.empty).cells (grownCap w n 0 9 - n)) 9) = W := ⟨_, rfl⟩
    obtain ⟨C, hC⟩ : ∃ C, grownCap w n 0 9 = C := ⟨_, rfl⟩
    have hge : n ≤ C := by rw [← hC]; exact grownCap_ge w n 0 9
    rw [hW] at hG
    rw [hW, hC] at hO hr
    clear hW hC
    go_enter Tryz.func126, Tryz.ntmps126
    go_wp2_with (at_builtin; refine Lib.wpList_append_run _ rfl _ _ _ _ rfl _ _ rfl rfl _ _ hr.out ?_)
    go_ret
    exact ⟨⟨_, rfl, hO.out⟩, hG.out⟩

set_option maxHeartbeats 2000000 in
set_option maxRecDepth 100000 in
theorem grow102_calls (n : Nat) (w : World) (hn : n * 48 ≤ 140737488355328) : Calls Tryz.prog 102 #[.slice none 0 0, .int .i64 n] w (GrowPost 51 4 w) := by
  obtain ⟨i0, hi0, hz0, hz1, hz2⟩ := info_parts info51
  by_cases h0 : n = 0
  · subst h0
    go_enter Tryz.func102, Tryz.ntmps102
    go_wp2
    go_ret
    exact ⟨⟨_, rfl, Own.nil _ _ _ _⟩, Grows.refl w⟩
  · have hp : (0 : Int) < n := by omega
    have hr := Lib.hid (Lib.run_append_nil_zeros (P := Tryz.prog) w 23 3 23 51 i0 _ .i64 .i64 under23 under3 hi0 hz0 n (by omega) (by omega) (by omega) (by rw [hz2]; omega))
    have hO := Lib.hid (own_room (w := w) (e := 51) (k := 4) (n := n) (Value.agg #[.string ByteArray.empty, .string ByteArray.empty, .int .i64 0, .int .i64 0]) rfl (by unfold maxLen; omega))
    have hG := Lib.hid ((Grows.refl w).drew.alloc (.cells (Builtin.zeroCells (Value.agg #[.string ByteArray.empty, .string ByteArray.empty, .int .i64 0, .int .i64 0]).cells n ++ Builtin.zeroCells (Value.agg #[.string ByteArray.empty, .string ByteArray.empty, .int .i64 0, .int .i64 0]).cells (grownCap w n 0 51 - n)) 51))
    obtain ⟨W, hW⟩ : ∃ W, w.drew.alloc (.cells (Builtin.zeroCells (Value.agg #[.string ByteArray.empty, .string ByteArray.empty, .int .i64 0, .int .i64 0]).cells n ++ Builtin.zeroCells (Value.agg #[.string ByteArray.empty, .string ByteArray.empty, .int .i64 0, .int .i64 0]).cells (grownCap w n 0 51 - n)) 51) = W := ⟨_, rfl⟩
    obtain ⟨C, hC⟩ : ∃ C, grownCap w n 0 51 = C := ⟨_, rfl⟩
    have hge : n ≤ C := by rw [← hC]; exact grownCap_ge w n 0 51
    rw [hW] at hG
    rw [hW, hC] at hO hr
    clear hW hC
    go_enter Tryz.func102, Tryz.ntmps102
    go_wp2_with (at_builtin; refine Lib.wpList_append_run _ rfl _ _ _ _ rfl _ _ rfl rfl _ _ hr.out ?_)
    go_ret
    exact ⟨⟨_, rfl, hO.out⟩, hG.out⟩

end Go.Proofs.YteandmolnbcmmaaGreatDoor

namespace Go.Proofs.YteandmolnbcmmaaGreatDoor
open Go.RowKit Go.Sort

def encStr1 (s : ByteArray) : List Value := [.string s]
theorem encStr1_len (s : ByteArray) : (encStr1 s).length = 1 := rfl
theorem encStr1_one (x : ByteArray) : ∀ v ∈ encStr1 x, v.oneCell' = true := by
  intro v hv
  simp [encStr1] at hv
  subst hv
  rfl

set_option maxHeartbeats 4000000 in
set_option maxRecDepth 100000 in
theorem concat80_calls {w : World} {q c : Nat} {v1 v2 : Value} {l1 l2 : List ByteArray} (c0 : w.cell? ⟨q, 0, none⟩ = some v1) (c1 : w.cell? ⟨q, 1, none⟩ = some v2) (h1 : ReadsK w 1 v1 (l1.map encStr1)) (h2 : ReadsK w 1 v2 (l2.map encStr1)) (hn : (l1.length + l2.length) * 16 ≤ 140737488355328) :
    Calls Tryz.prog 80 #[.slice (some ⟨q, 0, none⟩) 2 c] w (ClonePost encStr1 9 1 w (l1 ++ l2)) := by
  obtain ⟨i0, hi0, hz0, hz1, hz2⟩ := info_parts info9
  have H1 := Lib.hid h1
  have H2 := Lib.hid h2
  obtain ⟨A1, d1, rfl, hd1, _⟩ := h1
  obtain ⟨A2, d2, rfl, hd2, _⟩ := h2
  rw [List.length_map] at hd1 hd2 H1 H2 c0 c1
  obtain ⟨n1, hn1⟩ : ∃ n, l1.length = n := ⟨_, rfl⟩
  obtain ⟨n2, hn2⟩ : ∃ n, l2.length = n := ⟨_, rfl⟩
  rw [hn1, hn2] at hn
  rw [hn1] at hd1 H1 c0
  rw [hn2] at hd2 H2 c1
  have HN1 := Lib.hid hn1
  have HN2 := Lib.hid hn2
  have hg : ((n1 : Int) + (n2 : Int)) = ((n1 + n2 : Nat) : Int) := by omega
  have HG0 := Lib.hid (grow126_calls (n1 + n2) w hn)
  rw [← hg] at HG0
  have hq := World.block_lt_of_cell? w _ c0
  clear hn1 hn2 hg
  go_enter Tryz.func80, Tryz.ntmps80
  go_wp2
  refine wp_loop_rounds 3 ?_
  rw [rounds_succ]
  go_wp2_with fail
  rw [rounds_succ]
  go_wp2_with fail
  rw [rounds_succ]
  go_wp2_with fail
  refine HG0.out.mono ?_
  rintro e w2 ⟨⟨v, rfl, hO⟩, hg2⟩
  have HG2 := Lib.hid hg2
  have HO := Lib.hid hO
  have c0' := hg2.cell c0
  have c1' := hg2.cell c1
  have hsz := hg2.below.size
  clear hO hg2 c0 c1 HG0
  go_wp2_with fail
  refine wp_loop_rounds 3 ?_
  rw [rounds_succ]
  go_wp2_with (at_builtin; refine wpList_append_reads (by rfl) _ _ _ (by rfl) w.heap.size 9 i0 _ 1 16 under62 hi0 hz0 hz1 hz2 rfl (by omega) v _ _ (by rfl) HO.out _ l1 (by rfl) encStr1_len (HG2.out.reads H1.out) encStr1_one (by rw [HN1.out]; unfold maxLen; omega) (by rw [HN1.out]; omega) hsz ?_; intro v3 w3 hown3 hgrow3 hfr3)
  have K3 : Hid (Keeps (· < w.heap.size) w w3) := Lib.hid (((Keeps.of_grows HG2.out fun _ h => h)).trans ((Keeps.refl _ _).grown hgrow3 (fun k h => Nat.lt_of_lt_of_le h hsz) (fun g e h => by have := (HO.out.lt g e).1; omega)))
  have O3 := Lib.hid hown3
  have c1'' : w3.cell? ⟨q, 1, none⟩ = some (.slice A2 n2 d2) := by
    have hne : v.ownBlock ≠ some q := fun e => by have := (HO.out.lt q e).1; have : q < w.heap.size := hq; omega
    rw [hgrow3.cell_far _ (Nat.lt_of_lt_of_le hq hsz) (Ne.symm hne)]
    exact c1'
  have hsz3 := K3.out.size
  clear hown3 hgrow3 hfr3 c0' c1'
  go_wp2_with fail
  rw [rounds_succ]
  go_wp2_with (at_builtin; refine wpList_append_reads (by rfl) _ _ _ (by rfl) w.heap.size 9 i0 _ 1 16 under62 hi0 hz0 hz1 hz2 rfl (by omega) v3 _ _ (by rfl) O3.out _ l2 (by rfl) encStr1_len (K3.out.reads (fun _ h => h) H2.out) encStr1_one (by rw [HN1.out, HN2.out]; unfold maxLen; omega) (by rw [HN1.out, HN2.out]; omega) hsz3 ?_; intro v4 w4 hown4 hgrow4 hfr4)
  have K4 : Hid (Keeps (· < w.heap.size) w w4) := Lib.hid (K3.out.trans ((Keeps.refl _ _).grown hgrow4 (fun k h => Nat.lt_of_lt_of_le h hsz3) (fun g e h => by have := (O3.out.lt g e).1; omega)))
  have O4 := Lib.hid hown4
  clear hown4 hgrow4 hfr4
  go_wp2_with fail
  rw [rounds_succ]
  go_wp2_with fail
  go_ret
  refine ⟨⟨_, rfl, ?_⟩, K4.out.below⟩
  have := O4.out
  simpa [flatE] using this

set_option maxHeartbeats 4000000 in
set_option maxRecDepth 100000 in
theorem concat56_calls {w : World} {q c : Nat} {v1 v2 : Value} {l1 l2 : List Samp} (c0 : w.cell? ⟨q, 0, none⟩ = some v1) (c1 : w.cell? ⟨q, 1, none⟩ = some v2) (h1 : ReadsK w 4 v1 (l1.map encSa)) (h2 : ReadsK w 4 v2 (l2.map encSa)) (hn : (l1.length + l2.length) * 48 ≤ 140737488355328) :
    Calls Tryz.prog 56 #[.slice (some ⟨q, 0, none⟩) 2 c] w (ClonePost encSa 51 4 w (l1 ++ l2)) := by
  obtain ⟨i0, hi0, hz0, hz1, hz2⟩ := info_parts info51
  have H1 := Lib.hid h1
  have H2 := Lib.hid h2
  obtain ⟨A1, d1, rfl, hd1, _⟩ := h1
  obtain ⟨A2, d2, rfl, hd2, _⟩ := h2
  rw [List.length_map] at hd1 hd2 H1 H2 c0 c1
  obtain ⟨n1, hn1⟩ : ∃ n, l1.length = n := ⟨_, rfl⟩
  obtain ⟨n2, hn2⟩ : ∃ n, l2.length = n := ⟨_, rfl⟩
  rw [hn1, hn2] at hn
  rw [hn1] at hd1 H1 c0
  rw [hn2] at hd2 H2 c1
  have HN1 := Lib.hid hn1
  have HN2 := Lib.hid hn2
  have hg : ((n1 : Int) + (n2 : Int)) = ((n1 + n2 : Nat) : Int) := by omega
  have HG0 := Lib.hid (grow102_calls (n1 + n2) w hn)
  rw [← hg] at HG0
  have hq := World.block_lt_of_cell? w _ c0
  clear hn1 hn2 hg
  go_enter Tryz.func56, Tryz.ntmps56
  go_wp2
  refine wp_loop_rounds 3 ?_
  rw [rounds_succ]
  go_wp2_with fail
  rw [rounds_succ]
  go_wp2_with fail
  rw [rounds_succ]
  go_wp2_with fail
  refine HG0.out.mono ?_
  rintro e w2 ⟨⟨v, rfl, hO⟩, hg2⟩
  have HG2 := Lib.hid hg2
  have HO := Lib.hid hO
  have c0' := hg2.cell c0
  have c1' := hg2.cell c1
  have hsz := hg2.below.size
  clear hO hg2 c0 c1 HG0
  go_wp2_with fail
  refine wp_loop_rounds 3 ?_
  rw [rounds_succ]
  go_wp2_with (at_builtin; refine wpList_append_reads (by rfl) _ _ _ (by rfl) w.heap.size 51 i0 _ 4 48 under23 hi0 hz0 hz1 hz2 rfl (by omega) v _ _ (by rfl) HO.out _ l1 (by rfl) encSa_len (HG2.out.reads H1.out) encSa_one (by rw [HN1.out]; unfold maxLen; omega) (by rw [HN1.out]; omega) hsz ?_; intro v3 w3 hown3 hgrow3 hfr3)
  have K3 : Hid (Keeps (· < w.heap.size) w w3) := Lib.hid (((Keeps.of_grows HG2.out fun _ h => h)).trans ((Keeps.refl _ _).grown hgrow3 (fun k h => Nat.lt_of_lt_of_le h hsz) (fun g e h => by have := (HO.out.lt g e).1; omega)))
  have O3 := Lib.hid hown3
  have c1'' : w3.cell? ⟨q, 1, none⟩ = some (.slice A2 n2 d2) := by
    have hne : v.ownBlock ≠ some q := fun e => by have := (HO.out.lt q e).1; have : q < w.heap.size := hq; omega
    rw [hgrow3.cell_far _ (Nat.lt_of_lt_of_le hq hsz) (Ne.symm hne)]
    exact c1'
  have hsz3 := K3.out.size
  clear hown3 hgrow3 hfr3 c0' c1'
  go_wp2_with fail
  rw [rounds_succ]
  go_wp2_with (at_builtin; refine wpList_append_reads (by rfl) _ _ _ (by rfl) w.heap.size 51 i0 _ 4 48 under23 hi0 hz0 hz1 hz2 rfl (by omega) v3 _ _ (by rfl) O3.out _ l2 (by rfl) encSa_len (K3.out.reads (fun _ h => h) H2.out) encSa_one (by rw [HN1.out, HN2.out]; unfold maxLen; omega) (by rw [HN1.out, HN2.out]; omega) hsz3 ?_; intro v4 w4 hown4 hgrow4 hfr4)
  have K4 : Hid (Keeps (· < w.heap.size) w w4) := Lib.hid (K3.out.trans ((Keeps.refl _ _).grown hgrow4 (fun k h => Nat.lt_of_lt_of_le h hsz3) (fun g e h => by have := (O3.out.lt g e).1; omega)))
  have O4 := Lib.hid hown4
  clear hown4 hgrow4 hfr4
  go_wp2_with fail
  rw [rounds_succ]
  go_wp2_with fail
  go_ret
  refine ⟨⟨_, rfl, ?_⟩, K4.out.below⟩
  have := O4.out
  simpa [flatE] using this

end Go.Proofs.YteandmolnbcmmaaGreatDoor
