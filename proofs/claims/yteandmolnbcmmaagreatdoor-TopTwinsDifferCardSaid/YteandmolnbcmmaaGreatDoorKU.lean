/- Walk: wSpells, slices.Equal of spells, wAlike. Walk: wAlike. append of a slice that reads as a list; slices.Clone of rules, samples, spells. No condition beyond what each theorem states. -/
import Derived.Laws.StructEq
import Derived.Test.YteandmolnbcmmaaGreatDoorKT

namespace Go.Proofs.YteandmolnbcmmaaGreatDoor
open Go.RowKit Go.Sort

def WPost (w : World) (rs : List Rule) (l : List Samp) (win : Int × Int) (e : Ending) (w' : World) : Prop :=
  (∃ ov, e = .returned (.tuple #[ov, .bool (decide (faultOf rs l win = 0))]) ∧ Own w' w.heap.size 34 4 ov (spOf rs l win).length (flatE encSp (spOf rs l win))) ∧ Below w.heap.size w w'

set_option maxHeartbeats 1000000 in
theorem wSpells_calls {w : World} {rv sv : Value} {rs : List Rule} {l : List Samp} {f t : Int} (hr : ReadsK w 10 rv (rs.map encR)) (hs : ReadsK w 4 sv (l.map encSa)) (hzr : SizedR rs) (hzs : SizedSa l) :
    Calls Tryz.prog 16 #[rv, sv, .agg #[.int .i64 f, .int .i64 t]] w (WPost w rs l (f, t)) := by
  have HG := Lib.hid ((Grows.refl w).alloc (.cells #[.int .i64 f, .int .i64 t] 25))
  have HR := Lib.hid (HG.out.reads hr)
  have HS := Lib.hid (HG.out.reads hs)
  have HZ := Lib.hid hzr
  have HY := Lib.hid hzs
  clear hr hs hzr hzs
  obtain ⟨x, hx⟩ : ∃ x, faultOf rs l (f, t) = x := ⟨_, rfl⟩
  have HX := Lib.hid hx
  clear hx
  go_enter Tryz.func16, Tryz.ntmps16
  go_wp2_with fail
  refine (spells_calls HR.out HS.out HZ.out HY.out).mono ?_
  rintro e w2 ⟨⟨ov, rfl, hO⟩, hB⟩
  rw [HX.out]
  have HO := Lib.hid hO
  have HB := Lib.hid (HG.out.below.trans (hB.mono (by simp)))
  clear hO hB
  go_wp2_with fail
  go_ret2
  refine ⟨⟨_, ?_, HO.out.lower (by simp)⟩, HB.out⟩
  rw [HX.out]
  by_cases h : x = 0 <;> simp [h]

def spB (x y : Spell) : Bool := x.device.toList == y.device.toList && (x.rule.toList == y.rule.toList && (x.from_ == y.from_ && x.to_ == y.to_))

theorem spB_true (x y : Spell) : spB x y = true ↔ x = y := by
  unfold spB
  simp only [Bool.and_eq_true, beq_iff_eq]
  constructor
  · rintro ⟨h1, h2, h3, h4⟩
    rw [Lib.toList_data, Lib.toList_data] at h1 h2
    cases x; cases y
    simp only [Spell.mk.injEq]
    exact ⟨bytes_ext h1, bytes_ext h2, h3, h4⟩
  · rintro rfl
    exact ⟨rfl, rfl, rfl, rfl⟩

theorem neq34 (x y : Spell) (w : World) : (binOp .neq 34 (.agg #[.string x.device, .string x.rule, .int .i64 x.from_, .int .i64 x.to_]) (.agg #[.string y.device, .string y.rule, .int .i64 y.from_, .int .i64 y.to_])).run Tryz.prog w = .ok (.bool (!spB x y)) w := by
  rw [run_neq_struct]
  simp [go_sem, Tryz.underlying34]
  unfold spB
  by_cases h1 : x.device.toList = y.device.toList <;> by_cases h2 : x.rule.toList = y.rule.toList <;> by_cases h3 : x.from_ = y.from_ <;> by_cases h4 : x.to_ = y.to_ <;> simp [h1, h2, h3, h4]

def eqL (X Y : List Spell) : Bool := decide (X.length = Y.length) && (List.zipWith spB X Y).all id

theorem eqL_true (X Y : List Spell) : eqL X Y = true ↔ X = Y := by
  unfold eqL
  rw [Bool.and_eq_true, decide_eq_true_eq]
  constructor
  · rintro ⟨hl, h⟩
    refine List.ext_getElem? fun i => ?_
    by_cases hi : i < X.length
    · have hj : i < Y.length := by omega
      rw [List.getElem?_eq_getElem hi, List.getElem?_eq_getElem hj]
      congr 1
      rw [← spB_true]
      rw [List.all_eq_true] at h
      refine h _ ?_
      have hz : i < (List.zipWith spB X Y).length := by rw [List.length_zipWith]; omega
      have := List.getElem_mem hz
      rwa [List.getElem_zipWith] at this
    · rw [List.getElem?_eq_none (by omega), List.getElem?_eq_none (by omega)]
  · rintro rfl
    refine ⟨rfl, ?_⟩
    rw [List.all_eq_true]
    intro b hb
    obtain ⟨i, hi, rfl⟩ := List.mem_iff_getElem.1 hb
    rw [List.getElem_zipWith]
    exact (spB_true _ _).2 rfl

theorem eqL_not {X Y : List Spell} {k : Nat} {x y : Spell} (hx : X[k]? = some x) (hy : Y[k]? = some y) (h : spB x y = false) : eqL X Y = false := by
  rw [Bool.eq_false_iff]
  intro he
  rw [eqL_true] at he
  subst he
  rw [hx] at hy
  cases hy
  rw [(spB_true x x).2 rfl] at h
  cases h

theorem eqL_len {X Y : List Spell} (h : X.length ≠ Y.length) : eqL X Y = false := by
  unfold eqL; simp [h]

set_option maxHeartbeats 2000000 in
set_option maxRecDepth 100000 in
theorem equal_calls {w : World} {v1 v2 : Value} {X Y : List Spell} (h1 : ReadsK w 4 v1 (X.map encSp)) (h2 : ReadsK w 4 v2 (Y.map encSp)) (hn : X.length ≤ 1000000000000) (hm : Y.length ≤ 1000000000000) :
    Calls Tryz.prog 20 #[v1, v2] w fun e w' => e = .returned (.bool (eqL X Y)) ∧ Grows w w' := by
  obtain ⟨A, c, rfl, hc, hr1⟩ := h1
  obtain ⟨B, d, rfl, hd, hr2⟩ := h2
  rw [List.length_map] at hc hd ⊢
  rw [List.length_map]
  have HA := Lib.hid hr1
  have HB := Lib.hid hr2
  clear hr1 hr2
  by_cases hl : X.length = Y.length
  · obtain ⟨n, hnn⟩ : ∃ n, X.length = n := ⟨_, rfl⟩
    have hmm : Y.length = n := by omega
    rw [hnn] at hn hc ⊢
    rw [hmm] at hm hd ⊢
    have HX := Lib.hid hnn
    have HY := Lib.hid hmm
    clear hnn hmm hl
    go_enter Tryz.func20, Tryz.ntmps20
    go_wp2_with fail
    go_loopw [13] (fun i wr => ∃ k : Nat, k ≤ n ∧ i = .int .i64 k ∧ Grows w wr ∧ Hid (∀ j, j < k → X[j]? = Y[j]?)) (fun i _ => n - (intOf i).toNat)
    case atStart => exact ⟨0, Nat.zero_le _, rfl, Grows.refl w, Lib.hid (by intro j hj; omega)⟩
    case round =>
      obtain ⟨k, hk, rfl, hg, H⟩ := hrel
      by_cases hlt : k < n
      · obtain ⟨x, hx⟩ : ∃ x, X[k]? = some x := ⟨X[k]'(by rw [HX.out]; exact hlt), List.getElem?_eq_getElem _⟩
        obtain ⟨y, hy⟩ : ∃ y, Y[k]? = some y := ⟨Y[k]'(by rw [HY.out]; exact hlt), List.getElem?_eq_getElem _⟩
        obtain ⟨b, o, rfl, hrow⟩ := HA.out (by intro e; rw [List.map_eq_nil_iff] at e; rw [e] at hx; simp at hx)
        obtain ⟨b', o', rfl, hrow'⟩ := HB.out (by intro e; rw [List.map_eq_nil_iff] at e; rw [e] at hy; simp at hy)
        have hcs := hg.cells (hrow k (encSp x) (by rw [List.getElem?_map, hx]; rfl))
        have hcs' := hg.cells (hrow' k (encSp y) (by rw [List.getElem?_map, hy]; rfl))
        have c0 : wr.cell? ⟨b, o + k * 4, none⟩ = some (.string x.device) := hcs 0 _ rfl
        have c1 : wr.cell? ⟨b, o + k * 4 + 1, none⟩ = some (.string x.rule) := hcs 1 _ rfl
        have c2 : wr.cell? ⟨b, o + k * 4 + 2, none⟩ = some (.int .i64 x.from_) := hcs 2 _ rfl
        have c3 : wr.cell? ⟨b, o + k * 4 + 3, none⟩ = some (.int .i64 x.to_) := hcs 3 _ rfl
        have d0 : wr.cell? ⟨b', o' + k * 4, none⟩ = some (.string y.device) := hcs' 0 _ rfl
        have d1 : wr.cell? ⟨b', o' + k * 4 + 1, none⟩ = some (.string y.rule) := hcs' 1 _ rfl
        have d2 : wr.cell? ⟨b', o' + k * 4 + 2, none⟩ = some (.int .i64 y.from_) := hcs' 2 _ rfl
        have d3 : wr.cell? ⟨b', o' + k * 4 + 3, none⟩ = some (.int .i64 y.to_) := hcs' 3 _ rfl
        have HG := Lib.hid hg
        have Hx := Lib.hid hx
        have Hy := Lib.hid hy
        have hd : (k : Int) < (n : Int) := by omega
        have hq := neq34 x y
        clear hrow hrow' hcs hcs' hg hx hy
        cases hxy : spB x y with
        | true =>
          rw [hxy] at hq
          have HE := Lib.hid ((spB_true x y).1 hxy)
          clear hxy
          go_wp2_with fail
          go_quiet (fail)
          go_wp2_with fail
          go_roundw
          case rel => exact ⟨k + 1, by omega, by go_num, HG.out.drewN _, Lib.hid (by
            intro j hj
            by_cases e : j = k
            · subst e; rw [Hx.out, Hy.out, HE.out]
            · exact H.out j (by omega))⟩
          case measure => simp [intOf]; omega
        | false =>
          rw [hxy] at hq
          have HE := Lib.hid (eqL_not Hx.out Hy.out hxy)
          clear hxy
          go_wp2_with fail
          go_quiet (fail)
          go_wp2_with fail
          go_ret
          exact ⟨ret_bool HE.out.symm, HG.out.drewN _⟩
      · have hkn : k = n := by omega
        subst hkn
        have hd : ¬ (k : Int) < (k : Int) := by omega
        have HE : Hid (eqL X Y = true) := Lib.hid ((eqL_true X Y).2 (List.ext_getElem? fun j => by
          by_cases hj : j < k
          · exact H.out j hj
          · rw [List.getElem?_eq_none (by rw [HX.out]; omega), List.getElem?_eq_none (by rw [HY.out]; omega)]))
        go_wp2_with fail
        go_ret
        exact ⟨ret_bool HE.out.symm, hg⟩
  · have HE := Lib.hid (eqL_len hl)
    have hb : ((X.length : Int) != (Y.length : Int)) = true := by simpa using (by omega : ¬ (X.length : Int) = Y.length)
    go_enter Tryz.func20, Tryz.ntmps20
    go_wp2_with fail
    go_ret
    exact ⟨ret_bool HE.out.symm, Grows.refl w⟩

end Go.Proofs.YteandmolnbcmmaaGreatDoor

namespace Go.Proofs.YteandmolnbcmmaaGreatDoor
open Go.RowKit Go.Sort

/-- It says yes; nothing that stood has turned. -/
def Yes (w : World) (e : Ending) (w' : World) : Prop := e = .returned (.bool true) ∧ Below w.heap.size w w'

theorem Own.reads_below {α : Type} {enc : α → List Value} {k : Nat} (hk : ∀ x, (enc x).length = k) {w : World} {base : Nat} {e : TypeId} {v : Value} {l : List α} (h : Own w base e k v l.length (flatE enc l)) : ReadsK w k v (l.map enc) := h.reads hk

set_option maxHeartbeats 1000000 in
theorem wAlike_soft {w : World} {wv rv sv : Value} {rs : List Rule} {l : List Samp} {f t : Int} (hr : ReadsK w 10 rv (rs.map encR)) (hs : ReadsK w 4 sv (l.map encSa)) (hzr : SizedR rs) (hzs : SizedSa l)
    (x : Int) (hf : faultOf rs l (f, t) = x) (h125 : x = 1 ∨ x = 5 ∨ x = 2) (h : chkR rs ≠ 0 ∨ chkS l ≠ 0 ∨ END < t) :
    Calls Tryz.prog 24 #[wv, rv, sv, .agg #[.int .i64 f, .int .i64 t]] w (Yes w) := by
  have HG := Lib.hid ((Grows.refl w).alloc (.cells #[.int .i64 f, .int .i64 t] 25))
  have HW := Lib.hid (Blk.new w 25 #[.int .i64 f, .int .i64 t])
  have HR := Lib.hid (HG.out.reads hr)
  have HS := Lib.hid (HG.out.reads hs)
  have HZ := Lib.hid hzr
  have HY := Lib.hid hzs
  clear hr hs hzr hzs
  have HX := Lib.hid hf
  clear hf
  obtain ⟨p, hp⟩ : ∃ p, chkR rs = p := ⟨_, rfl⟩
  obtain ⟨q, hq⟩ : ∃ q, chkS l = q := ⟨_, rfl⟩
  rw [hp, hq] at h
  have HP := Lib.hid hp
  have HQ := Lib.hid hq
  clear hp hq
  rcases h125 with rfl | rfl | rfl
  all_goals
    go_enter Tryz.func24, Tryz.ntmps24
    go_wp2_with fail
    refine (spells_calls HR.out HS.out HZ.out HY.out).mono ?_
    rintro e w2 ⟨⟨ov, rfl, hO⟩, hB⟩
    rw [HX.out]
    have HB := Lib.hid (HG.out.below.trans (hB.mono (by simp)))
    have K2 := Keeps.of_below hB
    have HR2 := Lib.hid (K2.reads (fun _ h => h) HR.out)
    have HS2 := Lib.hid (K2.reads (fun _ h => h) HS.out)
    have d1 : w2.cell? ⟨w.heap.size, 1, none⟩ = some (.int .i64 t) := K2.cell (by simp) (HW.out.cell 1)
    clear hO hB K2
    by_cases h1 : p = 0
    · by_cases h2 : q = 0
      · have h3 : END < t := by
          rcases h with h | h | h
          · exact absurd h1 h
          · exact absurd h2 h
          · exact h
        subst h1 h2
        clear h
        go_wp2_with fail
        refine (checkRules_calls rs _ _ HR2.out HZ.out).mono ?_
        rintro e w3 ⟨rfl, hg3⟩
        rw [HP.out]
        have HS3 := Lib.hid (hg3.reads HS2.out)
        have d2 : w3.cell? ⟨w.heap.size, 1, none⟩ = some (.int .i64 t) := hg3.cell d1
        have HB3 := Lib.hid (HB.out.trans (hg3.below.mono HB.out.size))
        clear hg3 d1
        go_wp2_with fail
        refine (checkSamples_calls l _ _ HS3.out HY.out).mono ?_
        rintro e w4 ⟨rfl, hg4⟩
        rw [HQ.out]
        have d3 : w4.cell? ⟨w.heap.size, 1, none⟩ = some (.int .i64 t) := hg4.cell d2
        have HB4 := Lib.hid (HB3.out.trans (hg4.below.mono HB3.out.size))
        clear hg4 d2
        go_wp2_with fail
        go_ret
        exact ⟨rfl, HB4.out⟩
      · have hb : (q != 0) = true := by simpa using h2
        subst h1
        clear h
        go_wp2_with fail
        refine (checkRules_calls rs _ _ HR2.out HZ.out).mono ?_
        rintro e w3 ⟨rfl, hg3⟩
        rw [HP.out]
        have HS3 := Lib.hid (hg3.reads HS2.out)
        have HB3 := Lib.hid (HB.out.trans (hg3.below.mono HB.out.size))
        clear hg3 d1
        go_wp2_with fail
        refine (checkSamples_calls l _ _ HS3.out HY.out).mono ?_
        rintro e w4 ⟨rfl, hg4⟩
        rw [HQ.out]
        have HB4 := Lib.hid (HB3.out.trans (hg4.below.mono HB3.out.size))
        clear hg4
        go_wp2_with fail
        go_ret
        exact ⟨rfl, HB4.out⟩
    · have hb : (p != 0) = true := by simpa using h1
      clear h
      go_wp2_with fail
      refine (checkRules_calls rs _ _ HR2.out HZ.out).mono ?_
      rintro e w3 ⟨rfl, hg3⟩
      rw [HP.out]
      have HB3 := Lib.hid (HB.out.trans (hg3.below.mono HB.out.size))
      clear hg3 d1
      go_wp2_with fail
      go_ret
      exact ⟨rfl, HB3.out⟩

set_option maxHeartbeats 1000000 in
theorem wAlike_ok {w : World} {wv rv sv : Value} {rs : List Rule} {l : List Samp} {f t : Int} {X : List Spell} (hw : ReadsK w 4 wv (X.map encSp)) (hr : ReadsK w 10 rv (rs.map encR)) (hs : ReadsK w 4 sv (l.map encSa)) (hzr : SizedR rs) (hzs : SizedSa l)
    (hf : faultOf rs l (f, t) = 0) (h : spells rs l (f, t) = X) (hn : X.length ≤ 1000000000000) :
    Calls Tryz.prog 24 #[wv, rv, sv, .agg #[.int .i64 f, .int .i64 t]] w (Yes w) := by
  have HG := Lib.hid ((Grows.refl w).alloc (.cells #[.int .i64 f, .int .i64 t] 25))
  have HWv := Lib.hid (HG.out.reads hw)
  have HR := Lib.hid (HG.out.reads hr)
  have HS := Lib.hid (HG.out.reads hs)
  have HZ := Lib.hid hzr
  have HY := Lib.hid hzs
  clear hw hr hs hzr hzs
  have HX := Lib.hid hf
  have HE := Lib.hid h
  clear hf h
  go_enter Tryz.func24, Tryz.ntmps24
  go_wp2_with fail
  refine (spells_calls HR.out HS.out HZ.out HY.out).mono ?_
  rintro e w2 ⟨⟨ov, rfl, hO⟩, hB⟩
  rw [HX.out]
  have hsp : spOf rs l (f, t) = X := by unfold spOf; rw [if_pos HX.out]; exact HE.out
  rw [hsp] at hO
  have HB := Lib.hid (HG.out.below.trans (hB.mono (by simp)))
  have HO := Lib.hid (hO.reads encSp_len)
  have HW2 := Lib.hid ((Keeps.of_below hB).reads (fun _ h => h) HWv.out)
  clear hO hB hsp
  go_wp2_with fail
  refine (equal_calls HO.out HW2.out hn hn).mono ?_
  rintro e w3 ⟨rfl, hg⟩
  rw [(eqL_true X X).2 rfl]
  have HB3 := Lib.hid (HB.out.trans (hg.below.mono HB.out.size))
  clear hg
  go_wp2_with fail
  go_ret
  exact ⟨rfl, HB3.out⟩

theorem wAlike_calls {w : World} {wv rv sv : Value} {rs : List Rule} {l : List Samp} {f t : Int} {X : List Spell} (hw : ReadsK w 4 wv (X.map encSp)) (hr : ReadsK w 10 rv (rs.map encR)) (hs : ReadsK w 4 sv (l.map encSa)) (hzr : SizedR rs) (hzs : SizedSa l)
    (h : alikeP X rs l (f, t)) (hn : X.length ≤ 1000000000000) :
    Calls Tryz.prog 24 #[wv, rv, sv, .agg #[.int .i64 f, .int .i64 t]] w (Yes w) := by
  unfold alikeP at h
  dsimp only at h
  by_cases h125 : faultOf rs l (f, t) = 1 ∨ faultOf rs l (f, t) = 5 ∨ faultOf rs l (f, t) = 2
  · rw [if_pos h125] at h
    exact wAlike_soft hr hs hzr hzs _ rfl h125 h
  · rw [if_neg h125] at h
    exact wAlike_ok hw hr hs hzr hzs h.1 h.2 hn

end Go.Proofs.YteandmolnbcmmaaGreatDoor

namespace Go.Proofs.YteandmolnbcmmaaGreatDoor
open Go.RowKit Go.Sort

theorem row_cells {α : Type} {enc : α → List Value} {k : Nat} (hk : ∀ x, (enc x).length = k) {w : World} {b : Nat} : ∀ (l : List α) (o : Nat), RowAt w k b o (l.map enc) → ∀ j u, (flatE enc l)[j]? = some u → w.cell? ⟨b, o + j, none⟩ = some u
  | [], _, _, j, u, h => by simp [flatE] at h
  | x :: l, o, hr, j, u, h => by
    simp only [flatE, List.flatMap_cons] at h
    by_cases hj : j < k
    · rw [List.getElem?_append_left (by rw [hk]; exact hj)] at h
      have := hr 0 (enc x) rfl j u h
      rwa [Nat.zero_mul, Nat.add_zero] at this
    · rw [List.getElem?_append_right (by rw [hk]; omega), hk] at h
      have hr' : RowAt w k b (o + k) (l.map enc) := fun i y hi => by
        have := hr (i + 1) y (by simpa using hi)
        rwa [Nat.succ_mul, Nat.add_comm (i * k) k, ← Nat.add_assoc] at this
      have := row_cells hk l (o + k) hr' (j - k) u h
      rwa [show o + k + (j - k) = o + j by omega] at this

section
variable {P : Program}
theorem run_append_reads {α : Type} {enc : α → List Value} (w : World) (base : Nat) (t ty e : TypeId) (i : TypeInfo) (z : Value) (size bytes : Nat) (ht : P.underlying t = some (.slice e)) (hi : P.info? e = some i) (hz : i.zero = some z)
    (hsize : i.size = size) (hby : i.bytes = bytes) (hzs : z.cells.size = size) (hsz : 0 < size)
    (v : Value) (n : Nat) (xs : List Value) (hown : Own w base e size v n xs) (u : Value) (l : List α) (hk : ∀ x, (enc x).length = size) (hsrc : ReadsK w size u (l.map enc)) (h1 : ∀ x, ∀ v ∈ enc x, v.oneCell' = true)
    (h63 : n + l.length ≤ maxLen) (hbytes : (n + l.length) * bytes ≤ 140737488355328) (hbase : base ≤ w.heap.size) :
    ∃ v' w', (Builtin.append_ #[t, t] ty #[v, u]).run P w = .ok v' w' ∧ Own w' base e size v' (n + l.length) (xs ++ flatE enc l) ∧ w.grownBy w' v.ownBlock ∧
      (v'.ownBlock = v.ownBlock ∨ ∃ g, v'.ownBlock = some g ∧ w.heap.size ≤ g) := by
  obtain ⟨A, c, rfl, hc, hr⟩ := hsrc
  rw [List.length_map] at hc ⊢
  by_cases hl : l = []
  · subst hl
    refine ⟨v, w, run_append_empty w t ty e i ht hi base size n v xs hown A c, by simpa [flatE] using hown, ⟨rfl, rfl, rfl, Nat.le_refl _, fun _ _ _ => rfl⟩, .inl rfl⟩
  · obtain ⟨b, o, rfl, hrow⟩ := hr (by simpa using hl)
    refine run_append_Own w base t ty e i z size bytes ht hi hz hsize hby hzs hsz v n xs hown ⟨b, o, none⟩ l.length c (flatE enc l) (flatE_length hk l) (fun j x hx => ?_) (flatE_one h1 l) h63 hbytes hbase
    have hadd : (⟨b, o, none⟩ : Addr).add j = ⟨b, o + j, none⟩ := by unfold Addr.add; split <;> simp_all
    rw [hadd]
    exact row_cells hk l o hrow j x hx

theorem wpList_append_reads {α : Type} {enc : α → List Value} {w : World} {ops : Array Oper} {rest : List Oper} {o : Oper} {a : Act} {Q : Exit → Act → World → Prop} (hgd : o.guard = none) (s x : Operand) (t : TypeId)
    (ho : o.op = .call { callee := .builtin .append, args := #[s, x], argTypes := #[t, t] })
    (base : Nat) (e : TypeId) (i : TypeInfo) (z : Value) (size bytes : Nat) (ht : P.underlying t = some (.slice e)) (hi : P.info? e = some i) (hz : i.zero = some z)
    (hsize : i.size = size) (hby : i.bytes = bytes) (hzs : z.cells.size = size) (hsz : 0 < size)
    (v : Value) (n : Nat) (xs : List Value) (hs : a.eval s = v) (hown : Own w base e size v n xs) (u : Value) (l : List α) (hx : a.eval x = u) (hk : ∀ x, (enc x).length = size) (hsrc : ReadsK w size u (l.map enc)) (h1 : ∀ x, ∀ v ∈ enc x, v.oneCell' = true)
    (h63 : n + l.length ≤ maxLen) (hbytes : (n + l.length) * bytes ≤ 140737488355328) (hbase : base ≤ w.heap.size)
    (h : ∀ v' w', Own w' base e size v' (n + l.length) (xs ++ flatE enc l) → w.grownBy w' v.ownBlock → (v'.ownBlock = v.ownBlock ∨ ∃ g, v'.ownBlock = some g ∧ w.heap.size ≤ g) → wpList P ops Q rest (a.put o.dst v') w') : wpList P ops Q (o :: rest) a w :=
  wpList_plain hgd fun K hK => by
    obtain ⟨v', w', hr, h2, h3, h4⟩ := run_append_reads (P := P) w base t o.type e i z size bytes ht hi hz hsize hby hzs hsz v n xs hown u l hk hsrc h1 h63 hbytes hbase
    unfold Oper.wp execOp
    simp only [ho, resolve, invoke, builtin, Sem.run_bind, Sem.run_pure, Result.andThen_ok, List.map_toArray, List.map_cons, List.map_nil, hs, hx, hr]
    exact hK _ _ (h v' w' h2 h3 h4)
end

theorem encR_len (r : Rule) : (encR r).length = 10 := rfl
theorem encR_one (x : Rule) : ∀ v ∈ encR x, v.oneCell' = true := by
  intro v hv
  simp [encR] at hv
  rcases hv with rfl | rfl | rfl | rfl | rfl | rfl | rfl | rfl | rfl | rfl <;> rfl
theorem encSa_one (x : Samp) : ∀ v ∈ encSa x, v.oneCell' = true := by
  intro v hv
  simp [encSa] at hv
  rcases hv with rfl | rfl | rfl | rfl <;> rfl

theorem info51 : (Tryz.prog.info? 51).map (fun i => (i.zero, i.size, i.bytes)) = some (some (.agg #[.string ByteArray.empty, .string ByteArray.empty, .int .i64 0, .int .i64 0]), 4, 48) := by kernel_rfl
theorem info31 : (Tryz.prog.info? 31).map (fun i => (i.zero, i.size, i.bytes)) = some (some (.agg #[.string ByteArray.empty, .string ByteArray.empty, .int .i64 0, .int .i64 0, .bool false, .int .i64 0, .int .i64 0, .int .i64 0, .int .i64 0, .int .i64 0]), 10, 96) := by kernel_rfl
theorem under23 : Tryz.prog.underlying 23 = some (.slice 51) := by kernel_rfl
theorem under22 : Tryz.prog.underlying 22 = some (.slice 31) := by kernel_rfl

theorem Own.empty (w : World) (base : Nat) (e : TypeId) (k : Nat) (h : base ≤ w.heap.size) : Own (w.alloc (.cells #[] e)) base e k (.slice (some ⟨w.heap.size, 0, none⟩) 0 0) 0 [] :=
  ⟨by simp, .inr ⟨w.heap.size, 0, 0, #[], rfl, h, heap_alloc_new w _, Nat.le_refl _, by unfold maxLen; omega, by simp, by simp⟩⟩

theorem ReadsK.nil_iff {w : World} {k : Nat} {xs : List (List Value)} (h : ReadsK w k (.slice none 0 0) xs) : xs = [] := by
  obtain ⟨A, c, e, _, _⟩ := h
  injection e with _ e2
  exact List.eq_nil_of_length_eq_zero e2.symm

def ClonePost {α : Type} (enc : α → List Value) (e : TypeId) (k : Nat) (w : World) (l : List α) (en : Ending) (w' : World) : Prop :=
  (∃ ov, en = .returned ov ∧ Own w' w.heap.size e k ov l.length (flatE enc l)) ∧ Below w.heap.size w w'

set_option maxHeartbeats 1000000 in
set_option maxRecDepth 100000 in
theorem clone35_calls {w : World} {v : Value} {l : List Samp} (hl : ReadsK w 4 v (l.map encSa)) (hn : l.length * 48 ≤ 140737488355328) :
    Calls Tryz.prog 35 #[v] w (ClonePost encSa 51 4 w l) := by
  obtain ⟨i0, hi0, hz0, hz1, hz2⟩ := info_parts info51
  have HL := Lib.hid hl
  obtain ⟨A, c, hv, hc, hx⟩ := hl
  subst hv
  rw [List.length_map] at hc HL ⊢
  have q := fun (w : World) (a : Option Addr) (n c n' c' : Nat) => Lib.run_eql_slice_nil w _ _ a n c n' c' under23
  cases A with
  | none =>
    have hl : l = [] := by
      by_cases h : l = []
      · exact h
      · obtain ⟨b, o, h2, _⟩ := hx (by simpa using h)
        cases h2
    subst hl
    go_enter Tryz.func35, Tryz.ntmps35
    go_wp2
    go_ret
    exact ⟨⟨_, rfl, Own.nil _ _ _ _⟩, Below.refl _ _⟩
  | some a =>
    clear hx
    go_enter Tryz.func35, Tryz.ntmps35
    go_wp2_with (at_builtin; refine wpList_append_reads (by rfl) _ _ _ (by rfl) w.heap.size 51 i0 _ 4 48 under23 hi0 hz0 hz1 hz2 rfl (by omega) _ _ _ (by rfl) (Own.empty w w.heap.size 51 4 (Nat.le_refl _)) _ l (by rfl) encSa_len (((Grows.refl w).alloc _).reads HL.out) encSa_one (by unfold maxLen; omega) (by omega) (by simp) ?_; intro v' w2 hown hgrow hfr)
    go_wp2_with fail
    go_ret
    refine ⟨⟨v', rfl, by simpa using hown⟩, ?_⟩
    exact ((Below.refl _ w).alloc (Nat.le_refl _) _).grown hgrow (by simp) (by intro k hk; simp [Value.ownBlock] at hk; omega)

set_option maxHeartbeats 1000000 in
set_option maxRecDepth 100000 in
theorem clone36_calls {w : World} {v : Value} {l : List Spell} (hl : ReadsK w 4 v (l.map encSp)) (hn : l.length * 48 ≤ 140737488355328) :
    Calls Tryz.prog 36 #[v] w (ClonePost encSp 34 4 w l) := by
  obtain ⟨i0, hi0, hz0, hz1, hz2⟩ := info_parts info34
  have HL := Lib.hid hl
  obtain ⟨A, c, hv, hc, hx⟩ := hl
  subst hv
  rw [List.length_map] at hc HL ⊢
  have q := fun (w : World) (a : Option Addr) (n c n' c' : Nat) => Lib.run_eql_slice_nil w _ _ a n c n' c' under26
  cases A with
  | none =>
    have hl : l = [] := by
      by_cases h : l = []
      · exact h
      · obtain ⟨b, o, h2, _⟩ := hx (by simpa using h)
        cases h2
    subst hl
    go_enter Tryz.func36, Tryz.ntmps36
    go_wp2
    go_ret
    exact ⟨⟨_, rfl, Own.nil _ _ _ _⟩, Below.refl _ _⟩
  | some a =>
    clear hx
    go_enter Tryz.func36, Tryz.ntmps36
    go_wp2_with (at_builtin; refine wpList_append_reads (by rfl) _ _ _ (by rfl) w.heap.size 34 i0 _ 4 48 under26 hi0 hz0 hz1 hz2 rfl (by omega) _ _ _ (by rfl) (Own.empty w w.heap.size 34 4 (Nat.le_refl _)) _ l (by rfl) encSp_len (((Grows.refl w).alloc _).reads HL.out) encSp_one (by unfold maxLen; omega) (by omega) (by simp) ?_; intro v' w2 hown hgrow hfr)
    go_wp2_with fail
    go_ret
    refine ⟨⟨v', rfl, by simpa using hown⟩, ?_⟩
    exact ((Below.refl _ w).alloc (Nat.le_refl _) _).grown hgrow (by simp) (by intro k hk; simp [Value.ownBlock] at hk; omega)

set_option maxHeartbeats 1000000 in
set_option maxRecDepth 100000 in
theorem clone37_calls {w : World} {v : Value} {l : List Rule} (hl : ReadsK w 10 v (l.map encR)) (hn : l.length * 96 ≤ 140737488355328) :
    Calls Tryz.prog 37 #[v] w (ClonePost encR 31 10 w l) := by
  obtain ⟨i0, hi0, hz0, hz1, hz2⟩ := info_parts info31
  have HL := Lib.hid hl
  obtain ⟨A, c, hv, hc, hx⟩ := hl
  subst hv
  rw [List.length_map] at hc HL ⊢
  have q := fun (w : World) (a : Option Addr) (n c n' c' : Nat) => Lib.run_eql_slice_nil w _ _ a n c n' c' under22
  cases A with
  | none =>
    have hl : l = [] := by
      by_cases h : l = []
      · exact h
      · obtain ⟨b, o, h2, _⟩ := hx (by simpa using h)
        cases h2
    subst hl
    go_enter Tryz.func37, Tryz.ntmps37
    go_wp2
    go_ret
    exact ⟨⟨_, rfl, Own.nil _ _ _ _⟩, Below.refl _ _⟩
  | some a =>
    clear hx
    go_enter Tryz.func37, Tryz.ntmps37
    go_wp2_with (at_builtin; refine wpList_append_reads (by rfl) _ _ _ (by rfl) w.heap.size 31 i0 _ 10 96 under22 hi0 hz0 hz1 hz2 rfl (by omega) _ _ _ (by rfl) (Own.empty w w.heap.size 31 10 (Nat.le_refl _)) _ l (by rfl) encR_len (((Grows.refl w).alloc _).reads HL.out) encR_one (by unfold maxLen; omega) (by omega) (by simp) ?_; intro v' w2 hown hgrow hfr)
    go_wp2_with fail
    go_ret
    refine ⟨⟨v', rfl, by simpa using hown⟩, ?_⟩
    exact ((Below.refl _ w).alloc (Nat.le_refl _) _).grown hgrow (by simp) (by intro k hk; simp [Value.ownBlock] at hk; omega)

end Go.Proofs.YteandmolnbcmmaaGreatDoor
