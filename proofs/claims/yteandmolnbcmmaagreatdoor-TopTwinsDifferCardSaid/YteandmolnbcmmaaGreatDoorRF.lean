/- Walk: rule.Differ at a rule and its twin. Walk: rule.Quorum at a rule and its twin. No condition beyond what each theorem states. -/
import Derived.Test.YteandmolnbcmmaaGreatDoorRE
import Derived.Test.YteandmolnbcmmaaGreatDoorKT
import Derived.Test.YteandmolnbcmmaaGreatDoorRA

namespace Go.Proofs.YteandmolnbcmmaaGreatDoor
open Go.RowKit Go.Sort

/-- A rule as a value. -/
abbrev aggR (r : Rule) : Value := .agg #[.string r.key, .string r.metric, .int .i64 r.agg, .int .i64 r.long, .bool r.above, .int .i64 r.on, .int .i64 r.off, .int .i64 r.hold, .int .i64 r.rest, .int .i64 r.empty]
abbrev objR (r : Rule) : Obj := .cells #[.string r.key, .string r.metric, .int .i64 r.agg, .int .i64 r.long, .bool r.above, .int .i64 r.on, .int .i64 r.off, .int .i64 r.hold, .int .i64 r.rest, .int .i64 r.empty] 31

theorem cellsR_new (w : World) (r : Rule) : Cells (w.alloc (objR r)) w.heap.size 0 (encR r) := by
  intro j u hj
  have := (Blk.new w 31 (encR r).toArray).cell j
  rw [Nat.zero_add]
  rw [List.getElem?_toArray] at this
  exact this.trans hj

theorem readsR_cells {w : World} {b o : Nat} {r : Rule} (h : Cells w b o (encR r)) : ReadsK w 10 (.slice (some ⟨b, o, none⟩) 1 1) ([r].map encR) :=
  ⟨_, _, rfl, Nat.le_refl _, fun _ => ⟨b, o, rfl, fun i x hi => by
    match i, hi with
    | 0, hi =>
      simp at hi
      subst hi
      rw [Nat.zero_mul, Nat.add_zero]
      exact h
    | i + 1, hi => simp at hi⟩⟩

theorem sized1 {x : Rule} (hk : x.key.size ≤ maxLen) (hm : x.metric.size ≤ maxLen) : SizedR [x] := by
  intro r hr
  rw [List.mem_singleton] at hr
  subst hr
  exact ⟨hk, hm⟩

theorem cellsR_at (w : World) (r : Rule) {b : Nat} (hb : w.heap.size = b) : Cells (w.alloc (objR r)) b 0 (encR r) := by subst hb; exact cellsR_new w r

theorem readsNil (w : World) : ReadsK w 10 (.slice none 0 0) (([] : List Rule).map encR) := ⟨none, 0, rfl, Nat.le_refl _, fun h => absurd rfl h⟩

theorem sizedNil : SizedR [] := by intro r hr; cases hr

theorem spans_len {C : List Spell} {D : List ByteArray} (hD : D.Nodup) : (D.flatMap fun d => (spansD C d).map (mkE d)).length ≤ C.length := by
  have h1 := (by_device (C := C.filter fun s => decide (s.device ∈ D)) hD (fun s hs => by simpa using (List.mem_filter.1 hs).2)).length_eq
  have h2 : (D.flatMap fun d => (spansD C d).map (mkE d)).length = (D.flatMap fun d => (C.filter fun s => decide (s.device ∈ D)).filter fun s => decide (s.device = d)).length := by
    rw [List.length_flatMap, List.length_flatMap]
    congr 1
    refine List.map_congr_left fun d hd => ?_
    rw [List.length_map]
    unfold spansD
    rw [List.length_map, List.filter_filter]
    congr 1
    refine List.filter_congr fun s _ => ?_
    by_cases e : s.device = d
    · subst e; simp [hd]
    · simp [e]
  rw [h2, h1]
  exact List.length_filter_le _ _

theorem cut_device {x : Rule} {l : List Samp} (hz : SizedSa l) (w : Int × Int) : ∀ s ∈ cutS w (whole x l), s.device.size ≤ maxLen := by
  intro s hs
  rw [cutS_whole] at hs
  obtain ⟨d, hd, hs⟩ := List.mem_flatMap.1 hs
  rw [(mem_unit hs).1]
  exact devs_size hz d hd

theorem orI3_zero {a b c : Int} (h : orI [a, b, c] = 0) : a = 0 ∧ b = 0 ∧ c = 0 := by
  by_cases ha : a = 0
  · subst ha
    by_cases hb : b = 0
    · subst hb
      by_cases hc : c = 0
      · exact ⟨rfl, rfl, hc⟩
      · simp [orI, hc] at h
    · simp [orI, hb] at h
  · simp [orI, ha] at h

/-- What Differ leaves of a rule and its twin. -/
def DPost (w : World) (x y : Rule) (l : List Samp) (win : Int × Int) (e : Ending) (w' : World) : Prop :=
  (∃ (A : Option Addr) (c : Nat) (r : Int), e = .returned (.tuple #[.slice A 0 c, .int .i64 r]) ∧ (r = 0 → chkR [x] = 0 ∧ chkR [y] = 0 ∧ chkS l = 0 ∧ winOk win)) ∧ Below w.heap.size w w'

theorem fault_nil {l : List Samp} {win : Int × Int} (h : faultOf [] l win = 0) : chkS l = 0 ∧ winOk win := (faultOf_ok h).2

/-- The three boxes of Differ. -/
structure Boxes (V : World) (p1 p2 p3 : Nat) (x y : Rule) (f t : Int) : Prop where
  cx : Cells V p1 0 (encR x)
  cy : Cells V p2 0 (encR y)
  cw : Blk V p3 25 #[.int .i64 f, .int .i64 t]

theorem Boxes.grows {V W : World} {p1 p2 p3 : Nat} {x y : Rule} {f t : Int} (h : Boxes V p1 p2 p3 x y f t) (hg : Grows V W) : Boxes W p1 p2 p3 x y f t :=
  ⟨hg.cells h.cx, hg.cells h.cy, (hg.below.block p3 h.cw.lt).trans h.cw⟩

theorem Boxes.held {W : World} {p1 p2 p3 : Nat} {x y : Rule} {f t : Int} (h : Boxes W p1 p2 p3 x y f t) :
    W.cell? ⟨p1, 0, none⟩ = some (.string x.key) ∧ W.cell? ⟨p1, 1, none⟩ = some (.string x.metric) ∧ W.cell? ⟨p1, 2, none⟩ = some (.int .i64 x.agg) ∧ W.cell? ⟨p1, 3, none⟩ = some (.int .i64 x.long) ∧ W.cell? ⟨p1, 4, none⟩ = some (.bool x.above) ∧ W.cell? ⟨p1, 5, none⟩ = some (.int .i64 x.on) ∧ W.cell? ⟨p1, 6, none⟩ = some (.int .i64 x.off) ∧ W.cell? ⟨p1, 7, none⟩ = some (.int .i64 x.hold) ∧ W.cell? ⟨p1, 8, none⟩ = some (.int .i64 x.rest) ∧ W.cell? ⟨p1, 9, none⟩ = some (.int .i64 x.empty) ∧ W.cell? ⟨p2, 0, none⟩ = some (.string y.key) ∧ W.cell? ⟨p2, 1, none⟩ = some (.string y.metric) ∧ W.cell? ⟨p2, 2, none⟩ = some (.int .i64 y.agg) ∧ W.cell? ⟨p2, 3, none⟩ = some (.int .i64 y.long) ∧ W.cell? ⟨p2, 4, none⟩ = some (.bool y.above) ∧ W.cell? ⟨p2, 5, none⟩ = some (.int .i64 y.on) ∧ W.cell? ⟨p2, 6, none⟩ = some (.int .i64 y.off) ∧ W.cell? ⟨p2, 7, none⟩ = some (.int .i64 y.hold) ∧ W.cell? ⟨p2, 8, none⟩ = some (.int .i64 y.rest) ∧ W.cell? ⟨p2, 9, none⟩ = some (.int .i64 y.empty) ∧ W.cell? ⟨p3, 0, none⟩ = some (.int .i64 f) ∧ W.cell? ⟨p3, 1, none⟩ = some (.int .i64 t) := by
  have cx : ∀ (j : Nat) (u : Value), (encR x)[j]? = some u → W.cell? ⟨p1, j, none⟩ = some u := fun j u hj => by have := h.cx j u hj; rwa [Nat.zero_add] at this
  have cy : ∀ (j : Nat) (u : Value), (encR y)[j]? = some u → W.cell? ⟨p2, j, none⟩ = some u := fun j u hj => by have := h.cy j u hj; rwa [Nat.zero_add] at this
  exact ⟨cx 0 _ rfl, cx 1 _ rfl, cx 2 _ rfl, cx 3 _ rfl, cx 4 _ rfl, cx 5 _ rfl, cx 6 _ rfl, cx 7 _ rfl, cx 8 _ rfl, cx 9 _ rfl, cy 0 _ rfl, cy 1 _ rfl, cy 2 _ rfl, cy 3 _ rfl, cy 4 _ rfl, cy 5 _ rfl, cy 6 _ rfl, cy 7 _ rfl, cy 8 _ rfl, cy 9 _ rfl, h.cw.cell 0, h.cw.cell 1⟩

set_option maxHeartbeats 8000000 in
set_option maxRecDepth 100000 in
theorem differ_calls {w : World} {x y : Rule} {sv : Value} {l : List Samp} {f t : Int} (hs : ReadsK w 4 sv (l.map encSa)) (hzs : SizedSa l) (hxk : x.key.size ≤ maxLen) (hxm : x.metric.size ≤ maxLen) (hyk : y.key.size ≤ maxLen) (hym : y.metric.size ≤ maxLen) (hy : y = twin x) :
    Calls Tryz.prog 30 #[aggR x, aggR y, sv, .agg #[.int .i64 f, .int .i64 t]] w (DPost w x y l (f, t)) := by
  have CX := cellsR_new w x
  have CY := cellsR_new (w.alloc (objR x)) y
  have G0 : Grows w (((w.alloc (.cells #[.string x.key, .string x.metric, .int .i64 x.agg, .int .i64 x.long, .bool x.above, .int .i64 x.on, .int .i64 x.off, .int .i64 x.hold, .int .i64 x.rest, .int .i64 x.empty] 31)).alloc (.cells #[.string y.key, .string y.metric, .int .i64 y.agg, .int .i64 y.long, .bool y.above, .int .i64 y.on, .int .i64 y.off, .int .i64 y.hold, .int .i64 y.rest, .int .i64 y.empty] 31)).alloc (.cells #[.int .i64 f, .int .i64 t] 25)) := (((Grows.refl w).alloc _).alloc _).alloc _
  have B0 : Boxes (((w.alloc (.cells #[.string x.key, .string x.metric, .int .i64 x.agg, .int .i64 x.long, .bool x.above, .int .i64 x.on, .int .i64 x.off, .int .i64 x.hold, .int .i64 x.rest, .int .i64 x.empty] 31)).alloc (.cells #[.string y.key, .string y.metric, .int .i64 y.agg, .int .i64 y.long, .bool y.above, .int .i64 y.on, .int .i64 y.off, .int .i64 y.hold, .int .i64 y.rest, .int .i64 y.empty] 31)).alloc (.cells #[.int .i64 f, .int .i64 t] 25)) w.heap.size (w.heap.size + 1) (w.heap.size + 1 + 1) x y f t :=
    ⟨(((Grows.refl (w.alloc (objR x))).alloc _).alloc _).cells CX, by
      have := ((Grows.refl ((w.alloc (objR x)).alloc (objR y))).alloc (.cells #[.int .i64 f, .int .i64 t] 25)).cells CY
      rwa [World.size_alloc] at this, by
      have := Blk.new ((w.alloc (objR x)).alloc (objR y)) 25 #[.int .i64 f, .int .i64 t]
      rwa [World.size_alloc, World.size_alloc] at this⟩
  have HS := Lib.hid (G0.reads hs)
  have HG0 := Lib.hid G0
  have HB0 := Lib.hid B0
  have HZX := Lib.hid (sized1 hxk hxm)
  have HZY := Lib.hid (sized1 hyk hym)
  have HZS := Lib.hid hzs
  have HY := Lib.hid hy
  clear CX CY G0 B0 hs hzs hxk hxm hyk hym hy
  go_enter Tryz.func30, Tryz.ntmps30
  go_upto_region 1 with fail
  obtain ⟨V, hV⟩ : ∃ V, ((w.alloc (.cells #[.string x.key, .string x.metric, .int .i64 x.agg, .int .i64 x.long, .bool x.above, .int .i64 x.on, .int .i64 x.off, .int .i64 x.hold, .int .i64 x.rest, .int .i64 x.empty] 31)).alloc (.cells #[.string y.key, .string y.metric, .int .i64 y.agg, .int .i64 y.long, .bool y.above, .int .i64 y.on, .int .i64 y.off, .int .i64 y.hold, .int .i64 y.rest, .int .i64 y.empty] 31)).alloc (.cells #[.int .i64 f, .int .i64 t] 25) = V := ⟨_, rfl⟩
  obtain ⟨p3, hp3⟩ : ∃ p, w.heap.size + 1 + 1 = p := ⟨_, rfl⟩
  obtain ⟨p2, hp2⟩ : ∃ p, w.heap.size + 1 = p := ⟨_, rfl⟩
  obtain ⟨p1, hp1⟩ : ∃ p, w.heap.size = p := ⟨_, rfl⟩
  rw [hV] at HS HG0 HB0 ⊢
  rw [hp3, hp2, hp1] at HB0 ⊢
  have HH : Hid (∀ W, Grows V W → W.cell? ⟨p1, 0, none⟩ = some (.string x.key) ∧ W.cell? ⟨p1, 1, none⟩ = some (.string x.metric) ∧ W.cell? ⟨p1, 2, none⟩ = some (.int .i64 x.agg) ∧ W.cell? ⟨p1, 3, none⟩ = some (.int .i64 x.long) ∧ W.cell? ⟨p1, 4, none⟩ = some (.bool x.above) ∧ W.cell? ⟨p1, 5, none⟩ = some (.int .i64 x.on) ∧ W.cell? ⟨p1, 6, none⟩ = some (.int .i64 x.off) ∧ W.cell? ⟨p1, 7, none⟩ = some (.int .i64 x.hold) ∧ W.cell? ⟨p1, 8, none⟩ = some (.int .i64 x.rest) ∧ W.cell? ⟨p1, 9, none⟩ = some (.int .i64 x.empty) ∧ W.cell? ⟨p2, 0, none⟩ = some (.string y.key) ∧ W.cell? ⟨p2, 1, none⟩ = some (.string y.metric) ∧ W.cell? ⟨p2, 2, none⟩ = some (.int .i64 y.agg) ∧ W.cell? ⟨p2, 3, none⟩ = some (.int .i64 y.long) ∧ W.cell? ⟨p2, 4, none⟩ = some (.bool y.above) ∧ W.cell? ⟨p2, 5, none⟩ = some (.int .i64 y.on) ∧ W.cell? ⟨p2, 6, none⟩ = some (.int .i64 y.off) ∧ W.cell? ⟨p2, 7, none⟩ = some (.int .i64 y.hold) ∧ W.cell? ⟨p2, 8, none⟩ = some (.int .i64 y.rest) ∧ W.cell? ⟨p2, 9, none⟩ = some (.int .i64 y.empty) ∧ W.cell? ⟨p3, 0, none⟩ = some (.int .i64 f) ∧ W.cell? ⟨p3, 1, none⟩ = some (.int .i64 t)) := Lib.hid fun W hg => (HB0.out.grows hg).held
  obtain ⟨a1, ha1⟩ : ∃ a, chkR [x] = a := ⟨_, rfl⟩
  obtain ⟨a2, ha2⟩ : ∃ a, chkR [y] = a := ⟨_, rfl⟩
  obtain ⟨a3, ha3⟩ : ∃ a, faultOf [] l (f, t) = a := ⟨_, rfl⟩
  have HA1 := Lib.hid ha1
  have HA2 := Lib.hid ha2
  have HA3 := Lib.hid ha3
  obtain ⟨rr, hrr⟩ : ∃ rr, orI [a1, a2, a3] = rr := ⟨_, rfl⟩
  have HRR := Lib.hid hrr
  clear ha1 ha2 ha3 hV hp1 hp2 hp3 hrr
  go_cut [10] from 12 to 22 (fun v wx => v = .int .i64 rr ∧ Grows V wx)
  case first =>
    go_region_held3 (fun W => W.cell? ⟨p1, 0, none⟩ = some (.string x.key) ∧ W.cell? ⟨p1, 1, none⟩ = some (.string x.metric) ∧ W.cell? ⟨p1, 2, none⟩ = some (.int .i64 x.agg) ∧ W.cell? ⟨p1, 3, none⟩ = some (.int .i64 x.long) ∧ W.cell? ⟨p1, 4, none⟩ = some (.bool x.above) ∧ W.cell? ⟨p1, 5, none⟩ = some (.int .i64 x.on) ∧ W.cell? ⟨p1, 6, none⟩ = some (.int .i64 x.off) ∧ W.cell? ⟨p1, 7, none⟩ = some (.int .i64 x.hold) ∧ W.cell? ⟨p1, 8, none⟩ = some (.int .i64 x.rest) ∧ W.cell? ⟨p1, 9, none⟩ = some (.int .i64 x.empty) ∧ W.cell? ⟨p2, 0, none⟩ = some (.string y.key) ∧ W.cell? ⟨p2, 1, none⟩ = some (.string y.metric) ∧ W.cell? ⟨p2, 2, none⟩ = some (.int .i64 y.agg) ∧ W.cell? ⟨p2, 3, none⟩ = some (.int .i64 y.long) ∧ W.cell? ⟨p2, 4, none⟩ = some (.bool y.above) ∧ W.cell? ⟨p2, 5, none⟩ = some (.int .i64 y.on) ∧ W.cell? ⟨p2, 6, none⟩ = some (.int .i64 y.off) ∧ W.cell? ⟨p2, 7, none⟩ = some (.int .i64 y.hold) ∧ W.cell? ⟨p2, 8, none⟩ = some (.int .i64 y.rest) ∧ W.cell? ⟨p2, 9, none⟩ = some (.int .i64 y.empty) ∧ W.cell? ⟨p3, 0, none⟩ = some (.int .i64 f) ∧ W.cell? ⟨p3, 1, none⟩ = some (.int .i64 t))
      (first
        | exact HH.out _ (Grows.refl V)
        | exact HH.out _ ((Grows.refl V).alloc _)
        | exact HH.out _ (((Grows.refl V).alloc _).alloc _)
        | exact HH.out _ (Grows.refl V).drew
        | exact HH.out _ ((Grows.refl V).drew.alloc _)
        | exact HH.out _ (((Grows.refl V).drew.alloc _).alloc _)
        | exact HH.out _ G4
        | exact HH.out _ (G4.alloc _)
        | exact HH.out _ G3
        | exact HH.out _ G2
        | exact HH.out _ (G2.alloc _))
      (first
        | (go_at_call 52
           have hgate := G2
           clear hgate
           refine (checkRules_calls [y] _ _ (readsR_cells (by first | exact cellsR_at w2 y rfl | exact ((Grows.refl _).drew.trans hg2).cells (cellsR_at _ y (by simp)) | exact (((Grows.refl _).alloc _).drew.trans hg2).cells (cellsR_at _ y (by simp)))) HZY.out).mono ?_
           rintro e w3 ⟨rfl, hg3⟩
           rw [HA2.out]
           have G3 : Grows V w3 := by first | exact (G2.alloc _).trans hg3 | exact G2.trans hg3)
        | (go_at_call 52
           refine (checkRules_calls [x] _ _ (readsR_cells (by first | exact (Grows.refl _).drew.cells (cellsR_at _ x (by simp)) | exact ((Grows.refl _).alloc _).drew.cells (cellsR_at _ x (by simp)))) HZX.out).mono ?_
           rintro e w2 ⟨rfl, hg2⟩
           rw [HA1.out]
           have G2 : Grows V w2 := by first | exact ((Grows.refl V).alloc _).drew.trans hg2 | exact (((Grows.refl V).alloc _).alloc _).drew.trans hg2)
        | (go_at_call 60
           refine (fault_calls [] l f t _ _ _ (readsNil _) (G3.reads HS.out) sizedNil HZS.out).mono ?_
           rintro e w4 ⟨rfl, hg4⟩
           rw [HA3.out]
           have G4 := G3.trans hg4)
        | (go_at_call 55
           have B5 := Blk.new w4 47 #[.int .i64 a1, .int .i64 a2, .int .i64 a3]
           refine (first_calls [a1, a2, a3] w4.heap.size 0 3 _ (by simp) (fun i hi => by
             match i, hi with
             | 0, _ => exact B5.cell 0
             | 1, _ => exact B5.cell 1
             | 2, _ => exact B5.cell 2)).mono ?_
           rintro e w5 ⟨rfl, rfl⟩))
    all_goals
      rw [HRR.out]
      go_wp2_with fail
      go_meet
      exact ⟨rfl, G4.alloc _⟩
  case rest =>
  obtain ⟨rfl, hgc⟩ := hcut
  have GC := Lib.hid hgc
  clear hgc
  by_cases hr0 : rr = 0
  · subst hr0
    obtain ⟨z1, z2, z3⟩ := orI3_zero HRR.out
    rw [z1] at HA1
    rw [z2] at HA2
    rw [z3] at HA3
    obtain ⟨z4, z5⟩ := fault_nil HA3.out
    have HC4 := Lib.hid z4
    have HC5 := Lib.hid z5
    have HGX := Lib.hid (((chkR_ok HA1.out).each x (by simp)).1)
    have HGY := Lib.hid (((chkR_ok HA2.out).each y (by simp)).1)
    have HGL := Lib.hid (chkS_ok z4)
    clear z1 z2 z3 z4 z5
    have HBC := Lib.hid (HB0.out.grows GC.out)
    have HSC := Lib.hid (GC.out.reads HS.out)
    have hlx : p1 < wc.heap.size := World.block_lt_of_cell? wc _ HBC.out.held.1
    have hly : p2 < wc.heap.size := World.block_lt_of_cell? wc _ HBC.out.held.2.2.2.2.2.2.2.2.2.2.1
    have hlw : p3 < wc.heap.size := HBC.out.cw.lt
    have HH3 : Hid (∀ W, Keeps (· < wc.heap.size) wc W → W.cell? ⟨p3, 0, none⟩ = some (.int .i64 f) ∧ W.cell? ⟨p3, 1, none⟩ = some (.int .i64 t)) := Lib.hid fun W hk => ⟨hk.cell hlw (HBC.out.cw.cell 0), hk.cell hlw (HBC.out.cw.cell 1)⟩
    have hwx := whole_len HGX.out HGL.out
    have hwy := whole_len HGY.out HGL.out
    have hcx := cutS_len (f, t) (whole x l)
    have hcy := cutS_len (f, t) (whole y l)
    obtain ⟨C, hC⟩ : ∃ C, cutS (f, t) (whole x l) = C := ⟨_, rfl⟩
    obtain ⟨C', hC'⟩ : ∃ C, cutS (f, t) (whole y l) = C := ⟨_, rfl⟩
    rw [hC] at hcx
    rw [hC'] at hcy
    have HCX := Lib.hid hC
    have HCY := Lib.hid hC'
    clear hC hC'
    go_upto_region 4 with fail
    go_region_held3 (fun W => W.cell? ⟨p3, 0, none⟩ = some (.int .i64 f) ∧ W.cell? ⟨p3, 1, none⟩ = some (.int .i64 t))
      (first
        | exact HH3.out _ (Keeps.refl _ wc)
        | exact HH3.out _ (Keeps.refl _ wc).drew
        | exact HH3.out _ K9
        | exact HH3.out _ (K9.alloc (fun k h => Nat.lt_of_lt_of_le h K9.size) _)
        | exact HH3.out _ K8
        | exact HH3.out _ K7
        | exact HH3.out _ K6)
      (first
        | (go_at_call 61
           have hgate := K8
           clear hgate
           refine (cut_calls (w := w8) (Own.reads encSp_len ho3) (by omega) f t).mono ?_
           rintro e w9 ⟨⟨ov4, rfl, ho4⟩, hb9⟩
           have K9 : Keeps (· < wc.heap.size) wc w9 := K8.trans ((Keeps.of_below hb9).mono fun k h => Nat.lt_of_lt_of_le h K8.size)
           rw [HCY.out] at ho4
           obtain ⟨A4, c4, hv4, _⟩ := ho4.slice
           subst hv4)
        | (go_at_call 62
           have hgate := K7
           clear hgate
           refine (whole_calls (w := w7) (r := y) (l := l) HGY.out (K7.cells hly HBC.out.cy) (Nat.lt_of_lt_of_le hly K7.size) (K7.reads (fun _ h => h) HSC.out) HGL.out HZS.out).mono ?_
           rintro e w8 ⟨⟨ov3, rfl, ho3⟩, hb8⟩
           have K8 : Keeps (· < wc.heap.size) wc w8 := K7.trans ((Keeps.of_below hb8).mono fun k h => Nat.lt_of_lt_of_le h K7.size))
        | (go_at_call 61
           refine (cut_calls (w := w6) (Own.reads encSp_len ho) (by omega) f t).mono ?_
           rintro e w7 ⟨⟨ov2, rfl, ho2⟩, hb7⟩
           have K7 : Keeps (· < wc.heap.size) wc w7 := K6.trans ((Keeps.of_below hb7).mono fun k h => Nat.lt_of_lt_of_le h K6.size)
           rw [HCX.out] at ho2
           obtain ⟨A2, c2, hv2, _⟩ := ho2.slice
           subst hv2)
        | (go_at_call 62
           refine (whole_calls (w := wc.drew) (r := x) (l := l) HGX.out ((Keeps.refl (· < wc.heap.size) wc).drew.cells hlx HBC.out.cx) hlx ((Keeps.refl (· < wc.heap.size) wc).drew.reads (fun _ h => h) HSC.out) HGL.out HZS.out).mono ?_
           rintro e w6 ⟨⟨ov, rfl, ho⟩, hb⟩
           have K6 : Keeps (· < wc.heap.size) wc w6 := (Keeps.refl (· < wc.heap.size) wc).drew.trans (Keeps.of_below hb)))
    all_goals
      have O7a := ho2.keeps (Keeps.of_below hb8) fun g hg => (ho2.lt g hg).2
      have O7b := O7a.keeps (Keeps.of_below hb9) fun g hg => (O7a.lt g hg).2
      have B9 := Blk.new w9 26 #[.slice A2 C.length c2, .slice A4 C'.length c4]
      have R2 := (O7b.alloc (.cells #[.slice A2 C.length c2, .slice A4 C'.length c4] 26)).reads encSp_len
      have R4 := (ho4.alloc (.cells #[.slice A2 C.length c2, .slice A4 C'.length c4] 26)).reads encSp_len
      have HLS : Hid (LsAt (w9.alloc (.cells #[.slice A2 C.length c2, .slice A4 C'.length c4] 26)) (.slice (some ⟨w9.heap.size, 0, none⟩) 2 2) [C, C']) := Lib.hid ⟨w9.heap.size, 0, 2, rfl, Nat.le_refl _, fun i D hi => by
        match i, hi with
        | 0, hi =>
          obtain rfl : C = D := Option.some.inj hi
          exact ⟨_, B9.cell 0, R2⟩
        | 1, hi =>
          obtain rfl : C' = D := Option.some.inj hi
          exact ⟨_, B9.cell 1, R4⟩
        | i + 2, hi => simp at hi⟩
      have HSW := Lib.hid (sweepD_calls (p1 := .pointer (some ⟨p1, 0, none⟩)) (p2 := .pointer (some ⟨p2, 0, none⟩)) (S := fun d => spansD C d) HLS.out rfl (fun D hD => by
          simp only [List.mem_cons, List.mem_nil_iff, or_false] at hD
          rcases hD with rfl | rfl <;> omega) (fun D hD => by
          simp only [List.mem_cons, List.mem_nil_iff, or_false] at hD
          rcases hD with rfl | rfl
          · rw [← HCX.out]; exact cut_device HZS.out _
          · rw [← HCY.out]; exact cut_device HZS.out _) (fun d E _ hp hs => by
          have ha := (cut_apart HGX.out HGL.out (f, t)).spans d
          rw [← HCX.out, ← HCY.out, HY.out] at hp
          have h1 := paired_dev HGX.out HGL.out hp hs
          rw [HCX.out] at h1 ha
          exact ⟨h1, timesT_sorted ha.1 ha.2⟩) (fun D hD => Nat.le_trans (spans_len hD) (by omega)))
      have KB := Lib.hid (Below.then (HG0.out.trans GC.out).below (K9.alloc (fun k h => Nat.lt_of_lt_of_le h K9.size) (.cells #[.slice A2 C.length c2, .slice A4 C'.length c4] 26)).below)
      clear O7a O7b B9 R2 R4 ho ho2 ho3 ho4 hb hb7 hb8 hb9 K6 K7 K8 K9
      go_wp2_with fail
      refine HSW.out.mono ?_
      rintro e w10 ⟨ov5, D, Y, rfl, hO, _, _, hp, _, hb10⟩
      have hY : Y = [] := by simpa using hp
      subst hY
      obtain ⟨A5, c5, hv5, _⟩ := hO.slice
      subst hv5
      have KB2 := Lib.hid (Below.then KB.out hb10)
      clear hO hp hb10
      go_wp2_with fail
      go_ret2
      exact ⟨⟨A5, c5, 0, rfl, fun _ => ⟨HA1.out, HA2.out, HC4.out, HC5.out⟩⟩, KB2.out⟩
  · have hrb : (rr == 0) = false := by simp [hr0]
    go_wp2_with fail
    go_ret2
    exact ⟨⟨_, _, _, rfl, fun h => absurd h hr0⟩, (HG0.out.trans GC.out).below⟩
end Go.Proofs.YteandmolnbcmmaaGreatDoor

namespace Go.Proofs.YteandmolnbcmmaaGreatDoor
open Go.RowKit Go.Sort

theorem info26 : (Tryz.prog.info? 26).map (fun i => (i.zero, i.size, i.bytes)) = some (some (.slice none 0 0), 1, 24) := by kernel_rfl
theorem u104 : Tryz.prog.underlying 104 = some (.slice 26) := by kernel_rfl

/-- A slice of slices of spells, under way: all in blocks of their own. -/
structure QS (w wr : World) (v : Value) (Ls : List (List Spell)) : Prop where
  out : ∃ vs : List Value, Own wr w.heap.size 26 1 v Ls.length vs ∧ ∀ (i : Nat) (C : List Spell), Ls[i]? = some C → ∃ u, vs[i]? = some u ∧ Own wr w.heap.size 34 4 u C.length (flatE encSp C)
  kp : Keeps (· < w.heap.size) w wr

theorem QS.kept {w wr wy : World} {v : Value} {Ls : List (List Spell)} (h : QS w wr v Ls) (hk : Keeps (· < wr.heap.size) wr wy) : QS w wy v Ls where
  out := by
    obtain ⟨vs, h1, h2⟩ := h.out
    refine ⟨vs, h1.same fun g hg => hk.block g (h1.lt g hg).2, fun i C hC => ?_⟩
    obtain ⟨u, h3, h4⟩ := h2 i C hC
    exact ⟨u, h3, h4.same fun g hg => hk.block g (h4.lt g hg).2⟩
  kp := h.kp.trans (hk.mono fun _ hk' => Nat.lt_of_lt_of_le hk' h.kp.size)

theorem QS.app {w wr wy : World} {v v' u : Value} {Ls : List (List Spell)} {C : List Spell} {vs : List Value} (h1 : Own wr w.heap.size 26 1 v Ls.length vs) (h2 : ∀ (i : Nat) (C : List Spell), Ls[i]? = some C → ∃ u, vs[i]? = some u ∧ Own wr w.heap.size 34 4 u C.length (flatE encSp C)) (hk : Keeps (· < w.heap.size) w wr)
    (hu : Own wr w.heap.size 34 4 u C.length (flatE encSp C)) (hg : wr.grownBy wy v.ownBlock) (ho : Own wy w.heap.size 26 1 v' (Ls.length + 1) (vs ++ [u])) : QS w wy v' (Ls ++ [C]) where
  out := by
    have hlen : vs.length = Ls.length := by have := h1.1; omega
    have hkeep : ∀ {x : Value} {D : List Spell}, Own wr w.heap.size 34 4 x D.length (flatE encSp D) → Own wy w.heap.size 34 4 x D.length (flatE encSp D) := fun {x D} hx => hx.same fun g hgx => hg.block g (hx.lt g hgx).2 fun e => by
      obtain ⟨cs, hc⟩ := hx.blk hgx
      exact h1.ne_blk hc (by decide) e.symm
    refine ⟨vs ++ [u], by rw [List.length_append]; exact ho, fun i D hD => ?_⟩
    by_cases hi : i < Ls.length
    · rw [List.getElem?_append_left hi] at hD
      obtain ⟨x, h3, h4⟩ := h2 i D hD
      exact ⟨x, by rw [List.getElem?_append_left (by omega)]; exact h3, hkeep h4⟩
    · rw [List.getElem?_append_right (by omega)] at hD
      have hi0 : i = Ls.length := by
        have := (List.getElem?_eq_some_iff.1 hD).1
        simp at this
        omega
      subst hi0
      rw [Nat.sub_self] at hD
      obtain rfl : C = D := Option.some.inj hD
      exact ⟨u, by rw [List.getElem?_append_right (by omega), hlen, Nat.sub_self]; rfl, hkeep hu⟩
  kp := hk.trans ((Keeps.refl _ _).grown hg (fun k hk' => Nat.lt_of_lt_of_le hk' hk.size) fun g e hk' => by have := (h1.lt g e).1; omega)

theorem QS.lsAt {w wr : World} {v : Value} {Ls : List (List Spell)} (h : QS w wr v Ls) (h0 : 0 < Ls.length) : LsAt wr v Ls := by
  obtain ⟨vs, h1, h2⟩ := h.out
  obtain ⟨g, off, cap, rfl, hc, _⟩ := h1.form h0
  refine ⟨g, off, cap, rfl, hc, fun i C hC => ?_⟩
  obtain ⟨u, h3, h4⟩ := h2 i C hC
  exact ⟨u, h1.cell i u h3, h4.reads encSp_len⟩

/-- What Quorum leaves of two rules that are twins. -/
def QPost (w : World) (x : Rule) (l : List Samp) (win : Int × Int) (e : Ending) (w' : World) : Prop :=
  (∃ ov, e = .returned (.tuple #[ov, .int .i64 0]) ∧ Own w' w.heap.size 34 4 ov ((spells [x] l win).map noRule).length (flatE encSp ((spells [x] l win).map noRule))) ∧ Below w.heap.size w w'

theorem edS_ne {k : Int} {C : List Spell} {s : Spell} (h : s ∈ C) : edS k C s.device ≠ [] := by
  intro e
  have h1 : (s.from_, s.to_) ∈ spansD C s.device := by
    unfold spansD
    exact List.mem_map.2 ⟨s, List.mem_filter.2 ⟨h, by simp⟩, rfl⟩
  have h2 : (⟨s.from_, k, 1⟩ : Edge) ∈ edS k C s.device := by
    unfold edS edgesK
    exact List.mem_flatMap.2 ⟨_, h1, by simp⟩
  rw [e] at h2
  cases h2

theorem empty_data : (⟨#[]⟩ : ByteArray) = ByteArray.empty := rfl

set_option maxHeartbeats 8000000 in
set_option maxRecDepth 100000 in
theorem quorum_calls {w : World} {x y : Rule} {rv sv : Value} {l : List Samp} {f t : Int} (hr : ReadsK w 10 rv ([x, y].map encR)) (hs : ReadsK w 4 sv (l.map encSa)) (hzr : SizedR [x, y]) (hzs : SizedSa l)
    (h1 : chkR [x, y] = 0) (h2 : chkS l = 0) (h3 : winOk (f, t)) (hx : chkR [x] = 0) (hy : y = twin x) :
    Calls Tryz.prog 31 #[rv, .int .i64 2, sv, .agg #[.int .i64 f, .int .i64 t]] w (QPost w x l (f, t)) := by
  obtain ⟨i0, hi0, hz0, hz1, hz2⟩ := info_parts info26
  have HG := Lib.hid (((Grows.refl w).alloc (.cells #[.int .i64 2] 3)).alloc (.cells #[.int .i64 f, .int .i64 t] 25))
  have cn := (Blk.new w 3 #[.int .i64 2]).alloc (.cells #[.int .i64 f, .int .i64 t] 25)
  have cw := Blk.new (w.alloc (.cells #[.int .i64 2] 3)) 25 #[.int .i64 f, .int .i64 t]
  rw [World.size_alloc] at cw
  have CN := Lib.hid cn
  have CW := Lib.hid cw
  have HR := Lib.hid (HG.out.reads hr)
  have HS := Lib.hid (HG.out.reads hs)
  have HZR := Lib.hid hzr
  have HZS := Lib.hid hzs
  have H1 := Lib.hid h1
  have H2 := Lib.hid h2
  have HW : Hid (winB (f, t) = true) := Lib.hid (by unfold winB; exact decide_eq_true h3)
  have H3 := Lib.hid h3
  have HX := Lib.hid hx
  have HY := Lib.hid hy
  obtain ⟨A, c, rfl, hcap, _⟩ := hr
  rw [List.length_map] at hcap HR ⊢
  clear hs hzr hzs h1 h2 h3 hx hy cn cw
  obtain ⟨n, hn⟩ : ∃ n, [x, y].length = n := ⟨_, rfl⟩
  rw [hn] at HR hcap ⊢
  have HN := Lib.hid hn
  clear hn
  go_enter Tryz.func31, Tryz.ntmps31
  go_wp2_with fail
  refine (checkRules_calls [x, y] _ _ HR.out HZR.out).mono ?_
  rintro e w1 ⟨rfl, hg1⟩
  rw [H1.out]
  have G1 := Lib.hid (HG.out.trans hg1)
  have HG1 := Lib.hid hg1
  clear hg1
  go_wp2_with fail
  refine (checkSamples_calls l _ _ (HG1.out.reads HS.out) HZS.out).mono ?_
  rintro e w2 ⟨rfl, hg2⟩
  rw [H2.out]
  have HG2 := Lib.hid (HG1.out.trans hg2)
  clear hg2
  go_wp2_with fail
  refine (first2_calls 0 0 _ _ w2 rfl 47).mono ?_
  rintro e w3 ⟨rfl, rfl⟩
  rw [show orI [0, 0] = 0 from rfl]
  have HG3 := Lib.hid (HG2.out.alloc (.cells #[.int .i64 0, .int .i64 0] 47))
  generalize w2.alloc (.cells #[.int .i64 0, .int .i64 0] 47) = w3 at *
  have b0 := HG3.out.cell (CN.out.cell 0)
  have b1 := HG3.out.cell (CW.out.cell 0)
  have b2 := HG3.out.cell (CW.out.cell 1)
  go_wp2_with fail
  refine (out_calls 2 1 100 _).mono ?_
  rintro e w4 ⟨rfl, rfl⟩
  rw [show outB 2 1 100 = false from rfl]
  go_wp2_with fail
  refine (window_calls f t _).mono ?_
  rintro e w4 ⟨rfl, hg4⟩
  rw [HW.out]
  have HG4 := Lib.hid (HG3.out.trans hg4)
  clear hg4 b0 b1 b2
  go_wp2_with fail
  have HR4 := HG4.out.reads HR.out
  have HS4 := Lib.hid (HG4.out.reads HS.out)
  have hnl : w.heap.size < w4.heap.size := Nat.lt_of_lt_of_le CN.out.lt HG4.out.below.size
  have hwl : w.heap.size + 1 < w4.heap.size := Nat.lt_of_lt_of_le CW.out.lt HG4.out.below.size
  have cn4 := HG4.out.cell (CN.out.cell 0)
  have cw4 := HG4.out.cell (CW.out.cell 0)
  have cw5 := HG4.out.cell (CW.out.cell 1)
  have BB := Lib.hid (HG.out.trans HG4.out).below
  obtain ⟨wb, hwb⟩ : ∃ b, w.heap.size + 1 = b := ⟨_, rfl⟩
  obtain ⟨nb, hnb⟩ : ∃ b, w.heap.size = b := ⟨_, rfl⟩
  rw [hwb] at hwl cw4 cw5 ⊢
  rw [hnb] at hnl cn4 ⊢
  have HNB := Lib.hid hnb
  have HH3 : Hid (∀ W, Keeps (· < w4.heap.size) w4 W → W.cell? ⟨wb, 0, none⟩ = some (.int .i64 f) ∧ W.cell? ⟨wb, 1, none⟩ = some (.int .i64 t)) := Lib.hid fun W hk => ⟨hk.cell hwl cw4, hk.cell hwl cw5⟩
  have HH1 : Hid (∀ W, Keeps (· < w4.heap.size) w4 W → W.cell? ⟨nb, 0, none⟩ = some (.int .i64 2)) := Lib.hid fun W hk => hk.cell hnl cn4
  have HGL := Lib.hid (chkS_ok H2.out)
  have HGR := Lib.hid (chkR_ok H1.out)
  obtain ⟨rs, hrs⟩ : ∃ rs, [x, y] = rs := ⟨_, rfl⟩
  rw [hrs] at HR4 HN HGR
  have HRS := Lib.hid hrs
  have HRow : Hid (List.map encR rs ≠ [] → ∃ b o, A = some { block := b, off := o } ∧ RowAt w4 10 b o (List.map encR rs)) := Lib.hid (by
    obtain ⟨A', c', e1, _, hx⟩ := HR4
    injection e1 with e1 _ _
    subst e1
    exact hx)
  have hn100 := HGR.out.len
  rw [HN.out] at hn100
  clear HR4 hwb hnb hrs hwl hnl cn4 cw4 cw5 HG4 HG3 HG2 HG1 G1 HG CN CW HR
  go_loopw [11, 31] (fun v i wr => ∃ (vv : Value) (k : Nat), vv = v ∧ k ≤ n ∧ i = .int .i64 k ∧ QS w4 wr v ((rs.take k).map fun r => cutS (f, t) (whole r l))) (fun _ i _ => n - (intOf i).toNat)
  case atStart => exact ⟨_, 0, rfl, Nat.zero_le _, rfl, ⟨[], Own.nil _ _ _ _, fun i C h => by simp at h⟩, Keeps.refl _ _⟩
  case round =>
    obtain ⟨vv, k, rfl, hk, rfl, hW⟩ := hrel
    have HQ := Lib.hid hW
    clear hW
    by_cases hlt : k < n
    · obtain ⟨r, hs⟩ : ∃ r, rs[k]? = some r := ⟨rs[k]'(by rw [HN.out]; exact hlt), List.getElem?_eq_getElem _⟩
      obtain ⟨b, o, rfl, hrow⟩ := HRow.out (by intro e; rw [List.map_eq_nil_iff] at e; rw [e] at hs; simp at hs)
      have hcs := hrow k (encR r) (by rw [List.getElem?_map, hs]; rfl)
      have HCs := Lib.hid hcs
      have hbl := World.block_lt_of_cell? w4 _ (hcs 0 _ rfl)
      have HM := Lib.hid (HGR.out.each r (List.mem_of_getElem? hs)).1
      have hd : (k : Int) < (n : Int) := by omega
      have x1 : IntKind.i64.wrap ((k : Int) + 1) = (k : Int) + 1 := IntWalk.i64_in _ (by omega)
      have HTK : Hid ((rs.take (k + 1)).map (fun r => cutS (f, t) (whole r l)) = (rs.take k).map (fun r => cutS (f, t) (whole r l)) ++ [cutS (f, t) (whole r l)]) := Lib.hid (by rw [List.take_add_one, hs, List.map_append]; rfl)
      have hwl := whole_len HM.out HGL.out
      have hcl := cutS_len (f, t) (whole r l)
      obtain ⟨C, hC⟩ : ∃ C, cutS (f, t) (whole r l) = C := ⟨_, rfl⟩
      rw [hC] at HTK hcl
      have HC := Lib.hid hC
      obtain ⟨Ls, hLs⟩ : ∃ Ls, (rs.take k).map (fun r => cutS (f, t) (whole r l)) = Ls := ⟨_, rfl⟩
      have hLl : Ls.length = k := by rw [← hLs, List.length_map, List.length_take, HN.out]; omega
      rw [hLs] at HTK HQ
      clear hrow hcs hs hC hLs
      go_wp2_with fail
      go_region_held3 (fun W => W.cell? ⟨wb, 0, none⟩ = some (.int .i64 f) ∧ W.cell? ⟨wb, 1, none⟩ = some (.int .i64 t))
        (first
          | exact HH3.out _ HQ.out.kp
          | exact HH3.out _ HQ.out.kp.drew
          | exact HH3.out _ hW7.kp
          | exact HH3.out _ (hW6.kp.alloc (fun k h => Nat.lt_of_lt_of_le h hW6.kp.size) _)
          | exact HH3.out _ hW6.kp
          | exact HH3.out _ hW5.kp)
        (first
          | (go_at_call 62
             refine (whole_calls (w := wr.drew) (r := r) (l := l) HM.out (HQ.out.kp.drew.cells hbl HCs.out) (Nat.lt_of_lt_of_le hbl HQ.out.kp.size) (HQ.out.kp.drew.reads (fun _ h => h) HS4.out) HGL.out HZS.out).mono ?_
             rintro e w5 ⟨⟨ov, rfl, ho⟩, hb⟩
             have hW5 := (HQ.out.kept ((Keeps.refl _ wr).drew)).kept (Keeps.of_below hb))
          | (go_at_call 61
             refine (cut_calls (w := w5) (Own.reads encSp_len ho) (by omega) f t).mono ?_
             rintro e w6 ⟨⟨ov2, rfl, ho2⟩, hb6⟩
             have hW6 := hW5.kept (Keeps.of_below hb6)
             rw [HC.out] at ho2
             obtain ⟨A2, c2, hv2, _⟩ := ho2.slice
             subst hv2
             obtain ⟨vs, hv1, hv2⟩ := hW6.out)
          | (refine step_append_Own (by rfl) _ _ _ (by rfl) w4.heap.size 26 i0 _ 1 24 u104 hi0 hz0 hz1 hz2 rfl (by omega) vv _ _ (by rfl) (hv1.alloc (.cells #[.slice A2 C.length c2] 26)) ⟨w6.heap.size, 0, none⟩ 1 1 [.slice A2 C.length c2] (by rfl) (by rfl) (World.news_of_block (cs := #[.slice A2 C.length c2]) (t := 26) (fr := (0, 0)) (heap_alloc_new w6 _)) (by simp [Value.oneCell']) (by unfold maxLen; omega) (by omega) (by have := hW6.kp.size; simp; omega) ?_
             intro v' w7 hown7 hgrow hfr
             have hW7 : QS w4 w7 v' (Ls ++ [C]) := QS.app (hv1.alloc (.cells #[.slice A2 C.length c2] 26)) (fun i D hD => by obtain ⟨u, q1, q2⟩ := hv2 i D hD; exact ⟨u, q1, q2.alloc _⟩) (hW6.kp.alloc (fun k h => Nat.lt_of_lt_of_le h hW6.kp.size) _) ((ho2.alloc _).lower (Nat.le_trans hW5.kp.size (Nat.le_refl _))) hgrow hown7))
      all_goals
        go_wp2_with fail
        go_roundw
        case rel => exact ⟨_, k + 1, rfl, by omega, by go_num, by rw [HTK.out]; exact hW7⟩
        case measure => simp [intOf]; omega
    · have hkn : k = n := by omega
      subst hkn
      have hd : ¬ (k : Int) < (k : Int) := by omega
      have hfull : rs.take k = rs := by rw [← HN.out]; exact List.take_length
      rw [hfull, ← HRS.out] at HQ
      have HGX := Lib.hid ((chkR_ok HX.out).each x (by simp)).1
      have HGY := Lib.hid (HGR.out.each y (by rw [← HRS.out]; simp)).1
      have hwx := whole_len HGX.out HGL.out
      have hwy := whole_len HGY.out HGL.out
      have hcx := cutS_len (f, t) (whole x l)
      have hcy := cutS_len (f, t) (whole y l)
      obtain ⟨C, hC⟩ : ∃ C, cutS (f, t) (whole x l) = C := ⟨_, rfl⟩
      obtain ⟨C', hC'⟩ : ∃ C, cutS (f, t) (whole y l) = C := ⟨_, rfl⟩
      have hmm : [x, y].map (fun r => cutS (f, t) (whole r l)) = [C, C'] := by rw [← hC, ← hC']; rfl
      rw [hmm] at HQ
      rw [hC] at hcx
      rw [hC'] at hcy
      have HCX := Lib.hid hC
      have HCY := Lib.hid hC'
      clear hC hC' hmm hfull
      have HSW := Lib.hid (sweepQ_calls (nb := nb) (S := fun d => spansD C d) (HQ.out.lsAt (by simp)) rfl (fun D hD => by
          simp only [List.mem_cons, List.mem_nil_iff, or_false] at hD
          rcases hD with rfl | rfl <;> omega) (fun D hD => by
          simp only [List.mem_cons, List.mem_nil_iff, or_false] at hD
          rcases hD with rfl | rfl
          · rw [← HCX.out]; exact cut_device HZS.out _
          · rw [← HCY.out]; exact cut_device HZS.out _) (HH1.out wr HQ.out.kp) (fun d E _ hp hs => by
          have ha := (cut_apart HGX.out HGL.out (f, t)).spans d
          rw [← HCX.out, ← HCY.out, HY.out] at hp
          have h1 := paired_dev HGX.out HGL.out hp hs
          rw [HCX.out] at h1 ha
          exact ⟨h1, timesT_sorted ha.1 ha.2⟩) (fun D hD => Nat.le_trans (spans_len hD) (by omega)))
      go_wp2_with fail
      refine HSW.out.mono ?_
      rintro e w10 ⟨ov5, D, Y, rfl, hO, hDn, hin, hp, hso, hb10⟩
      have hYY : Y = (spells [x] l (f, t)).map noRule := by
        refine law_twins2 (chkR_ok HX.out) HGL.out hDn (fun s hs => ?_) ?_ hso
        · refine hin s.device (cut_device HZS.out _ s hs) ?_
          rw [HCX.out] at hs
          have := edS_ne (k := 0) hs
          simp only [edL]
          intro e
          exact this (List.append_eq_nil_iff.1 e).1
        · rw [HCX.out]
          exact hp
      rw [hYY] at hO
      have HO := Lib.hid (hO.lower (base' := w.heap.size) (Nat.le_trans BB.out.size HQ.out.kp.size))
      have HBB := Lib.hid (Below.then (Below.then BB.out HQ.out.kp.below) hb10)
      clear hO hDn hin hp hso hb10 hYY
      go_wp2_with fail
      go_ret2
      exact ⟨⟨ov5, rfl, HO.out⟩, HBB.out⟩
end Go.Proofs.YteandmolnbcmmaaGreatDoor
