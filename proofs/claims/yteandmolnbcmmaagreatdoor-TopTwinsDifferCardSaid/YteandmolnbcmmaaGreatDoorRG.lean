/- A rule by value, opened: ten one-cell fields. Walk: TopTwinsDiffer. No condition beyond what each theorem states. -/
import Derived.Test.YteandmolnbcmmaaGreatDoorLC
import Derived.Test.YteandmolnbcmmaaGreatDoorRF
import Derived.Test.YteandmolnbcmmaaGreatDoorLB
import Derived.Test.YteandmolnbcmmaaGreatDoorME

namespace Go.Proofs.YteandmolnbcmmaaGreatDoor
open Go.ChangeShapes Go.WideShapes Go.ChangeAt Go.RowKit Go.Deep

theorem array10 {α : Type} {cs : Array α} (h : cs.size = 10) : ∃ c0 c1 c2 c3 c4 c5 c6 c7 c8 c9, cs = #[c0, c1, c2, c3, c4, c5, c6, c7, c8, c9] := by
  obtain ⟨l⟩ := cs
  match l, h with
  | [c0, c1, c2, c3, c4, c5, c6, c7, c8, c9], _ => exact ⟨c0, c1, c2, c3, c4, c5, c6, c7, c8, c9, rfl⟩
theorem list10 {α : Type} {cs : List α} (h : cs.length = 10) : ∃ c0 c1 c2 c3 c4 c5 c6 c7 c8 c9, cs = [c0, c1, c2, c3, c4, c5, c6, c7, c8, c9] := by
  match cs, h with
  | [c0, c1, c2, c3, c4, c5, c6, c7, c8, c9], _ => exact ⟨c0, c1, c2, c3, c4, c5, c6, c7, c8, c9, rfl⟩

section
variable {H : Type} {enc : TypeId × Value → H} {P : Program} {w : World} {base : Nat} {spare : Nat → Bool} {held : Bool}
theorem open_agg10 {r : Reach} {b0 : Nat} {t : TypeId} {f0 f1 f2 f3 f4 f5 f6 f7 f8 f9 : Field} {v : Value} {d : DataW H} {p : List MemPlace} (hs : P.underlying t = some (.struct #[f0, f1, f2, f3, f4, f5, f6, f7, f8, f9])) (hone : oneCellFields P #[f0, f1, f2, f3, f4, f5, f6, f7, f8, f9] = true) (hC : P.cellsOf t = 10)
    (hv : Value.okWide P w r b0 t v) (h : DataW.Trod enc P w base spare held t v d p) :
    ∃ (v0 v1 v2 v3 v4 v5 v6 v7 v8 v9 : Value) (y0 y1 y2 y3 y4 y5 y6 y7 y8 y9 : DataW H × List MemPlace) (n : Nat), v = .agg #[v0, v1, v2, v3, v4, v5, v6, v7, v8, v9] ∧ d = .agg [y0.1, y1.1, y2.1, y3.1, y4.1, y5.1, y6.1, y7.1, y8.1, y9.1] ∧
      DataW.trod enc P w base spare held n f0.type [v0] = some y0 ∧ DataW.trod enc P w base spare held n f1.type [v1] = some y1 ∧ DataW.trod enc P w base spare held n f2.type [v2] = some y2 ∧ DataW.trod enc P w base spare held n f3.type [v3] = some y3 ∧ DataW.trod enc P w base spare held n f4.type [v4] = some y4 ∧ DataW.trod enc P w base spare held n f5.type [v5] = some y5 ∧ DataW.trod enc P w base spare held n f6.type [v6] = some y6 ∧ DataW.trod enc P w base spare held n f7.type [v7] = some y7 ∧ DataW.trod enc P w base spare held n f8.type [v8] = some y8 ∧ DataW.trod enc P w base spare held n f9.type [v9] = some y9 := by
  obtain ⟨cs, rfl, hsz⟩ := okWide_struct hs hv
  obtain ⟨c0, c1, c2, c3, c4, c5, c6, c7, c8, c9, rfl⟩ := array10 (hsz.trans hC)
  obtain ⟨fuel, hf⟩ := h
  obtain ⟨xs, n, _, hx, _, hlen, hg⟩ := DataW.trod_struct hs hf
  obtain ⟨o0, k0⟩ := hone_of hone 0 f0 rfl
  obtain ⟨o1, k1⟩ := hone_of hone 1 f1 rfl
  obtain ⟨o2, k2⟩ := hone_of hone 2 f2 rfl
  obtain ⟨o3, k3⟩ := hone_of hone 3 f3 rfl
  obtain ⟨o4, k4⟩ := hone_of hone 4 f4 rfl
  obtain ⟨o5, k5⟩ := hone_of hone 5 f5 rfl
  obtain ⟨o6, k6⟩ := hone_of hone 6 f6 rfl
  obtain ⟨o7, k7⟩ := hone_of hone 7 f7 rfl
  obtain ⟨o8, k8⟩ := hone_of hone 8 f8 rfl
  obtain ⟨o9, k9⟩ := hone_of hone 9 f9 rfl
  obtain ⟨y0, y1, y2, y3, y4, y5, y6, y7, y8, y9, rfl⟩ := list10 (hlen : xs.length = 10)
  simp only [Prod.mk.injEq] at hx
  exact ⟨c0, c1, c2, c3, c4, c5, c6, c7, c8, c9, y0, y1, y2, y3, y4, y5, y6, y7, y8, y9, n, rfl, by simpa using hx.1, by simpa [Value.cells, o0, k0] using hg 0 f0 rfl, by simpa [Value.cells, o1, k1] using hg 1 f1 rfl, by simpa [Value.cells, o2, k2] using hg 2 f2 rfl, by simpa [Value.cells, o3, k3] using hg 3 f3 rfl, by simpa [Value.cells, o4, k4] using hg 4 f4 rfl, by simpa [Value.cells, o5, k5] using hg 5 f5 rfl, by simpa [Value.cells, o6, k6] using hg 6 f6 rfl, by simpa [Value.cells, o7, k7] using hg 7 f7 rfl, by simpa [Value.cells, o8, k8] using hg 8 f8 rfl, by simpa [Value.cells, o9, k9] using hg 9 f9 rfl⟩
end

set_option maxRecDepth 100000 in
theorem open_rule {H : Type} {enc : TypeId × Value → H} {W : World} {v : Value} {d : DataW H} {ps : List MemPlace} {b : Nat} (hv : Value.okWide Tryz.prog W .any b 31 v) (h : DataW.Trod enc Tryz.prog W 0 (fun _ => true) true 31 v d ps) :
    ∃ x : Rule, v = .agg (encR x).toArray ∧ x.key.size ≤ maxLen ∧ x.metric.size ≤ maxLen ∧ ∃ r, d = .agg (.lit (.string x.key.data.toList) :: r) := by
  obtain ⟨c0, c1, c2, c3, c4, c5, c6, c7, c8, c9, y0, y1, y2, y3, y4, y5, y6, y7, y8, y9, n, rfl, hd, t0, t1, t2, t3, t4, t5, t6, t7, t8, t9⟩ := open_agg10 Tryz.underlying31 (by kernel_rfl) (by kernel_rfl) hv h
  obtain ⟨s0, h0, q0, z0⟩ := DataW.trod_string Tryz.underlying9 t0
  obtain ⟨s1, h1, _, z1⟩ := DataW.trod_string Tryz.underlying9 t1
  obtain ⟨s2, h2, _, _⟩ := DataW.trod_int Tryz.underlying3 t2
  obtain ⟨s3, h3, _, _⟩ := DataW.trod_int Tryz.underlying3 t3
  obtain ⟨s4, h4, _⟩ := DataW.trod_bool Tryz.underlying4 t4
  obtain ⟨s5, h5, _, _⟩ := DataW.trod_int Tryz.underlying3 t5
  obtain ⟨s6, h6, _, _⟩ := DataW.trod_int Tryz.underlying3 t6
  obtain ⟨s7, h7, _, _⟩ := DataW.trod_int Tryz.underlying3 t7
  obtain ⟨s8, h8, _, _⟩ := DataW.trod_int Tryz.underlying3 t8
  obtain ⟨s9, h9, _, _⟩ := DataW.trod_int Tryz.underlying3 t9
  obtain rfl : c0 = .string s0 := by simpa using h0
  obtain rfl : c1 = .string s1 := by simpa using h1
  obtain rfl : c2 = .int .i64 s2 := by simpa using h2
  obtain rfl : c3 = .int .i64 s3 := by simpa using h3
  obtain rfl : c4 = .bool s4 := by simpa using h4
  obtain rfl : c5 = .int .i64 s5 := by simpa using h5
  obtain rfl : c6 = .int .i64 s6 := by simpa using h6
  obtain rfl : c7 = .int .i64 s7 := by simpa using h7
  obtain rfl : c8 = .int .i64 s8 := by simpa using h8
  obtain rfl : c9 = .int .i64 s9 := by simpa using h9
  exact ⟨⟨s0, s1, s2, s3, s4, s5, s6, s7, s8, s9⟩, rfl, z0, z1, _, by rw [hd, q0]⟩

set_option maxRecDepth 100000 in
/-- The form's reach, of a rule's key. -/
theorem reach_key {H : Type} {ts : List TypeId} {ds : List (DataW H)} {d : DataW H} {j : Nat} {x : Rule} (h : (DataW.weightsEach Tryz.prog ts ds).all (· ≤ reachBytes) = true) (ht : ts[j]? = some 31) (hd : ds[j]? = some d) (hr : ∃ r, d = .agg (.lit (.string x.key.data.toList) :: r)) :
    x.key.size ≤ 140737488355328 := by
  obtain ⟨r, rfl⟩ := hr
  have h1 := List.all_eq_true.1 h _ (DataW.weights_mem_each ht hd x.key.data.toList.length (by simp [DataW.weights, Tryz.underlying31, DataW.weightsEach]))
  have h2 : x.key.data.toList.length ≤ reachBytes := by simpa using h1
  have h3 := reachBytes_lt
  have h4 : (2 : Nat) ^ 47 = 140737488355328 := by decide
  rw [Array.length_toList] at h2
  have h5 : x.key.size = x.key.data.size := rfl
  omega

end Go.Proofs.YteandmolnbcmmaaGreatDoor

namespace Go.Proofs.YteandmolnbcmmaaGreatDoor
open Go.RowKit Go.Sort

theorem cat_suf (c : UInt8) (s : ByteArray) : s ++ (⟨#[c]⟩ : ByteArray) = suf c s := by
  apply ByteArray.ext
  rw [ByteArray.data_append]
  apply Array.ext'
  simp [suf]

theorem Boxes.keeps {V W : World} {p1 p2 p3 : Nat} {x y : Rule} {f t : Int} (h : Boxes V p1 p2 p3 x y f t) (hk : Keeps (· < V.heap.size) V W) : Boxes W p1 p2 p3 x y f t :=
  ⟨hk.cells (World.block_lt_of_cell? V _ h.held.1) h.cx, hk.cells (World.block_lt_of_cell? V _ h.held.2.2.2.2.2.2.2.2.2.2.1) h.cy, (hk.block p3 h.cw.lt).trans h.cw⟩

/-- Two rules in a slice. -/
theorem reads_two {w : World} {b : Nat} {x y : Rule} (h : Blk w b 31 (encR x ++ encR y).toArray) : ReadsK w 10 (.slice (some ⟨b, 0, none⟩) 2 2) ([x, y].map encR) :=
  ⟨_, _, rfl, Nat.le_refl _, fun _ => ⟨b, 0, rfl, fun i z hi => by
    have hc : ∀ (j : Nat) (u : Value), (encR x ++ encR y)[j]? = some u → w.cell? ⟨b, j, none⟩ = some u := fun j u hj => by
      have := h.cell j
      rw [List.getElem?_toArray] at this
      exact this.trans hj
    match i, hi with
    | 0, hi =>
      obtain rfl : encR x = z := Option.some.inj hi
      intro j u hj
      simp only [Nat.zero_mul, Nat.zero_add]
      exact hc j u (by rw [List.getElem?_append_left (List.getElem?_eq_some_iff.1 hj).1]; exact hj)
    | 1, hi =>
      obtain rfl : encR y = z := Option.some.inj hi
      intro j u hj
      simp only [Nat.one_mul, Nat.zero_add]
      exact hc (10 + j) u (by rw [List.getElem?_append_right (by show 10 ≤ 10 + j; omega)]; show (encR y)[10 + j - 10]? = _; rw [Nat.add_sub_cancel_left]; exact hj)
    | i + 2, hi => simp at hi⟩⟩

set_option maxHeartbeats 8000000 in
set_option maxRecDepth 100000 in
theorem twins_calls {w : World} {x : Rule} {sv : Value} {l : List Samp} {f t : Int} (hs : ReadsK w 4 sv (l.map encSa)) (hzs : SizedSa l) (hxk : x.key.size ≤ maxLen) (hxm : x.metric.size ≤ maxLen) (hreach : x.key.size ≤ 140737488355328) :
    Calls Tryz.prog 7 #[.agg (encR x).toArray, sv, .agg #[.int .i64 f, .int .i64 t]] w (Yes w) := by
  have hz : ¬ 9223372036854775807 < x.key.size + 1 := by omega
  have HTW : Hid (({ x with key := x.key ++ (⟨#[122]⟩ : ByteArray) } : Rule) = twin x) := Lib.hid (by unfold twin; rw [cat_suf])
  have HYK : Hid ((x.key ++ (⟨#[122]⟩ : ByteArray)).size ≤ maxLen) := Lib.hid (by rw [cat_suf, suf_size]; unfold maxLen; omega)
  have G0 : Grows w (((w.alloc (.cells #[.string x.key, .string x.metric, .int .i64 x.agg, .int .i64 x.long, .bool x.above, .int .i64 x.on, .int .i64 x.off, .int .i64 x.hold, .int .i64 x.rest, .int .i64 x.empty] 31)).alloc (.cells #[.int .i64 f, .int .i64 t] 25)).alloc (.cells #[.string (x.key ++ ⟨#[122]⟩), .string x.metric, .int .i64 x.agg, .int .i64 x.long, .bool x.above, .int .i64 x.on, .int .i64 x.off, .int .i64 x.hold, .int .i64 x.rest, .int .i64 x.empty] 31)) := (((Grows.refl w).alloc _).alloc _).alloc _
  have B0 : Boxes (((w.alloc (.cells #[.string x.key, .string x.metric, .int .i64 x.agg, .int .i64 x.long, .bool x.above, .int .i64 x.on, .int .i64 x.off, .int .i64 x.hold, .int .i64 x.rest, .int .i64 x.empty] 31)).alloc (.cells #[.int .i64 f, .int .i64 t] 25)).alloc (.cells #[.string (x.key ++ ⟨#[122]⟩), .string x.metric, .int .i64 x.agg, .int .i64 x.long, .bool x.above, .int .i64 x.on, .int .i64 x.off, .int .i64 x.hold, .int .i64 x.rest, .int .i64 x.empty] 31)) w.heap.size (w.heap.size + 1 + 1) (w.heap.size + 1) x { x with key := x.key ++ ⟨#[122]⟩ } f t :=
    ⟨(((Grows.refl (w.alloc (objR x))).alloc _).alloc _).cells (cellsR_new w x), by
      have := cellsR_new ((w.alloc (objR x)).alloc (.cells #[.int .i64 f, .int .i64 t] 25)) { x with key := x.key ++ ⟨#[122]⟩ }
      rwa [World.size_alloc, World.size_alloc] at this, by
      have := (Blk.new (w.alloc (objR x)) 25 #[.int .i64 f, .int .i64 t]).alloc (.cells #[.string (x.key ++ ⟨#[122]⟩), .string x.metric, .int .i64 x.agg, .int .i64 x.long, .bool x.above, .int .i64 x.on, .int .i64 x.off, .int .i64 x.hold, .int .i64 x.rest, .int .i64 x.empty] 31)
      rwa [World.size_alloc] at this⟩
  have HS := Lib.hid (G0.reads hs)
  have HG0 := Lib.hid G0
  have HB0 := Lib.hid B0
  have HZS := Lib.hid hzs
  have HXK := Lib.hid hxk
  have HXM := Lib.hid hxm
  have HD := Lib.hid (differ_calls (x := x) (y := { x with key := x.key ++ ⟨#[122]⟩ }) (f := f) (t := t) (G0.reads hs) hzs hxk hxm HYK.out hxm HTW.out)
  clear G0 B0 hs hzs hxk hxm hreach
  show Calls Tryz.prog 7 #[aggR x, sv, .agg #[.int .i64 f, .int .i64 t]] w (Yes w)
  go_enter Tryz.func7, Tryz.ntmps7
  go_wp2_with fail
  obtain ⟨V, hV⟩ : ∃ V, ((w.alloc (.cells #[.string x.key, .string x.metric, .int .i64 x.agg, .int .i64 x.long, .bool x.above, .int .i64 x.on, .int .i64 x.off, .int .i64 x.hold, .int .i64 x.rest, .int .i64 x.empty] 31)).alloc (.cells #[.int .i64 f, .int .i64 t] 25)).alloc (.cells #[.string (x.key ++ ⟨#[122]⟩), .string x.metric, .int .i64 x.agg, .int .i64 x.long, .bool x.above, .int .i64 x.on, .int .i64 x.off, .int .i64 x.hold, .int .i64 x.rest, .int .i64 x.empty] 31) = V := ⟨_, rfl⟩
  obtain ⟨p2, hp2⟩ : ∃ p, w.heap.size + 1 + 1 = p := ⟨_, rfl⟩
  obtain ⟨p3, hp3⟩ : ∃ p, w.heap.size + 1 = p := ⟨_, rfl⟩
  obtain ⟨p1, hp1⟩ : ∃ p, w.heap.size = p := ⟨_, rfl⟩
  rw [hV] at HS HG0 HB0 HD ⊢
  rw [hp2, hp3, hp1] at HB0 ⊢
  clear hV hp1 hp2 hp3
  refine HD.out.mono ?_
  rintro e w1 ⟨⟨A1, c1, r, rfl, hr⟩, hb1⟩
  have K1 := Lib.hid (Keeps.of_below hb1)
  have BB1 := Lib.hid (Below.then HG0.out.below hb1)
  have HRR := Lib.hid hr
  clear hr hb1 HD
  by_cases hr0 : r = 0
  · subst hr0
    obtain ⟨k1, k2, k3, k4⟩ := HRR.out rfl
    have HC1 := Lib.hid k1
    have HC2 := Lib.hid k2
    have HC3 := Lib.hid k3
    have HC4 := Lib.hid k4
    have HGR := Lib.hid (chkR_ok k1)
    have HGL := Lib.hid (chkS_ok k3)
    clear k1 k2 k3 k4 HRR
    go_wp2_with fail
    refine (facts_calls _).mono ?_
    rintro e w2 ⟨rfl, hb2⟩
    have K2 := Lib.hid (K1.out.trans ((Keeps.of_below hb2).mono fun k hk => Nat.lt_of_lt_of_le hk K1.out.size))
    have BB2 := Lib.hid (Below.then BB1.out hb2)
    have HB2 := Lib.hid (HB0.out.keeps K2.out)
    have HS2 := Lib.hid (K2.out.reads (fun _ h => h) HS.out)
    obtain ⟨a0, a1, a2, a3, a4, a5, a6, a7, a8, a9, b0, b1, b2, b3, b4, b5, b6, b7, b8, b9, e0, e1⟩ := HB2.out.held
    have HG3 := Lib.hid ((Grows.refl w2).alloc (.cells #[.string x.key, .string x.metric, .int .i64 x.agg, .int .i64 x.long, .bool x.above, .int .i64 x.on, .int .i64 x.off, .int .i64 x.hold, .int .i64 x.rest, .int .i64 x.empty, .string (x.key ++ ⟨#[122]⟩), .string x.metric, .int .i64 x.agg, .int .i64 x.long, .bool x.above, .int .i64 x.on, .int .i64 x.off, .int .i64 x.hold, .int .i64 x.rest, .int .i64 x.empty] 31))
    have f0 := HG3.out.cell e0
    have f1 := HG3.out.cell e1
    have HQ := Lib.hid (quorum_calls (x := x) (y := { x with key := x.key ++ ⟨#[122]⟩ }) (f := f) (t := t) (reads_two (Blk.new w2 31 _)) (HG3.out.reads HS2.out) (fun q hq => by
        simp only [List.mem_cons, List.mem_nil_iff, or_false] at hq
        rcases hq with rfl | rfl
        · exact ⟨HXK.out, HXM.out⟩
        · exact ⟨HYK.out, HXM.out⟩) HZS.out (chkR_two HC1.out HC2.out (by rw [HTW.out]; exact sLt_suf 122 x.key)) HC3.out HC4.out HC1.out HTW.out)
    clear hb2 K1 BB1
    go_wp2_with fail
    refine HQ.out.mono ?_
    rintro e w3 ⟨⟨ov, rfl, hO⟩, hb3⟩
    have hsz3 : w2.heap.size ≤ w3.heap.size := Nat.le_trans HG3.out.below.size hb3.size
    have K3 := Lib.hid (K2.out.trans (((Keeps.of_grows (F := (· < w2.heap.size)) HG3.out (fun _ h => h)).trans ((Keeps.of_below hb3).mono fun k (hk : k < w2.heap.size) => Nat.lt_of_lt_of_le hk HG3.out.below.size)).mono fun k hk => Nat.lt_of_lt_of_le hk K2.out.size))
    have BB3 := Lib.hid (Below.then (Below.then BB2.out HG3.out.below) hb3)
    have O3 := Lib.hid hO
    have HB3 := Lib.hid (HB0.out.keeps K3.out)
    have HS3 := Lib.hid (K3.out.reads (fun _ h => h) HS.out)
    clear a0 a1 a2 a3 a4 a5 a6 a7 a8 a9 b0 b1 b2 b3 b4 b5 b6 b7 b8 b9 e0 e1 f0 f1 hO hb3 HQ
    obtain ⟨a0, a1, a2, a3, a4, a5, a6, a7, a8, a9, _, _, _, _, _, _, _, _, _, _, e0, e1⟩ := HB3.out.held
    have HG4 := Lib.hid ((Grows.refl w3).alloc (.cells #[.string x.key, .string x.metric, .int .i64 x.agg, .int .i64 x.long, .bool x.above, .int .i64 x.on, .int .i64 x.off, .int .i64 x.hold, .int .i64 x.rest, .int .i64 x.empty] 31))
    have f0 := HG4.out.cell e0
    have f1 := HG4.out.cell e1
    have HF : Hid (faultOf [x] l (f, t) = 0) := Lib.hid (fault_zero HC1.out HC3.out HC4.out)
    have HWS := Lib.hid (wSpells_calls (rs := [x]) (f := f) (t := t) (readsR_cells (cellsR_at w3 x rfl)) (HG4.out.reads HS3.out) (sized1 HXK.out HXM.out) HZS.out)
    go_wp2_with fail
    refine HWS.out.mono ?_
    rintro e w4 ⟨⟨ov2, rfl, hO2⟩, hb4⟩
    rw [decide_eq_true HF.out]
    rw [WPost.some_ HF.out] at hO2
    have hXl := spells_len (w := (f, t)) HGR.out HGL.out
    obtain ⟨X, hX⟩ : ∃ X, spells [x] l (f, t) = X := ⟨_, rfl⟩
    have O3' := O3.out
    rw [hX] at O3' hO2 hXl
    obtain ⟨A3, c3, hv3, hc3⟩ := hO2.slice
    subst hv3
    obtain ⟨q, hq⟩ : ∃ q, X.length = q := ⟨_, rfl⟩
    rw [hq] at hO2 hXl hc3 ⊢
    have HQL := Lib.hid hq
    have P4 := Lib.hid hO2
    have K4 := Lib.hid ((Keeps.of_grows (F := (· < w3.heap.size)) HG4.out (fun _ h => h)).trans ((Keeps.of_below hb4).mono fun k (hk : k < w3.heap.size) => Nat.lt_of_lt_of_le hk HG4.out.below.size))
    have Q4 := Lib.hid (O3'.keeps K4.out fun g hg => (O3'.lt g hg).2)
    have BB4 := Lib.hid (Below.then (Below.then BB3.out HG4.out.below) hb4)
    have HPB : Hid (∀ g, ov.ownBlock = some g → g < w3.heap.size) := Lib.hid fun g hg => (O3'.lt g hg).2
    clear a0 a1 a2 a3 a4 a5 a6 a7 a8 a9 e0 e1 f0 f1 hO2 hb4 HWS hq hX O3' O3
    go_wp2_with fail
    go_loopw [65] (fun i wr => ∃ k : Nat, k ≤ q ∧ i = .int .i64 k ∧ InP encSp noRule 34 4 (w3.alloc (.cells #[.string x.key, .string x.metric, .int .i64 x.agg, .int .i64 x.long, .bool x.above, .int .i64 x.on, .int .i64 x.off, .int .i64 x.hold, .int .i64 x.rest, .int .i64 x.empty] 31)).heap.size w4 wr (.slice A3 q c3) X k) (fun i _ => q - (intOf i).toNat)
    case atStart => exact ⟨0, Nat.zero_le _, rfl, InP.start (by rw [HQL.out]; exact P4.out)⟩
    case round =>
      obtain ⟨i, hi, rfl, hW⟩ := hrel
      have HW := Lib.hid hW
      clear hW
      by_cases hlt : i < q
      · obtain ⟨s, hs⟩ : ∃ s, X[i]? = some s := ⟨X[i]'(by rw [HQL.out]; exact hlt), List.getElem?_eq_getElem _⟩
        obtain ⟨g, off, rfl⟩ := HW.out.form HQL.out (by omega)
        have hd : (i : Int) < (q : Int) := by omega
        have x1 : IntKind.i64.wrap ((i : Int) + 1) = (i : Int) + 1 := IntWalk.i64_in _ (by omega)
        have d2 : wr.cell? ⟨g, off + i * 4 + 1, none⟩ = some (.string s.rule) := HW.out.cell encSp_len HQL.out hs 1 rfl
        have HX := Lib.hid hs
        clear hs
        have f2 : wr.frozen? ⟨g, off + i * 4 + 1, none⟩ = false := HW.out.frozen HQL.out _
        go_wp2_with fail
        exact ⟨⟨i + 1, by omega, by go_num, HW.out.step encSp_len HQL.out HX.out 1 (by omega) rfl⟩, by simp [intOf]; omega⟩
      · have him : i = q := by omega
        subst him
        have hd : ¬ (i : Int) < (i : Int) := by omega
        have S8 := HW.out.done HQL.out
        have Q8 := Q4.out.keeps HW.out.kp fun g hg => ⟨Nat.lt_of_lt_of_le (HPB.out g hg) K4.out.size, fun e => by have h5 := (P4.out.lt g e.symm).1; have := HPB.out g hg; first | omega | (rw [World.size_alloc] at h5; omega)⟩
        have HEQ := equal_calls (Q8.reads encSp_len) (S8.reads encSp_len) (by rw [List.length_map, HQL.out]; omega) (by rw [List.length_map, HQL.out]; omega)
        rw [(eqL_true _ _).2 rfl] at HEQ
        rw [List.length_map, HQL.out] at S8
        have HEQ2 := Lib.hid HEQ
        have BB8 := Lib.hid (BB4.out.trans ((HW.out.kp.mono fun k (hk : k < w.heap.size) => ⟨Nat.lt_of_lt_of_le hk BB4.out.size, fun e => by have h5 := (P4.out.lt k e.symm).1; have := BB3.out.size; first | omega | (rw [World.size_alloc] at h5; omega)⟩).below))
        clear S8 Q8 HEQ
        go_wp2_with fail
        refine HEQ2.out.mono ?_
        rintro e w12 ⟨rfl, hg12⟩
        have BB12 := Lib.hid (Below.then BB8.out hg12.below)
        clear hg12
        go_wp2_with fail
        go_ret
        exact ⟨rfl, BB12.out⟩
  · have hrb : (r == 0) = false := by simp [hr0]
    go_wp2_with fail
    refine (facts_calls _).mono ?_
    rintro e w2 ⟨rfl, hb2⟩
    have BB2 := Lib.hid (Below.then BB1.out hb2)
    clear hb2
    go_wp2_with fail
    go_ret
    exact ⟨rfl, BB2.out⟩
end Go.Proofs.YteandmolnbcmmaaGreatDoor
