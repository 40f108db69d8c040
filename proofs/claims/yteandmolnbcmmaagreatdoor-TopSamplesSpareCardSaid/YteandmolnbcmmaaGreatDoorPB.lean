/- Walks: the closure of TopWindowsJoined, and slices.IndexFunc with it. Walk: TopWindowsJoined. No condition beyond what each theorem states. -/
import Derived.Test.YteandmolnbcmmaaGreatDoorPA
import Derived.Test.YteandmolnbcmmaaGreatDoorKD
import Derived.Test.YteandmolnbcmmaaGreatDoorME

namespace Go.Proofs.YteandmolnbcmmaaGreatDoor
open Go.RowKit Go.Sort

/-- What the closure reads: the list a in a variable, the number i, the cut. -/
structure Sees (w : World) (ab ib cb g off n cap k : Nat) (c : Int) (x : Spell) : Prop where
  a : w.cell? ⟨ab, 0, none⟩ = some (.slice (some ⟨g, off, none⟩) n cap)
  i : w.cell? ⟨ib, 0, none⟩ = some (.int .i64 k)
  c : w.cell? ⟨cb, 0, none⟩ = some (.int .i64 c)
  x0 : w.cell? ⟨g, off + k * 4, none⟩ = some (.string x.device)
  x1 : w.cell? ⟨g, off + k * 4 + 1, none⟩ = some (.string x.rule)
  x3 : w.cell? ⟨g, off + k * 4 + 3, none⟩ = some (.int .i64 x.to_)
  lt : k < n

theorem Sees.alloc {w : World} {ab ib cb g off n cap k : Nat} {c : Int} {x : Spell} (h : Sees w ab ib cb g off n cap k c x) (o : Obj) : Sees (w.alloc o) ab ib cb g off n cap k c x :=
  ⟨cell_alloc_old h.a o, cell_alloc_old h.i o, cell_alloc_old h.c o, cell_alloc_old h.x0 o, cell_alloc_old h.x1 o, cell_alloc_old h.x3 o, h.lt⟩

theorem Sees.grows {w w' : World} {ab ib cb g off n cap k : Nat} {c : Int} {x : Spell} (h : Sees w ab ib cb g off n cap k c x) (hg : Grows w w') : Sees w' ab ib cb g off n cap k c x :=
  ⟨hg.cell h.a, hg.cell h.i, hg.cell h.c, hg.cell h.x0, hg.cell h.x1, hg.cell h.x3, h.lt⟩

set_option maxHeartbeats 4000000 in
set_option maxRecDepth 100000 in
theorem fits_calls {w : World} {ab ib cb g off n cap k : Nat} {c : Int} {x : Spell} (h : Sees w ab ib cb g off n cap k c x) (s : Spell) :
    Calls Tryz.prog 40 #[.agg #[.string s.device, .string s.rule, .int .i64 s.from_, .int .i64 s.to_], .pointer (some ⟨ab, 0, none⟩), .pointer (some ⟨ib, 0, none⟩), .pointer (some ⟨cb, 0, none⟩)] w fun e w' => e = .returned (.bool (fitsJ c x s)) ∧ Grows w w' := by
  have S1 := h.alloc (.cells #[.string s.device, .string s.rule, .int .i64 s.from_, .int .i64 s.to_] 34)
  have G1 := Lib.hid ((Grows.refl w).alloc (.cells #[.string s.device, .string s.rule, .int .i64 s.from_, .int .i64 s.to_] 34))
  have B1 := Blk.new w 34 #[.string s.device, .string s.rule, .int .i64 s.from_, .int .i64 s.to_]
  have e0 := B1.cell 0
  have e1 := B1.cell 1
  have e2 := B1.cell 2
  obtain ⟨q0, q1, q2, q3, q4, q5, hlt⟩ := S1
  have hd : (k : Int) < (n : Int) := by omega
  obtain ⟨xd, xr, xf, xt⟩ := x
  obtain ⟨sd, sr, sf, st⟩ := s
  dsimp only at *
  by_cases h1 : xt = c
  · subst h1
    by_cases h2 : sf = xt
    · subst h2
      by_cases h3 : sd = xd
      · subst h3
        by_cases h4 : sr = xr
        · subst h4
          have HF : Hid (fitsJ sf ⟨sd, sr, xf, sf⟩ ⟨sd, sr, sf, st⟩ = true) := Lib.hid (by simp [fitsJ])
          rw [HF.out]
          clear h
          go_enter Tryz.func40, Tryz.ntmps40
          go_wp2_with fail
          go_quiet (fail)
          go_wp2_with fail
          go_ret
          exact ⟨rfl, G1.out.drewN _⟩
        · have HF : Hid (fitsJ sf ⟨sd, xr, xf, sf⟩ ⟨sd, sr, sf, st⟩ = false) := Lib.hid (by simp [fitsJ, h4])
          rw [HF.out]
          clear h
          have hb : (sr.toList == xr.toList) = false := eqS_false h4
          go_enter Tryz.func40, Tryz.ntmps40
          go_wp2_with fail
          go_quiet (fail)
          go_wp2_with fail
          go_ret
          exact ⟨rfl, G1.out.drewN _⟩
      · have HF : Hid (fitsJ sf ⟨xd, xr, xf, sf⟩ ⟨sd, sr, sf, st⟩ = false) := Lib.hid (by simp [fitsJ, h3])
        rw [HF.out]
        clear h
        have hb : (sd.toList == xd.toList) = false := eqS_false h3
        go_enter Tryz.func40, Tryz.ntmps40
        go_wp2_with fail
        go_quiet (fail)
        go_wp2_with fail
        go_ret
        exact ⟨rfl, G1.out.drewN _⟩
    · have HF : Hid (fitsJ xt ⟨xd, xr, xf, xt⟩ ⟨sd, sr, sf, st⟩ = false) := Lib.hid (by simp [fitsJ, h2])
      rw [HF.out]
      clear h
      have hb : (sf == xt) = false := by simp [h2]
      go_enter Tryz.func40, Tryz.ntmps40
      go_wp2_with fail
      go_quiet (fail)
      go_wp2_with fail
      go_ret
      exact ⟨rfl, G1.out.drewN _⟩
  · have HF : Hid (fitsJ c ⟨xd, xr, xf, xt⟩ ⟨sd, sr, sf, st⟩ = false) := Lib.hid (by simp [fitsJ, h1])
    rw [HF.out]
    clear h
    have hb : (xt == c) = false := by simp [h1]
    go_enter Tryz.func40, Tryz.ntmps40
    go_wp2_with fail
    go_quiet (fail)
    go_wp2_with fail
    go_ret
    exact ⟨rfl, G1.out.drewN _⟩

set_option maxHeartbeats 1000000 in
set_option maxRecDepth 100000 in
theorem indexF_calls {w : World} {v : Value} {B : List Spell} {ab ib cb g off n cap k : Nat} {c : Int} {x : Spell} (h : Sees w ab ib cb g off n cap k c x) (hl : ReadsK w 4 v (B.map encSp)) (hn : B.length ≤ 1000000000000) :
    Calls Tryz.prog 39 #[v, .func (.func 40) #[] #[.pointer (some ⟨ab, 0, none⟩), .pointer (some ⟨ib, 0, none⟩), .pointer (some ⟨cb, 0, none⟩)]] w fun e w' =>
      e = .returned (.int .i64 (match B.findIdx? (fitsJ c x) with | some j => (j : Int) | none => -1)) ∧ Grows w w' := by
  have HH := Lib.hid h
  clear h
  obtain ⟨A, cc, rfl, hcap, hrow⟩ := hl
  rw [List.length_map] at hcap ⊢
  have HRow := Lib.hid hrow
  clear hrow
  obtain ⟨m, hnn⟩ : ∃ m, B.length = m := ⟨_, rfl⟩
  rw [hnn] at hn hcap ⊢
  have HN := Lib.hid hnn
  clear hnn
  obtain ⟨R, hR⟩ : ∃ R, (match B.findIdx? (fitsJ c x) with | some j => (j : Int) | none => -1) = R := ⟨_, rfl⟩
  rw [hR]
  have HR := Lib.hid hR
  clear hR
  go_enter Tryz.func39, Tryz.ntmps39
  go_wp2_with fail
  go_loopw [8] (fun i wr => ∃ q : Nat, q ≤ m ∧ i = .int .i64 q ∧ (∀ y ∈ B.take q, fitsJ c x y = false) ∧ Grows w wr) (fun i _ => m - (intOf i).toNat)
  case atStart => exact ⟨0, Nat.zero_le _, rfl, by simp, Grows.refl w⟩
  case round =>
    obtain ⟨q, hq, rfl, hO, hG⟩ := hrel
    have HO := Lib.hid hO
    have HG := Lib.hid hG
    clear hO hG
    by_cases hlt : q < m
    · obtain ⟨s, hs⟩ : ∃ s, B[q]? = some s := ⟨B[q]'(by rw [HN.out]; exact hlt), List.getElem?_eq_getElem _⟩
      obtain ⟨b, o, rfl, hrow⟩ := HRow.out (by intro e; rw [List.map_eq_nil_iff] at e; rw [e] at hs; simp at hs)
      have hcs := HG.out.cells (hrow q (encSp s) (by rw [List.getElem?_map, hs]; rfl))
      have d0 : wr.cell? ⟨b, o + q * 4, none⟩ = some (.string s.device) := hcs 0 _ rfl
      have d1 : wr.cell? ⟨b, o + q * 4 + 1, none⟩ = some (.string s.rule) := hcs 1 _ rfl
      have d2 : wr.cell? ⟨b, o + q * 4 + 2, none⟩ = some (.int .i64 s.from_) := hcs 2 _ rfl
      have d3 : wr.cell? ⟨b, o + q * 4 + 3, none⟩ = some (.int .i64 s.to_) := hcs 3 _ rfl
      have hd : (q : Int) < (m : Int) := by omega
      have x1 : IntKind.i64.wrap ((q : Int) + 1) = (q : Int) + 1 := IntWalk.i64_in _ (by omega)
      have HTK : Hid (B.take (q + 1) = B.take q ++ [s]) := Lib.hid (by rw [List.take_add_one, hs]; rfl)
      have HF := Lib.hid (fits_calls (HH.out.grows HG.out) s)
      have HX := Lib.hid hs
      clear hrow hcs hs
      obtain ⟨z, hz⟩ : ∃ z, fitsJ c x s = z := ⟨_, rfl⟩
      rw [hz] at HF
      have HZ := Lib.hid hz
      clear hz
      cases z
      · go_wp2_with (go_at_call 40; refine HF.out.mono ?_; rintro e w2 ⟨rfl, hg2⟩; have HG2 := Lib.hid (HG.out.trans hg2); clear hg2 d0 d1 d2 d3)
        refine ⟨⟨q + 1, by omega, by go_num, ?_, HG2.out⟩, by simp [intOf]; omega⟩
        rw [HTK.out]
        intro y hy
        rcases List.mem_append.1 hy with hy | hy
        · exact HO.out y hy
        · simp only [List.mem_cons, List.mem_nil_iff, or_false] at hy
          subst hy
          exact HZ.out
      · go_wp2_with (go_at_call 40; refine HF.out.mono ?_; rintro e w2 ⟨rfl, hg2⟩; have HG2 := Lib.hid (HG.out.trans hg2); clear hg2 d0 d1 d2 d3)
        go_ret
        refine ⟨?_, HG2.out⟩
        have : B.findIdx? (fitsJ c x) = some q := by
          rw [List.findIdx?_eq_some_iff_getElem]
          have hq' := List.getElem?_eq_some_iff.1 HX.out
          refine ⟨hq'.1, by rw [hq'.2]; exact HZ.out, fun j hj => ?_⟩
          have hj1 : j < B.length := Nat.lt_trans hj hq'.1
          have := HO.out B[j] (by
            rw [List.mem_iff_getElem?]
            exact ⟨j, by rw [List.getElem?_take]; simp [hj]⟩)
          simp [this]
        rw [← HR.out, this]
        rfl
    · have hqm : q = m := by omega
      subst hqm
      have hd : ¬ (q : Int) < (q : Int) := by omega
      have hnone : B.findIdx? (fitsJ c x) = none := by
        rw [List.findIdx?_eq_none_iff]
        have := HO.out
        rwa [← HN.out, List.take_length] at this
      have hR1 : R = -1 := by rw [← HR.out, hnone]
      subst hR1
      clear hnone
      go_wp2_with fail
      go_ret
      exact ⟨rfl, HG.out⟩
end Go.Proofs.YteandmolnbcmmaaGreatDoor

namespace Go.Proofs.YteandmolnbcmmaaGreatDoor
open Go.RowKit Go.Sort

theorem joinF_len1 (c : Int) (st : List Spell × List Spell) (x : Spell) : (joinF c st x).1.length = st.1.length + 1 := by
  unfold joinF; split <;> simp
theorem joinF_len2 (c : Int) (st : List Spell × List Spell) (x : Spell) : (joinF c st x).2.length ≤ st.2.length := by
  unfold joinF
  split
  · exact Nat.le_refl _
  · exact List.length_eraseIdx_le _ _

theorem joinL_len (c : Int) (a b : List Spell) : (joinL c a b).1.length = a.length ∧ (joinL c a b).2.length ≤ b.length := by
  refine snoc_ind (P := fun a => (joinL c a b).1.length = a.length ∧ (joinL c a b).2.length ≤ b.length) ?_ ?_ a
  · exact ⟨rfl, Nat.le_refl _⟩
  · intro l x ih
    rw [joinL_snoc]
    exact ⟨by rw [joinF_len1, ih.1]; simp, Nat.le_trans (joinF_len2 c _ x) ih.2⟩

theorem mid_drop {α : Type} {A : List α} {k : Nat} {x : α} (hx : A[k]? = some x) : A.drop k = x :: A.drop (k + 1) := by
  have h := List.getElem?_eq_some_iff.1 hx
  rw [List.drop_eq_getElem_cons h.1, h.2]
theorem mid_get {α : Type} {P A : List α} {k : Nat} {x : α} (hP : P.length = k) (hx : A[k]? = some x) : (P ++ A.drop k)[k]? = some x := by
  rw [List.getElem?_append_right (by omega), mid_drop hx, hP]
  simp
theorem mid_same {α : Type} {P A : List α} {k : Nat} {x : α} (hx : A[k]? = some x) : P ++ A.drop k = (P ++ [x]) ++ A.drop (k + 1) := by
  rw [mid_drop hx, List.append_assoc]; rfl
theorem mid_set {α : Type} {P A : List α} {k : Nat} {x x' : α} (hP : P.length = k) (hx : A[k]? = some x) : (P ++ A.drop k).set k x' = (P ++ [x']) ++ A.drop (k + 1) := by
  rw [List.set_append_right _ _ (by omega), mid_drop hx, hP, Nat.sub_self, List.set_cons_zero, List.append_assoc]; rfl

/-- While the two lists are joined. -/
structure Jn (c : Int) (ba bb : Nat) (w6 wr : World) (av vb vb0 : Value) (A B : List Spell) (k : Nat) : Prop where
  a : Own wr ba 34 4 av A.length (flatE encSp ((joinL c (A.take k) B).1 ++ A.drop k))
  b : Own wr bb 34 4 vb (joinL c (A.take k) B).2.length (flatE encSp (joinL c (A.take k) B).2)
  ob : vb.ownBlock = vb0.ownBlock
  kp : Keeps (fun x => x < w6.heap.size ∧ some x ≠ av.ownBlock ∧ some x ≠ vb0.ownBlock) w6 wr

set_option maxHeartbeats 8000000 in
set_option maxRecDepth 100000 in
theorem joined_yes {w : World} {rv sv : Value} {rs : List Rule} {l : List Samp} {f t c : Int} (hr : ReadsK w 10 rv (rs.map encR)) (hs : ReadsK w 4 sv (l.map encSa)) (hzr : SizedR rs) (hzs : SizedSa l) (hf : faultOf rs l (f, t) = 0) (hfc : f ≤ c) (hct : c ≤ t) :
    Calls Tryz.prog 15 #[rv, sv, .agg #[.int .i64 f, .int .i64 t], .int .i64 c] w (Yes w) := by
  obtain ⟨i1, hi1, hy0, hy1, hy2⟩ := info_parts info34
  have HG := Lib.hid (((Grows.refl w).alloc (.cells #[.int .i64 f, .int .i64 t] 25)).alloc (.cells #[.int .i64 c] 3))
  have W1 := Lib.hid ((Blk.new w 25 #[.int .i64 f, .int .i64 t]).alloc (.cells #[.int .i64 c] 3))
  have sz1 : (w.alloc (.cells #[.int .i64 f, .int .i64 t] 25)).heap.size = w.heap.size + 1 := by simp
  have C1 := Blk.new (w.alloc (.cells #[.int .i64 f, .int .i64 t] 25)) 3 #[.int .i64 c]
  rw [sz1] at C1
  replace C1 := Lib.hid C1
  have HR := Lib.hid (HG.out.reads hr)
  have HS := Lib.hid (HG.out.reads hs)
  have HZ := Lib.hid hzr
  have HY := Lib.hid hzs
  have HW := Lib.hid (wSpells_calls (f := f) (t := t) HR.out HS.out hzr hzs)
  have HN := Lib.hid (WPost.some_ hf)
  have HD : Hid (decide (faultOf rs l (f, t) = 0) = true) := Lib.hid (decide_eq_true hf)
  obtain ⟨k1, k2, k3⟩ := faultOf_ok hf
  have hwin : 0 ≤ f ∧ f ≤ t ∧ t ≤ 345686400000 := k3
  have hf1 : faultOf rs l (f, c) = 0 := fault_zero k1 k2 (show 0 ≤ f ∧ f ≤ c ∧ c ≤ 345686400000 by omega)
  have hf2 : faultOf rs l (c, t) = 0 := fault_zero k1 k2 (show 0 ≤ c ∧ c ≤ t ∧ t ≤ 345686400000 by omega)
  have HF1 := Lib.hid hf1
  have HF2 := Lib.hid hf2
  have HGR := Lib.hid (chkR_ok k1)
  have HGL := Lib.hid (chkS_ok k2)
  have HFC := Lib.hid hfc
  have HCT := Lib.hid hct
  clear hr hs hzr hzs hf k1 k2 k3 hf1 hf2 hwin
  go_enter Tryz.func15, Tryz.ntmps15
  go_wp2_with fail
  refine HW.out.mono ?_
  rintro e w2 ⟨⟨ov, rfl, hO⟩, hB⟩
  rw [HD.out]
  rw [HN.out] at hO
  have O2 := Lib.hid hO
  have B2 := Lib.hid (Below.then HG.out.below hB)
  have K2 := Lib.hid (Keeps.of_below hB)
  have W2 := Lib.hid (K2.out.blk W1.out W1.out.lt)
  have C2 := Lib.hid (K2.out.blk C1.out C1.out.lt)
  have HR2 := Lib.hid (K2.out.reads (fun _ h => h) HR.out)
  have HS2 := Lib.hid (K2.out.reads (fun _ h => h) HS.out)
  have e0 := W2.out.cell 0
  have e1 := W2.out.cell 1
  have e2 := C2.out.cell 0
  clear hO hB HD HW HR HS W1 C1 K2 HG
  go_wp2_with fail
  all_goals (try (exfalso; omega))
  refine (facts_calls _).mono ?_
  rintro e w3 ⟨rfl, hb⟩
  have B3 := Lib.hid (Below.then B2.out hb)
  have kb := Keeps.of_below hb
  have O3 := Lib.hid (O2.out.keeps kb fun g hg => (O2.out.lt g hg).2)
  have W3 := Lib.hid (kb.blk W2.out W2.out.lt)
  have C3 := Lib.hid (kb.blk C2.out C2.out.lt)
  have HR3 := Lib.hid (kb.reads (fun _ h => h) HR2.out)
  have HS3 := Lib.hid (kb.reads (fun _ h => h) HS2.out)
  have HX := Lib.hid (wSpells_calls (f := f) (t := c) HR3.out HS3.out HZ.out HY.out)
  have e3 := W3.out.cell 0
  have e4 := W3.out.cell 1
  have e5 := C3.out.cell 0
  clear hb kb O2 B2 W2 C2 HR2 HS2 e0 e1 e2
  go_wp2_with fail
  refine HX.out.mono ?_
  rintro e w4 ⟨⟨av, rfl, hO⟩, hB⟩
  rw [decide_eq_true HF1.out]
  rw [WPost.some_ HF1.out] at hO
  have hla := spells_len (w := (f, c)) HGR.out HGL.out
  obtain ⟨AL, hAL⟩ : ∃ AL, spells rs l (f, c) = AL := ⟨_, rfl⟩
  rw [hAL] at hO hla
  have HAL := Lib.hid hAL
  clear hAL
  obtain ⟨A, ca, hv, hca⟩ := hO.slice
  subst hv
  obtain ⟨na, hna⟩ : ∃ na, AL.length = na := ⟨_, rfl⟩
  rw [hna] at hO hla hca ⊢
  have HNA := Lib.hid hna
  clear hna
  have kb := Keeps.of_below hB
  have A4 := Lib.hid hO
  have B4 := Lib.hid (Below.then B3.out hB)
  have O4 := Lib.hid (O3.out.keeps kb fun g hg => (O3.out.lt g hg).2)
  have W4 := Lib.hid (kb.blk W3.out W3.out.lt)
  have C4 := Lib.hid (kb.blk C3.out C3.out.lt)
  have HR4 := Lib.hid (kb.reads (fun _ h => h) HR3.out)
  have HS4 := Lib.hid (kb.reads (fun _ h => h) HS3.out)
  have Z4 : Hid (w3.heap.size ≤ w4.heap.size) := Lib.hid kb.size
  have L0 : Hid (∀ g, ov.ownBlock = some g → g < w3.heap.size) := Lib.hid fun g hg => (O3.out.lt g hg).2
  have V3 : Hid (w.heap.size + 1 < w3.heap.size) := Lib.hid C3.out.lt
  clear hO hB kb O3 B3 W3 C3 HR3 HS3 HX e3 e4 e5
  have AB5 := Lib.hid (Blk.new w4 26 #[.slice A na ca])
  have W5 := Lib.hid (W4.out.alloc (.cells #[.slice A na ca] 26))
  have C5 := Lib.hid (C4.out.alloc (.cells #[.slice A na ca] 26))
  have A5 := Lib.hid (A4.out.alloc (.cells #[.slice A na ca] 26))
  have O5 := Lib.hid (O4.out.alloc (.cells #[.slice A na ca] 26))
  have G5 := (Grows.refl w4).alloc (.cells #[.slice A na ca] 26)
  have HR5 := Lib.hid (G5.reads HR4.out)
  have HS5 := Lib.hid (G5.reads HS4.out)
  have B5 := Lib.hid (B4.out.trans (G5.below.mono B4.out.size))
  have sz5 : (w4.alloc (.cells #[.slice A na ca] 26)).heap.size = w4.heap.size + 1 := by simp
  have L1 : Hid (∀ g, (Value.slice A na ca).ownBlock = some g → w3.heap.size ≤ g ∧ g < w4.heap.size) := Lib.hid A4.out.lt
  clear G5 A4 O4 W4 C4 HR4 HS4 B4
  have HX := Lib.hid (wSpells_calls (f := c) (t := t) HR5.out HS5.out HZ.out HY.out)
  have e3 := W5.out.cell 0
  have e4 := W5.out.cell 1
  have e5 := C5.out.cell 0
  go_wp2_with fail
  generalize w4.alloc (.cells #[.slice A na ca] 26) = w5 at *
  refine HX.out.mono ?_
  rintro e w6 ⟨⟨bv, rfl, hO⟩, hB⟩
  rw [decide_eq_true HF2.out]
  rw [WPost.some_ HF2.out] at hO
  have hlb := spells_len (w := (c, t)) HGR.out HGL.out
  obtain ⟨BL, hBL⟩ : ∃ BL, spells rs l (c, t) = BL := ⟨_, rfl⟩
  rw [hBL] at hO hlb
  have HBL := Lib.hid hBL
  clear hBL
  have kb := Keeps.of_below hB
  have Bv6 := Lib.hid hO
  have B6 := Lib.hid (Below.then B5.out hB)
  have A6 := Lib.hid (A5.out.keeps kb fun g hg => (A5.out.lt g hg).2)
  have O6 := Lib.hid (O5.out.keeps kb fun g hg => (O5.out.lt g hg).2)
  have AB6 := Lib.hid (kb.blk AB5.out AB5.out.lt)
  have C6 := Lib.hid (kb.blk C5.out C5.out.lt)
  have L2 : Hid (∀ g, bv.ownBlock = some g → w5.heap.size ≤ g ∧ g < w6.heap.size) := Lib.hid hO.lt
  have Z6 : Hid (w5.heap.size ≤ w6.heap.size) := Lib.hid kb.size
  have SZ5 := Lib.hid sz5
  clear hO hB kb A5 O5 W5 C5 HR5 HS5 HX e3 e4 e5 AB5 B5 sz5
  have f0 := AB6.out.cell 0
  go_wp2_with fail
  go_loopw [12, 71] (fun v i wr => ∃ k : Nat, k ≤ na ∧ i = .int .i64 k ∧ Jn c w3.heap.size w5.heap.size w6 wr (.slice A na ca) v bv AL BL k) (fun _ i _ => na - (intOf i).toNat)
  case atStart =>
    refine ⟨0, Nat.zero_le _, rfl, ?_, Bv6.out, rfl, Keeps.refl _ _⟩
    have := A6.out
    rw [HNA.out]
    exact this
  case round =>
    obtain ⟨k, hk, rfl, hJ⟩ := hrel
    have HJ := Lib.hid hJ
    clear hJ
    have KF : Hid (∀ x, x < w3.heap.size ∨ x = w4.heap.size → x < w6.heap.size ∧ some x ≠ (Value.slice A na ca).ownBlock ∧ some x ≠ bv.ownBlock) := Lib.hid (fun x hx => by
      have z4 := Z4.out
      have z5 := SZ5.out
      have z6 := Z6.out
      refine ⟨by omega, fun e => ?_, fun e => ?_⟩
      · have := L1.out x e.symm; omega
      · have := L2.out x e.symm; omega)
    by_cases hlt : k < na
    · obtain ⟨x, hs⟩ : ∃ x, AL[k]? = some x := ⟨AL[k]'(by rw [HNA.out]; exact hlt), List.getElem?_eq_getElem _⟩
      obtain ⟨g, off, rfl⟩ : ∃ g off, A = some ⟨g, off, none⟩ := by
        obtain ⟨g, off, cap, hv, _⟩ := HJ.out.a.form (by rw [HNA.out]; omega)
        rw [HNA.out] at hv
        simp only [Value.slice.injEq, true_and] at hv
        exact ⟨g, off, hv.1⟩
      have hd : (k : Int) < (na : Int) := by omega
      have x1 : IntKind.i64.wrap ((k : Int) + 1) = (k : Int) + 1 := IntWalk.i64_in _ (by omega)
      have hjl := joinL_len c (AL.take k) BL
      rw [List.length_take, HNA.out, Nat.min_eq_left (by omega)] at hjl
      have HTK : Hid (AL.take (k + 1) = AL.take k ++ [x]) := Lib.hid (by rw [List.take_add_one, hs]; rfl)
      have HX := Lib.hid hs
      obtain ⟨P, hP⟩ : ∃ P, (joinL c (AL.take k) BL).1 = P := ⟨_, rfl⟩
      obtain ⟨Q, hQ⟩ : ∃ Q, (joinL c (AL.take k) BL).2 = Q := ⟨_, rfl⟩
      have ha := HJ.out.a
      have hb := HJ.out.b
      have hkp := HJ.out.kp
      have hob := HJ.out.ob
      rw [hP, HNA.out] at ha
      rw [hQ] at hb
      rw [hP, hQ] at hjl
      have HSN : Hid (joinL c (AL.take (k + 1)) BL = joinF c (P, Q) x) := Lib.hid (by rw [HTK.out, joinL_snoc, ← hP, ← hQ])
      have hget : (P ++ AL.drop k)[k]? = some x := mid_get hjl.1 hs
      have f1 : wr.cell? ⟨w4.heap.size, 0, none⟩ = some (.slice (some ⟨g, off, none⟩) na ca) := hkp.cell (KF.out _ (.inr rfl)) f0
      have f2 : wr.cell? ⟨w.heap.size + 1, 0, none⟩ = some (.int .i64 c) := hkp.cell (KF.out _ (.inl V3.out)) (C6.out.cell 0)
      have hS : Sees (wr.alloc (.cells #[.int .i64 k] 3)) w4.heap.size wr.heap.size (w.heap.size + 1) g off na ca k c x := by
        refine ⟨cell_alloc_old f1 _, (Blk.new wr 3 #[.int .i64 k]).cell 0, cell_alloc_old f2 _, ?_, ?_, ?_, hlt⟩
        · exact cell_alloc_old (ha.cell _ _ (flatE_get encSp_len _ _ _ hget 0 _ rfl)) _
        · exact cell_alloc_old (by rw [Nat.add_assoc]; exact ha.cell _ _ (flatE_get encSp_len _ _ _ hget 1 _ rfl)) _
        · exact cell_alloc_old (by rw [Nat.add_assoc]; exact ha.cell _ _ (flatE_get encSp_len _ _ _ hget 3 _ rfl)) _
      have HSE := Lib.hid hS
      have HIF := Lib.hid (indexF_calls hS (hb.alloc (.cells #[.int .i64 k] 3) |>.reads encSp_len) (by omega))
      have HA := Lib.hid (ha.alloc (.cells #[.int .i64 k] 3))
      have HB := Lib.hid (hb.alloc (.cells #[.int .i64 k] 3))
      have HKP := Lib.hid (hkp.alloc (fun x hx => Nat.lt_of_lt_of_le hx.1 hkp.size) (.cells #[.int .i64 k] 3))
      have HOB := Lib.hid hob
      have HPL := Lib.hid hjl.1
      have hQl := hjl.2
      clear hs hP hQ ha hb hkp hob hjl hget hS f1 f2 HJ HTK
      cases hfi : Q.findIdx? (fitsJ c x) with
      | none =>
        rw [hfi] at HIF
        have HFI := Lib.hid hfi
        clear hfi
        go_wp2_with (go_at_call 39; refine HIF.out.mono ?_; rintro e w7 ⟨rfl, hg7⟩; have HG7 := Lib.hid hg7; clear hg7)
        refine ⟨⟨k + 1, by omega, by go_num, ?_⟩, by simp [intOf]; omega⟩
        have hst : joinF c (P, Q) x = (P ++ [x], Q) := by unfold joinF; dsimp only; rw [HFI.out]
        have kg := Keeps.of_grows (F := (· < (wr.alloc (.cells #[.int .i64 k] 3)).heap.size)) HG7.out (fun _ h => h)
        refine ⟨?_, ?_, HOB.out, HKP.out.trans (kg.mono fun b hb => Nat.lt_of_lt_of_le hb.1 HKP.out.size)⟩
        · rw [HSN.out, hst, HNA.out, ← mid_same HX.out]
          exact HA.out.keeps kg fun g hg => (HA.out.lt g hg).2
        · rw [HSN.out, hst]
          exact HB.out.keeps kg fun g hg => (HB.out.lt g hg).2
      | some j =>
        rw [hfi] at HIF
        have hjq : j < Q.length := ((List.findIdx?_eq_some_iff_getElem).1 hfi).1
        have HFI := Lib.hid hfi
        clear hfi
        obtain ⟨s, hs⟩ : ∃ s, Q[j]? = some s := ⟨Q[j], List.getElem?_eq_getElem hjq⟩
        have HSS := Lib.hid hs
        obtain ⟨gb, ob, cb, rfl, hcb, hgb, hgl⟩ := HB.out.form (by omega)
        have q3 : (wr.alloc (.cells #[.int .i64 k] 3)).cell? ⟨gb, ob + j * 4 + 3, none⟩ = some (.int .i64 s.to_) := by rw [Nat.add_assoc]; exact HB.out.cell _ _ (flatE_get encSp_len _ _ _ hs 3 _ rfl)
        have LA : Hid (w3.heap.size ≤ g ∧ g < w4.heap.size) := Lib.hid (L1.out g rfl)
        have hgne : gb ≠ g := by have := LA.out; have := SZ5.out; omega
        have hjn : (j : Int) < (Q.length : Int) := by omega
        have hj0 : 0 ≤ (j : Int) := by omega
        have x2 : IntKind.i64.wrap ((j : Int) + 1) = (j : Int) + 1 := IntWalk.i64_in _ (by omega)
        clear hs
        go_wp2_with (go_at_call 39; refine HIF.out.mono ?_; rintro e w7 ⟨rfl, hg7⟩; have HG7 := Lib.hid hg7; have HS7 := hg7; have p1 := (HSE.out.grows hg7).a; have p2 := (HSE.out.grows hg7).i; have p3 := (HSE.out.grows hg7).x3; have q4 := hg7.cell q3; have f7 : w7.frozen? ⟨g, off + k * 4 + 3, none⟩ = false := (HA.out.keeps (Keeps.of_grows (F := (· < (wr.alloc (.cells #[.int .i64 k] 3)).heap.size)) hg7 (fun _ h => h)) fun g hg => (HA.out.lt g hg).2).frozen _; clear hg7 HS7 q3)
        go_region
        have kg := Keeps.of_grows (F := (· < (wr.alloc (.cells #[.int .i64 k] 3)).heap.size)) HG7.out (fun _ h => h)
        have HA7 := HA.out.keeps kg fun g hg => (HA.out.lt g hg).2
        have HB7 := HB.out.keeps kg fun g hg => (HB.out.lt g hg).2
        have HA8 := (HA7.setAt (k * 4 + 3) (.int .i64 s.to_)).drew
        rw [← Nat.add_assoc, flatE_set encSp_len (x' := { x with to_ := s.to_ }) (mid_get HPL.out HX.out) rfl (by omega), mid_set HPL.out HX.out] at HA8
        have HB8 : Own (w7.setCell ⟨g, off + k * 4 + 3, none⟩ (.int .i64 s.to_)).drew w5.heap.size 34 4 (.slice (some ⟨gb, ob, none⟩) Q.length cb) Q.length (flatE encSp Q) := (HB7.same fun b hb => by
          simp [Value.ownBlock] at hb
          subst hb
          exact Below.heap_setCell _ _ _ _ (fun e => hgne e)).drew
        have K8 : Keeps (fun x => x < w6.heap.size ∧ some x ≠ (Value.slice (some ⟨g, off, none⟩) na ca).ownBlock ∧ some x ≠ bv.ownBlock) w6 (w7.setCell ⟨g, off + k * 4 + 3, none⟩ (.int .i64 s.to_)).drew :=
          ((HKP.out.trans (kg.mono fun b hb => Nat.lt_of_lt_of_le hb.1 HKP.out.size)).setCell (by simp [Value.ownBlock]) _).drew
        clear HA7 HB7 kg
        generalize (w7.setCell ⟨g, off + k * 4 + 3, none⟩ (.int .i64 s.to_)).drew = w8 at *
        have HA9 := Lib.hid HA8
        have HB9 := Lib.hid HB8
        have K9 := Lib.hid K8
        have HDEL := Lib.hid (delete_calls HB8 hjq (by omega))
        clear HA8 HB8 K8 p1 p2 p3 q4 f7
        go_wp2_with (go_at_call 41; refine HDEL.out.mono ?_; rintro e w9 ⟨rfl, hO9, hK9⟩; have O9 := Lib.hid hO9; have K10 := Lib.hid hK9; clear hO9 hK9)
        refine ⟨⟨k + 1, by omega, by go_num, ?_⟩, by simp [intOf]; omega⟩
        have hst : joinF c (P, Q) x = (P ++ [{ x with to_ := s.to_ }], Q.eraseIdx j) := by unfold joinF; dsimp only; rw [HFI.out]; dsimp only; rw [HSS.out]; rfl
        have hlen : (Q.eraseIdx j).length = Q.length - 1 := List.length_eraseIdx_of_lt hjq
        refine ⟨?_, ?_, HOB.out, K9.out.trans (K10.out.mono fun b hb => ⟨Nat.lt_of_lt_of_le hb.1 K9.out.size, fun e => hb.2.2 (by rw [← HOB.out, e]; rfl)⟩)⟩
        · rw [HSN.out, hst, HNA.out]
          exact HA9.out.keeps K10.out fun b hb => ⟨(HA9.out.lt b hb).2, fun e => by
            have := LA.out
            have := SZ5.out
            simp [Value.ownBlock] at hb
            omega⟩
        · rw [HSN.out, hst, hlen]
          exact O9.out
    · have hkn : k = na := by omega
      subst hkn
      have hd : ¬ (k : Int) < (k : Int) := by omega
      have hfull : AL.take k = AL := by rw [← HNA.out]; exact List.take_length
      have hnil : AL.drop k = [] := by rw [← HNA.out]; exact List.drop_length
      have hjl := joinL_len c AL BL
      rw [HNA.out] at hjl
      have ha := HJ.out.a
      have hb := HJ.out.b
      have hkp := HJ.out.kp
      rw [hfull, hnil, List.append_nil, HNA.out] at ha
      rw [hfull] at hb
      have hlaw := law_joined (l := l) (rs := rs) (f := f) (t := t) (c := c) HGR.out HGL.out HFC.out HCT.out
      rw [HAL.out, HBL.out] at hlaw
      obtain ⟨P, hP⟩ : ∃ P, (joinL c AL BL).1 = P := ⟨_, rfl⟩
      obtain ⟨Q, hQ⟩ : ∃ Q, (joinL c AL BL).2 = Q := ⟨_, rfl⟩
      rw [hP] at ha
      rw [hQ] at hb
      rw [hP, hQ] at hlaw hjl
      have f1 : wr.cell? ⟨w4.heap.size, 0, none⟩ = some (.slice A k ca) := hkp.cell (KF.out _ (.inr rfl)) f0
      have K7 := Lib.hid (hkp.mono fun x (hx : x < w3.heap.size) => KF.out x (.inl hx))
      have HA := Lib.hid ha
      have HB := Lib.hid hb
      have HL := Lib.hid hlaw
      have HPL := Lib.hid hjl.1
      have hQl := hjl.2
      have hbase : w3.heap.size ≤ wr.heap.size := by have := K7.out.size; have := Z4.out; have := SZ5.out; have := Z6.out; omega
      clear hfull hnil hjl ha hb hkp hlaw hP hQ HJ
      go_wp2_with (at_builtin; refine wpList_append_both (by rfl) _ _ _ (by rfl) w3.heap.size w5.heap.size 34 i1 _ 4 48 under26 hi1 hy0 hy1 hy2 rfl (by omega) _ _ _ (by rfl) HA.out _ _ _ (by rfl) HB.out (flatE_one encSp_one _) (by unfold maxLen; omega) (by omega) hbase ?_; intro v' w7 hown hgrow hfr; have HO7 := Lib.hid hown; have HG7 := Lib.hid hgrow; clear hown hgrow hfr)
      have K8 := Lib.hid (K7.out.grown HG7.out (fun x hx => Nat.lt_of_lt_of_le hx hbase) (fun x e hx => by have := (HA.out.lt x e).1; omega))
      have hX : Own w7 w3.heap.size 34 4 v' (P ++ Q).length (flatE encSp (P ++ Q)) := by
        rw [List.length_append, HPL.out, flatE, List.flatMap_append]
        exact HO7.out
      have HX7 := Lib.hid hX
      clear hX HO7 HG7
      refine (sortW_calls HX7.out (by rw [List.length_append, HPL.out]; omega)).mono ?_
      rintro e w8 ⟨rfl, ⟨Y, hp, hso, hO⟩, hK⟩
      have hperm : (P ++ Q).Perm (rawOf rs l (f, t)) := by
        have h1 := sort3_perm spKey (P ++ Q)
        rw [HL.out] at h1
        exact h1.symm.trans (sort3_perm spKey _)
      have hY : Y = spells rs l (f, t) := by
        rw [← HL.out]
        exact sort3_of spKey (told_perm (raw_told HGR.out HGL.out (f, t)) hperm) hp hso
      have hlen := hp.length_eq
      rw [← hlen, hY] at hO
      have hl7 := spells_len (w := (f, t)) HGR.out HGL.out
      have O8 := Lib.hid (hO.reads encSp_len)
      have K9 := Lib.hid (K8.out.trans (hK.mono fun x (hx : x < w3.heap.size) => ⟨Nat.lt_of_lt_of_le hx (Nat.le_trans (by have := Z4.out; have := SZ5.out; have := Z6.out; omega) K8.out.size), fun e => by have := (HX7.out.lt x e.symm).1; omega⟩))
      have O9 := Lib.hid ((O6.out.keeps K9.out fun g hg => L0.out g hg).reads encSp_len)
      have B9 := Lib.hid (B6.out.trans ((K9.out.mono fun x (hx : x < w.heap.size) => Nat.lt_trans hx (Nat.lt_trans (Nat.lt_succ_self _) V3.out)).below))
      clear hp hso hO hK hlen hY hperm HX7 K8
      go_wp2_with fail
      refine (equal_calls O8.out O9.out (by omega) (by omega)).mono ?_
      rintro e w10 ⟨rfl, hg⟩
      rw [(eqL_true _ _).2 rfl]
      have B10 := Lib.hid (Below.then B9.out hg.below)
      clear hg
      go_wp2_with fail
      go_ret
      exact ⟨rfl, B10.out⟩

set_option maxHeartbeats 2000000 in
set_option maxRecDepth 100000 in
theorem joined_no {w : World} {rv sv : Value} {rs : List Rule} {l : List Samp} {f t c : Int} (hr : ReadsK w 10 rv (rs.map encR)) (hs : ReadsK w 4 sv (l.map encSa)) (hzr : SizedR rs) (hzs : SizedSa l) (hf : faultOf rs l (f, t) ≠ 0 ∨ c < f ∨ t < c) :
    Calls Tryz.prog 15 #[rv, sv, .agg #[.int .i64 f, .int .i64 t], .int .i64 c] w (Yes w) := by
  have HG := Lib.hid (((Grows.refl w).alloc (.cells #[.int .i64 f, .int .i64 t] 25)).alloc (.cells #[.int .i64 c] 3))
  have W1 := Lib.hid ((Blk.new w 25 #[.int .i64 f, .int .i64 t]).alloc (.cells #[.int .i64 c] 3))
  have sz1 : (w.alloc (.cells #[.int .i64 f, .int .i64 t] 25)).heap.size = w.heap.size + 1 := by simp
  have C1 := Blk.new (w.alloc (.cells #[.int .i64 f, .int .i64 t] 25)) 3 #[.int .i64 c]
  rw [sz1] at C1
  replace C1 := Lib.hid C1
  have HW := Lib.hid (wSpells_calls (f := f) (t := t) (HG.out.reads hr) (HG.out.reads hs) hzr hzs)
  have HFF := Lib.hid hf
  clear hr hs hzr hzs hf
  go_enter Tryz.func15, Tryz.ntmps15
  go_wp2_with fail
  refine HW.out.mono ?_
  rintro e w2 ⟨⟨ov, rfl, hO⟩, hB⟩
  have B2 := Lib.hid (Below.then HG.out.below hB)
  have K2 := Lib.hid (Keeps.of_below hB)
  have W2 := Lib.hid (K2.out.blk W1.out W1.out.lt)
  have C2 := Lib.hid (K2.out.blk C1.out C1.out.lt)
  have e0 := W2.out.cell 0
  have e1 := W2.out.cell 1
  have e2 := C2.out.cell 0
  clear hO hB HW W1 C1 K2 HG W2 C2
  by_cases hf0 : faultOf rs l (f, t) = 0
  · rw [decide_eq_true hf0]
    have hcc : c < f ∨ t < c := HFF.out.resolve_left (fun h => h hf0)
    clear hf0 HFF
    rcases hcc with hc | hc
    · go_wp2_with fail
      all_goals (try (exfalso; omega))
      refine (facts_calls _).mono ?_
      rintro e w3 ⟨rfl, hb⟩
      have B3 := Lib.hid (Below.then B2.out hb)
      clear hb
      go_wp2_with fail
      go_ret
      exact ⟨rfl, B3.out⟩
    · go_wp2_with fail
      all_goals (try (exfalso; omega))
      all_goals
        refine (facts_calls _).mono ?_
        rintro e w3 ⟨rfl, hb⟩
        have B3 := Lib.hid (Below.then B2.out hb)
        clear hb
        go_wp2_with fail
        go_ret
        exact ⟨rfl, B3.out⟩
  · rw [decide_eq_false hf0]
    clear hf0 HFF
    go_wp2_with fail
    refine (facts_calls _).mono ?_
    rintro e w3 ⟨rfl, hb⟩
    have B3 := Lib.hid (Below.then B2.out hb)
    clear hb
    go_wp2_with fail
    go_ret
    exact ⟨rfl, B3.out⟩

theorem joined_calls {w : World} {rv sv : Value} {rs : List Rule} {l : List Samp} {f t c : Int} (hr : ReadsK w 10 rv (rs.map encR)) (hs : ReadsK w 4 sv (l.map encSa)) (hzr : SizedR rs) (hzs : SizedSa l) :
    Calls Tryz.prog 15 #[rv, sv, .agg #[.int .i64 f, .int .i64 t], .int .i64 c] w (Yes w) := by
  by_cases hf : faultOf rs l (f, t) = 0
  · by_cases h1 : f ≤ c
    · by_cases h2 : c ≤ t
      · exact joined_yes hr hs hzr hzs hf h1 h2
      · exact joined_no hr hs hzr hzs (.inr (.inr (by omega)))
    · exact joined_no hr hs hzr hzs (.inr (.inl (by omega)))
  · exact joined_no hr hs hzr hzs (.inl hf)
end Go.Proofs.YteandmolnbcmmaaGreatDoor
