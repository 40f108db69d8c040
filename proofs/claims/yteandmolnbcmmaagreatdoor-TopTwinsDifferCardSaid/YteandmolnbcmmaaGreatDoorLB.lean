/- Walk: TopRulesApart. No condition beyond what each theorem states. -/
import Derived.Test.YteandmolnbcmmaaGreatDoorLA
import Derived.Test.YteandmolnbcmmaaGreatDoorKD

namespace Go.Proofs.YteandmolnbcmmaaGreatDoor
open Go.RowKit Go.Sort

theorem swoW : SWO (ltOf fun x y : Spell => cmp3 (spKey x) (spKey y)) := swoS

theorem sortW_calls {w : World} {base : Nat} {v : Value} {X : List Spell} (h : Own w base 34 4 v X.length (flatE encSp X)) (hn : X.length ≤ 100000000000000) :
    Calls Tryz.prog 18 #[v, .func (.func 19) #[] #[]] w fun e' w' => e' = .returned (.tuple #[]) ∧ (∃ Y : List Spell, Y.Perm X ∧ (Y.Pairwise fun a b => ¬ lt3 (spKey b) (spKey a)) ∧ Own w' base 34 4 v X.length (flatE encSp Y)) ∧ Keeps (fun k => k < w.heap.size ∧ some k ≠ v.ownBlock) w w' :=
  (sortF_calls Tryz.laysSortFunc encSp_len encSp_one (fun w => Tryz.isAgg34 w) (fun w => Tryz.sizeOf34 w) (fun x y => cmp3 (spKey x) (spKey y)) swoW 19 (enters_of Tryz.func19 (by kernel_rfl) rfl)
    (fun x y w => wOrder_calls x.device x.rule y.device y.rule x.from_ x.to_ y.from_ y.to_ w) h hn).mono fun e w' ⟨he, ⟨Y, hp, hs, hO⟩, hk⟩ => ⟨he, ⟨Y, hp, hs.imp fun hab => by rwa [cmp3_neg] at hab, hO⟩, hk⟩

/-- What the call has gathered: a slice of its own, all blocks above w0's. -/
structure LS (w0 wx : World) (v : Value) (X : List Spell) : Prop where
  out : Own wx w0.heap.size 34 4 v X.length (flatE encSp X)
  kp : Keeps (· < w0.heap.size) w0 wx

theorem LS.kept {w0 wx wy : World} {v : Value} {X : List Spell} (h : LS w0 wx v X) (hk : Keeps (· < wx.heap.size) wx wy) : LS w0 wy v X where
  out := h.out.same fun g hg => hk.block g (h.out.lt g hg).2
  kp := h.kp.trans (hk.mono fun _ hk' => Nat.lt_of_lt_of_le hk' h.kp.size)

theorem LS.below {w0 wx wy : World} {v : Value} {X : List Spell} (h : LS w0 wx v X) (hb : Below wx.heap.size wx wy) : LS w0 wy v X := h.kept (Keeps.of_below hb)
theorem LS.alloc {w0 wx : World} {v : Value} {X : List Spell} (h : LS w0 wx v X) (o : Obj) : LS w0 (wx.alloc o) v X := h.kept ((Keeps.refl _ wx).alloc (fun _ h => h) o)

theorem LS.app {w0 wx wy : World} {v v' : Value} {X Y : List Spell} (h : LS w0 wx v X) (hg : wx.grownBy wy v.ownBlock) (ho : Own wy w0.heap.size 34 4 v' Y.length (flatE encSp Y)) : LS w0 wy v' Y where
  out := ho
  kp := h.kp.trans ((Keeps.refl _ _).grown hg (fun k hk => Nat.lt_of_lt_of_le hk h.kp.size) fun g e hk => by have := (h.out.lt g e).1; omega)

/-- The early end: a fault; nothing is wanted; the facts are true. -/
theorem WPost.none_ {rs : List Rule} {l : List Samp} {win : Int × Int} (h : faultOf rs l win ≠ 0) : spOf rs l win = [] := by unfold spOf; rw [if_neg h]
theorem WPost.some_ {rs : List Rule} {l : List Samp} {win : Int × Int} (h : faultOf rs l win = 0) : spOf rs l win = spells rs l win := by unfold spOf; rw [if_pos h]

theorem spells_len {rs : List Rule} {l : List Samp} {w : Int × Int} (hr : GoodRs rs) (hl : GoodL l) : (spells rs l w).length ≤ 5000500000 := by
  have h1 := (sort3_perm spKey (rawOf rs l w)).length_eq
  have h2 := rawT_len (w := w) hl rs (fun x hx => (hr.each x hx).1) 100 hr.len
  have h3 : rawT l w rs = rawOf rs l w := rfl
  unfold spells
  rw [h1, ← h3]
  omega

theorem apart_len {l : List Samp} {w : Int × Int} (hl : GoodL l) : ∀ (rs : List Rule), (∀ r ∈ rs, GoodRs [r]) → ∀ k, rs.length ≤ k → (rs.flatMap fun r => spells [r] l w).length ≤ k * 5000500000
  | [], _, k, _ => by simp
  | r :: rs, h, k, hk => by
    cases k with
    | zero => simp at hk
    | succ k =>
      have h1 := apart_len (w := w) hl rs (fun x hx => h x (by simp [hx])) k (by simpa using hk)
      have h2 := spells_len (w := w) (h r (by simp)) hl
      rw [List.flatMap_cons, List.length_append]
      omega

theorem readsR_one {w : World} {b : Nat} {r : Rule} (hb : Blk w b 31 (encR r).toArray) : ReadsK w 10 (.slice (some ⟨b, 0, none⟩) 1 1) ([r].map encR) := by
  refine ⟨_, 1, rfl, Nat.le_refl _, fun _ => ⟨b, 0, rfl, fun i x hi => ?_⟩⟩
  match i with
  | 0 =>
    simp at hi
    subst hi
    intro j u hu
    rw [Nat.zero_mul, Nat.add_zero, Nat.zero_add, hb.cell j]
    simpa using hu
  | i + 1 => simp at hi

theorem told_perm {X Y : List Spell} (h : Told spKey X) (hp : Y.Perm X) : Told spKey Y := fun a ha b hb => h a (hp.subset ha) b (hp.subset hb)

theorem apart_perm (rs : List Rule) (l : List Samp) (w : Int × Int) : (rs.flatMap fun r => spells [r] l w).Perm (rawOf rs l w) := by
  unfold rawOf
  refine flatMap_perm fun r _ => ?_
  unfold spells
  rw [rawOf_one]
  exact sort3_perm _ _

set_option maxHeartbeats 1000000 in
theorem apart_no {w : World} {rv sv : Value} {rs : List Rule} {l : List Samp} {f t : Int} (hr : ReadsK w 10 rv (rs.map encR)) (hs : ReadsK w 4 sv (l.map encSa)) (hzr : SizedR rs) (hzs : SizedSa l) (hf : faultOf rs l (f, t) ≠ 0) :
    Calls Tryz.prog 3 #[rv, sv, .agg #[.int .i64 f, .int .i64 t]] w (Yes w) := by
  have HG := Lib.hid ((Grows.refl w).alloc (.cells #[.int .i64 f, .int .i64 t] 25))
  have HW := Lib.hid (wSpells_calls (f := f) (t := t) (HG.out.reads hr) (HG.out.reads hs) hzr hzs)
  have HN := Lib.hid (WPost.none_ hf)
  have HD : Hid (decide (faultOf rs l (f, t) = 0) = false) := Lib.hid (decide_eq_false hf)
  clear hr hs hzr hzs hf
  go_enter Tryz.func3, Tryz.ntmps3
  go_wp2_with fail
  refine HW.out.mono ?_
  rintro e w2 ⟨⟨ov, rfl, hO⟩, hB⟩
  rw [HD.out]
  rw [HN.out] at hO
  obtain ⟨A, c, hv, _⟩ := hO.slice
  subst hv
  have B2 := Lib.hid (Below.then HG.out.below hB)
  clear hO hB
  go_wp2_with fail
  refine (facts_calls _).mono ?_
  rintro e w3 ⟨rfl, hb⟩
  have B3 := Lib.hid (Below.then B2.out hb)
  clear hb
  go_wp2_with fail
  go_ret
  exact ⟨rfl, B3.out⟩

set_option maxHeartbeats 4000000 in
set_option maxRecDepth 100000 in
theorem apart_yes {w : World} {rv sv : Value} {rs : List Rule} {l : List Samp} {f t : Int} (hr : ReadsK w 10 rv (rs.map encR)) (hs : ReadsK w 4 sv (l.map encSa)) (hzr : SizedR rs) (hzs : SizedSa l) (hf : faultOf rs l (f, t) = 0) :
    Calls Tryz.prog 3 #[rv, sv, .agg #[.int .i64 f, .int .i64 t]] w (Yes w) := by
  obtain ⟨i1, hi1, hy0, hy1, hy2⟩ := info_parts info34
  have HG := Lib.hid ((Grows.refl w).alloc (.cells #[.int .i64 f, .int .i64 t] 25))
  have W1 := Lib.hid (Blk.new w 25 #[.int .i64 f, .int .i64 t])
  have HR := Lib.hid (HG.out.reads hr)
  have HS := Lib.hid (HG.out.reads hs)
  have HW := Lib.hid (wSpells_calls (f := f) (t := t) HR.out HS.out hzr hzs)
  have HN := Lib.hid (WPost.some_ hf)
  have HD : Hid (decide (faultOf rs l (f, t) = 0) = true) := Lib.hid (decide_eq_true hf)
  obtain ⟨k1, k2, k3⟩ := faultOf_ok hf
  have HC1 := Lib.hid k1
  have HC2 := Lib.hid k2
  have HC3 := Lib.hid k3
  have HGR := Lib.hid (chkR_ok k1)
  have HGL := Lib.hid (chkS_ok k2)
  have HZ := Lib.hid hzr
  have HY := Lib.hid hzs
  obtain ⟨A, c, rfl, hcap, hrow⟩ := hr
  rw [List.length_map] at hcap HR HW ⊢
  have HRow := Lib.hid hrow
  clear hs hzr hzs hf hrow k1 k2 k3
  obtain ⟨n, hnn⟩ : ∃ n, rs.length = n := ⟨_, rfl⟩
  have hn := HGR.out.len
  rw [hnn] at hn hcap HR HW ⊢
  have HN1 := Lib.hid hnn
  clear hnn
  go_enter Tryz.func3, Tryz.ntmps3
  go_wp2_with fail
  refine HW.out.mono ?_
  rintro e w2 ⟨⟨ov, rfl, hO⟩, hB⟩
  rw [HD.out]
  rw [HN.out] at hO
  have O2 := Lib.hid hO
  have B2 := Lib.hid (Below.then HG.out.below hB)
  have K2 := Lib.hid (Keeps.of_below hB)
  clear hO hB HD HW
  go_wp2_with fail
  refine (facts_calls _).mono ?_
  rintro e w3 ⟨rfl, hb⟩
  have B3 := Lib.hid (Below.then B2.out hb)
  have O3 := Lib.hid (O2.out.keeps (Keeps.of_below hb) fun g hg => (O2.out.lt g hg).2)
  have K3 := Lib.hid (K2.out.trans ((Keeps.of_below hb).mono fun k hk => Nat.lt_of_lt_of_le hk K2.out.size))
  have W3 := Lib.hid (K3.out.blk W1.out W1.out.lt)
  have HR3 := Lib.hid (K3.out.reads (fun _ h => h) HR.out)
  have HS3 := Lib.hid (K3.out.reads (fun _ h => h) HS.out)
  have HRow3 : Hid (List.map encR rs ≠ [] → ∃ b o, A = some { block := b, off := o } ∧ RowAt w3 10 b o (List.map encR rs)) := Lib.hid (by
    obtain ⟨A', c', e1, _, hx⟩ := HR3.out
    injection e1 with e1 _ _
    subst e1
    exact hx)
  clear hb O2 B2 K2 HS HR HRow W1 HG
  go_wp2_with fail
  go_loopw [9, 35] (fun v i wr => ∃ k : Nat, k ≤ n ∧ i = .int .i64 k ∧ LS w3 wr v ((rs.take k).flatMap fun r => spells [r] l (f, t))) (fun _ i _ => n - (intOf i).toNat)
  case atStart => exact ⟨0, Nat.zero_le _, rfl, Own.nil _ _ _ _, Keeps.refl _ _⟩
  case round =>
    obtain ⟨k, hk, rfl, hW⟩ := hrel
    have HW := Lib.hid hW
    clear hW
    by_cases hlt : k < n
    · obtain ⟨r, hs⟩ : ∃ r, rs[k]? = some r := ⟨rs[k]'(by rw [HN1.out]; exact hlt), List.getElem?_eq_getElem _⟩
      obtain ⟨b, o, rfl, hrow⟩ := HRow3.out (by intro e; rw [List.map_eq_nil_iff] at e; rw [e] at hs; simp at hs)
      have hcs := hrow k (encR r) (by rw [List.getElem?_map, hs]; rfl)
      have hbl := World.block_lt_of_cell? w3 _ (hcs 0 _ rfl)
      have hcr := HW.out.kp.cells hbl hcs
      have d0 : wr.cell? ⟨b, o + k * 10, none⟩ = some (.string r.key) := hcr 0 _ rfl
      have d1 : wr.cell? ⟨b, o + k * 10 + 1, none⟩ = some (.string r.metric) := hcr 1 _ rfl
      have d2 : wr.cell? ⟨b, o + k * 10 + 2, none⟩ = some (.int .i64 r.agg) := hcr 2 _ rfl
      have d3 : wr.cell? ⟨b, o + k * 10 + 3, none⟩ = some (.int .i64 r.long) := hcr 3 _ rfl
      have d4 : wr.cell? ⟨b, o + k * 10 + 4, none⟩ = some (.bool r.above) := hcr 4 _ rfl
      have d5 : wr.cell? ⟨b, o + k * 10 + 5, none⟩ = some (.int .i64 r.on) := hcr 5 _ rfl
      have d6 : wr.cell? ⟨b, o + k * 10 + 6, none⟩ = some (.int .i64 r.off) := hcr 6 _ rfl
      have d7 : wr.cell? ⟨b, o + k * 10 + 7, none⟩ = some (.int .i64 r.hold) := hcr 7 _ rfl
      have d8 : wr.cell? ⟨b, o + k * 10 + 8, none⟩ = some (.int .i64 r.rest) := hcr 8 _ rfl
      have d9 : wr.cell? ⟨b, o + k * 10 + 9, none⟩ = some (.int .i64 r.empty) := hcr 9 _ rfl
      have e0 := cell_alloc_old (cell_alloc_old (HW.out.kp.cell W3.out.lt (W3.out.cell 0)) (.cells #[.string r.key, .string r.metric, .int .i64 r.agg, .int .i64 r.long, .bool r.above, .int .i64 r.on, .int .i64 r.off, .int .i64 r.hold, .int .i64 r.rest, .int .i64 r.empty] 31)) (.cells #[.string r.key, .string r.metric, .int .i64 r.agg, .int .i64 r.long, .bool r.above, .int .i64 r.on, .int .i64 r.off, .int .i64 r.hold, .int .i64 r.rest, .int .i64 r.empty] 31)
      have e1 := cell_alloc_old (cell_alloc_old (HW.out.kp.cell W3.out.lt (W3.out.cell 1)) (.cells #[.string r.key, .string r.metric, .int .i64 r.agg, .int .i64 r.long, .bool r.above, .int .i64 r.on, .int .i64 r.off, .int .i64 r.hold, .int .i64 r.rest, .int .i64 r.empty] 31)) (.cells #[.string r.key, .string r.metric, .int .i64 r.agg, .int .i64 r.long, .bool r.above, .int .i64 r.on, .int .i64 r.off, .int .i64 r.hold, .int .i64 r.rest, .int .i64 r.empty] 31)
      have hd : (k : Int) < (n : Int) := by omega
      have x1 : IntKind.i64.wrap ((k : Int) + 1) = (k : Int) + 1 := IntWalk.i64_in _ (by omega)
      have htk : rs.take (k + 1) = rs.take k ++ [r] := by rw [List.take_add_one, hs]; rfl
      have HTK := Lib.hid htk
      have HM := Lib.hid (List.mem_of_getElem? hs)
      clear hrow hcs hcr hs htk
      go_wp2_with fail
      have B4 := Lib.hid (((Blk.new (wr.alloc (.cells #[.string r.key, .string r.metric, .int .i64 r.agg, .int .i64 r.long, .bool r.above, .int .i64 r.on, .int .i64 r.off, .int .i64 r.hold, .int .i64 r.rest, .int .i64 r.empty] 31)) 31 #[.string r.key, .string r.metric, .int .i64 r.agg, .int .i64 r.long, .bool r.above, .int .i64 r.on, .int .i64 r.off, .int .i64 r.hold, .int .i64 r.rest, .int .i64 r.empty])))
      have L4 := Lib.hid ((HW.out.alloc (.cells #[.string r.key, .string r.metric, .int .i64 r.agg, .int .i64 r.long, .bool r.above, .int .i64 r.on, .int .i64 r.off, .int .i64 r.hold, .int .i64 r.rest, .int .i64 r.empty] 31)).alloc (.cells #[.string r.key, .string r.metric, .int .i64 r.agg, .int .i64 r.long, .bool r.above, .int .i64 r.on, .int .i64 r.off, .int .i64 r.hold, .int .i64 r.rest, .int .i64 r.empty] 31))
      have hsz : (wr.alloc (.cells #[.string r.key, .string r.metric, .int .i64 r.agg, .int .i64 r.long, .bool r.above, .int .i64 r.on, .int .i64 r.off, .int .i64 r.hold, .int .i64 r.rest, .int .i64 r.empty] 31)).heap.size = wr.heap.size + 1 := by simp
      rw [hsz] at B4
      have HC := Lib.hid (wSpells_calls (f := f) (t := t) (rs := [r]) (l := l) (readsR_one B4.out) (L4.out.kp.reads (fun _ h => h) HS3.out) (fun x hx => by simp at hx; subst hx; exact HZ.out x HM.out) HY.out)
      refine HC.out.mono ?_
      rintro e w5 ⟨⟨ov5, rfl, hO5⟩, hB5⟩
      have hf1 := fault_zero (chkR_one HC1.out HM.out) HC2.out HC3.out
      rw [decide_eq_true hf1]
      rw [WPost.some_ hf1] at hO5
      have O5 := Lib.hid hO5
      have L5 := Lib.hid (L4.out.below hB5)
      have hl5 := spells_len (w := (f, t)) (HGR.out.one HM.out) HGL.out
      have hl6 := apart_len (w := (f, t)) HGL.out (rs.take k) (fun x hx => HGR.out.one (List.mem_of_mem_take hx)) 100 (by rw [List.length_take]; omega)
      clear hO5 hB5 hf1 hsz d0 d1 d2 d3 d4 d5 d6 d7 d8 d9 e0 e1 HC B4 L4
      obtain ⟨X, hX⟩ : ∃ X, ((rs.take k).flatMap fun r => spells [r] l (f, t)) = X := ⟨_, rfl⟩
      rw [hX] at L5 hl6
      have hXY : Hid (((rs.take (k + 1)).flatMap fun r => spells [r] l (f, t)) = X ++ spells [r] l (f, t)) := Lib.hid (by rw [HTK.out, List.flatMap_append, hX]; simp)
      replace hX := Lib.hid hX
      go_wp2_with (at_builtin; refine wpList_append_both (by rfl) _ _ _ (by rfl) w3.heap.size _ 34 i1 _ 4 48 under26 hi1 hy0 hy1 hy2 rfl (by omega) u9 _ _ (by rfl) L5.out.out _ _ _ (by rfl) O5.out (flatE_one encSp_one _) (by unfold maxLen; omega) (by omega) L5.out.kp.size ?_; intro v' w6 hown hgrow hfr)
      go_roundw
      case rel =>
        refine ⟨k + 1, by omega, by go_num, ?_⟩
        rw [hXY.out]
        exact L5.out.app hgrow (by rw [flatE, List.flatMap_append, List.length_append]; exact hown)
      case measure => simp [intOf]; omega
    · have hkn : k = n := by omega
      subst hkn
      have hd : ¬ (k : Int) < (k : Int) := by omega
      have hlt : rs.take k = rs := by rw [← HN1.out]; exact List.take_length
      rw [hlt] at HW
      have hl6 := apart_len (w := (f, t)) HGL.out rs (fun x hx => HGR.out.one hx) 100 (by rw [HN1.out]; omega)
      have hl7 := spells_len (w := (f, t)) HGR.out HGL.out
      go_wp2_with fail
      refine (sortW_calls HW.out.out (by omega)).mono ?_
      rintro e w5 ⟨rfl, ⟨Y, hp, hso, hO⟩, hK⟩
      have hY : Y = spells rs l (f, t) := by
        rw [← law_rules_apart HGR.out HGL.out]
        exact sort3_of spKey (told_perm (raw_told HGR.out HGL.out (f, t)) (apart_perm rs l (f, t))) hp hso
      have hlen := hp.length_eq
      rw [← hlen, hY] at hO
      have O5 := Lib.hid (hO.reads encSp_len)
      have K5 := Lib.hid (HW.out.kp.trans (hK.mono fun k h => ⟨Nat.lt_of_lt_of_le h HW.out.kp.size, fun e => by have := (HW.out.out.lt k e.symm).1; omega⟩))
      have O6 := Lib.hid ((O3.out.keeps K5.out fun g hg => (O3.out.lt g hg).2).reads encSp_len)
      clear hp hso hO hK hlen hY hl6 hlt
      go_wp2_with fail
      refine (equal_calls O5.out O6.out (by omega) (by omega)).mono ?_
      rintro e w6 ⟨rfl, hg⟩
      rw [(eqL_true _ _).2 rfl]
      have B6 := Lib.hid (Below.then (Below.then B3.out K5.out.below) hg.below)
      clear hg
      go_wp2_with fail
      go_ret
      exact ⟨rfl, B6.out⟩

theorem apart_calls {w : World} {rv sv : Value} {rs : List Rule} {l : List Samp} {f t : Int} (hr : ReadsK w 10 rv (rs.map encR)) (hs : ReadsK w 4 sv (l.map encSa)) (hzr : SizedR rs) (hzs : SizedSa l) :
    Calls Tryz.prog 3 #[rv, sv, .agg #[.int .i64 f, .int .i64 t]] w (Yes w) := by
  by_cases hf : faultOf rs l (f, t) = 0
  · exact apart_yes hr hs hzr hzs hf
  · exact apart_no hr hs hzr hzs hf

end Go.Proofs.YteandmolnbcmmaaGreatDoor
