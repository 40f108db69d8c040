/- Walk: TopOneIsAll. No condition beyond what each theorem states. -/
import Derived.Test.YteandmolnbcmmaaGreatDoorMA

namespace Go.Proofs.YteandmolnbcmmaaGreatDoor
open Go.RowKit Go.Sort

def oneR (r : Rule) : Rule := { r with long := 1 }
def someR (a : Int) (r : Rule) : Rule := if 1 ≤ r.agg ∧ r.agg ≤ 4 then { r with long := 1, agg := a } else { r with long := 1 }

/-- Two slices of the call's own, both turned in one loop. -/
structure InQ (K : Int) (base : Nat) (w0 wr : World) (ga oa ca gb ob cb n : Nat) (L : List Rule) (i : Nat) : Prop where
  a : Own wr base 31 10 (.slice (some ⟨ga, oa, none⟩) n ca) n (flatE encR (updL oneR i L))
  b : Own wr base 31 10 (.slice (some ⟨gb, ob, none⟩) n cb) n (flatE encR (updL (someR K) i L))
  kp : Keeps (fun x => x < w0.heap.size ∧ x ≠ ga ∧ x ≠ gb) w0 wr

section
variable {K : Int} {base : Nat} {w0 wr : World} {ga oa ca gb ob cb n : Nat} {L : List Rule} {i : Nat} {x : Rule}

theorem InQ.both (h : InQ K base w0 wr ga oa ca gb ob cb n L i) (hne : ga ≠ gb) (hx : L[i]? = some x) (hno : ¬ (1 ≤ x.agg ∧ x.agg ≤ 4)) :
    InQ K base w0 ((wr.setCell ⟨ga, oa + i * 10 + 3, none⟩ (.int .i64 1)).setCell ⟨gb, ob + i * 10 + 3, none⟩ (.int .i64 1)) ga oa ca gb ob cb n L (i + 1) := by
  refine ⟨?_, ?_, (h.kp.setCell (by simp) _).setCell (by simp) _⟩
  · have h1 := h.a.setAt (i * 10 + 3) (.int .i64 1)
    rw [flatE_set encR_len (updL_get hx) (x' := oneR x) (j := 3) (u := .int .i64 1) rfl (by omega), updL_set hx, ← Nat.add_assoc] at h1
    exact h1.same fun g hg => by
      simp [Value.ownBlock] at hg
      subst hg
      exact Below.heap_setCell _ _ _ _ (fun e => hne e)
  · have h1 : Own (wr.setCell ⟨ga, oa + i * 10 + 3, none⟩ (.int .i64 1)) base 31 10 (.slice (some ⟨gb, ob, none⟩) n cb) n (flatE encR (updL (someR K) i L)) := h.b.same fun g hg => by
      simp [Value.ownBlock] at hg
      subst hg
      exact Below.heap_setCell _ _ _ _ (fun e => hne e.symm)
    have h2 := h1.setAt (i * 10 + 3) (.int .i64 1)
    rw [flatE_set encR_len (updL_get hx) (x' := someR K x) (j := 3) (u := .int .i64 1) (by unfold someR; rw [if_neg hno]; rfl) (by omega), updL_set hx, ← Nat.add_assoc] at h2
    exact h2

theorem InQ.more (h : InQ K base w0 wr ga oa ca gb ob cb n L i) (hne : ga ≠ gb) (hx : L[i]? = some x) (hno : 1 ≤ x.agg ∧ x.agg ≤ 4) :
    InQ K base w0 (((wr.setCell ⟨ga, oa + i * 10 + 3, none⟩ (.int .i64 1)).setCell ⟨gb, ob + i * 10 + 3, none⟩ (.int .i64 1)).setCell ⟨gb, ob + i * 10 + 2, none⟩ (.int .i64 K)) ga oa ca gb ob cb n L (i + 1) := by
  refine ⟨?_, ?_, ((h.kp.setCell (by simp) _).setCell (by simp) _).setCell (by simp) _⟩
  · have h1 := h.a.setAt (i * 10 + 3) (.int .i64 1)
    rw [flatE_set encR_len (updL_get hx) (x' := oneR x) (j := 3) (u := .int .i64 1) rfl (by omega), updL_set hx, ← Nat.add_assoc] at h1
    exact h1.same fun g hg => by
      simp [Value.ownBlock] at hg
      subst hg
      exact (Below.heap_setCell _ _ _ _ (fun e => hne e)).trans (Below.heap_setCell _ _ _ _ (fun e => hne e))
  · have h1 : Own (wr.setCell ⟨ga, oa + i * 10 + 3, none⟩ (.int .i64 1)) base 31 10 (.slice (some ⟨gb, ob, none⟩) n cb) n (flatE encR (updL (someR K) i L)) := h.b.same fun g hg => by
      simp [Value.ownBlock] at hg
      subst hg
      exact Below.heap_setCell _ _ _ _ (fun e => hne e.symm)
    have h2 := (h1.setAt (i * 10 + 3) (.int .i64 1)).setAt (i * 10 + 2) (.int .i64 K)
    have hl := (List.getElem?_eq_some_iff.1 (updL_get (f := someR K) hx)).1
    rw [flatE_set encR_len (updL_get hx) (x' := oneR x) (j := 3) (u := .int .i64 1) rfl (by omega),
      flatE_set encR_len (x := oneR x) (by rw [List.getElem?_set_self hl]) (x' := someR K x) (j := 2) (u := .int .i64 K) (by unfold someR; rw [if_pos hno]; rfl) (by omega), List.set_set, updL_set hx, ← Nat.add_assoc, ← Nat.add_assoc] at h2
    exact h2
end

theorem map_some (K : Int) (rs : List Rule) : rs.map (someR K) = (rs.map oneR).map fun r => if 1 ≤ r.agg ∧ r.agg ≤ 4 then { r with agg := K } else r := by
  rw [List.map_map]
  refine List.map_congr_left fun r _ => ?_
  show someR K r = if 1 ≤ (oneR r).agg ∧ (oneR r).agg ≤ 4 then { oneR r with agg := K } else oneR r
  unfold someR
  by_cases hc : 1 ≤ r.agg ∧ r.agg ≤ 4
  · rw [if_pos hc, if_pos (show 1 ≤ (oneR r).agg ∧ (oneR r).agg ≤ 4 from hc)]; rfl
  · rw [if_neg hc, if_neg (show ¬ (1 ≤ (oneR r).agg ∧ (oneR r).agg ≤ 4) from hc)]; rfl

theorem sized_some (K : Int) {rs : List Rule} (h : SizedR rs) : SizedR (rs.map (someR K)) := sizedR_map (fun r => by unfold someR; split <;> exact ⟨rfl, rfl⟩) h

def pickA (a : Int) : Int := wrap64 (1 + wrap64 ((IntKind.u64.wrap a).tmod 4))

theorem pick_range (a : Int) : 1 ≤ pickA a ∧ pickA a ≤ 4 := by
  have h0 : 0 ≤ IntKind.u64.wrap a := by
    unfold IntKind.wrap
    simp [IntKind.bits, IntKind.signed]
    omega
  have h1 := Int.tmod_lt_of_pos (IntKind.u64.wrap a) (b := 4) (by omega)
  have h2 := Int.tmod_nonneg (b := 4) h0
  have h3 : wrap64 ((IntKind.u64.wrap a).tmod 4) = (IntKind.u64.wrap a).tmod 4 := by unfold wrap64; omega
  have h4 : wrap64 (1 + (IntKind.u64.wrap a).tmod 4) = 1 + (IntKind.u64.wrap a).tmod 4 := by unfold wrap64; omega
  unfold pickA
  rw [h3, h4]
  omega

set_option maxHeartbeats 4000000 in
set_option maxRecDepth 100000 in
theorem one_calls {w : World} {rv sv : Value} {rs : List Rule} {l : List Samp} {f t a : Int} (hr : ReadsK w 10 rv (rs.map encR)) (hs : ReadsK w 4 sv (l.map encSa)) (hzr : SizedR rs) (hzs : SizedSa l) (hlen : rs.length * 96 ≤ 140737488355328) :
    Calls Tryz.prog 12 #[rv, sv, .agg #[.int .i64 f, .int .i64 t], .int .i64 a] w (Yes w) := by
  have HG := Lib.hid ((Grows.refl w).alloc (.cells #[.int .i64 f, .int .i64 t] 25))
  have W1 := Lib.hid (Blk.new w 25 #[.int .i64 f, .int .i64 t])
  have HR := Lib.hid (HG.out.reads hr)
  have HS := Lib.hid (HG.out.reads hs)
  have HZ0 := Lib.hid hzr
  have HZ := Lib.hid (sizedR_map (f := oneR) (fun r => ⟨rfl, rfl⟩) hzr)
  have HY := Lib.hid hzs
  have HL := Lib.hid hlen
  have sz1 : (w.alloc (.cells #[.int .i64 f, .int .i64 t] 25)).heap.size = w.heap.size + 1 := by simp
  obtain ⟨n, hn⟩ : ∃ n, rs.length = n := ⟨_, rfl⟩
  have hn47 : n * 96 ≤ 140737488355328 := by omega
  have HN := Lib.hid hn
  clear hr hs hzr hzs hlen hn
  go_enter Tryz.func12, Tryz.ntmps12
  go_wp2_with fail
  refine (clone37_calls HR.out HL.out).mono ?_
  rintro e w2 ⟨⟨ov, rfl, hO⟩, hB⟩
  rw [HN.out, sz1] at hO
  obtain ⟨A, c, hv, hc⟩ := hO.slice
  subst hv
  have O2 := Lib.hid hO
  have hk2 := Keeps.of_below hB
  rw [sz1] at hk2
  have K2 := Lib.hid hk2
  have HR2 := Lib.hid (K2.out.reads (fun b hb => by rw [sz1] at hb; exact hb) HR.out)
  clear hO hB HR hk2
  go_wp2_with fail
  refine (clone37_calls HR2.out HL.out).mono ?_
  rintro e w3 ⟨⟨ov, rfl, hO⟩, hB⟩
  rw [HN.out] at hO
  obtain ⟨A3, c3, hv, hc3⟩ := hO.slice
  subst hv
  have hk3 := Keeps.of_below hB
  have K3 := Lib.hid (K2.out.trans (hk3.mono fun k hk => by have := K2.out.size; rw [sz1] at this; omega))
  have O3 := Lib.hid (O2.out.keeps hk3 fun g hg => (O2.out.lt g hg).2)
  have P3 := Lib.hid hO
  have hlt2 : w.heap.size + 1 ≤ w2.heap.size := by have := K2.out.size; rwa [sz1] at this
  have hOne : ∀ g, (Value.slice A n c).ownBlock = some g → g < w2.heap.size := fun g hg => (O2.out.lt g hg).2
  have HOne := Lib.hid hOne
  clear hO hB hk3 HR2 HL K2 hOne O2
  go_wp2_with fail
  go_loopw [20] (fun i wr => ∃ k : Nat, k ≤ n ∧ i = .int .i64 k ∧ (0 < n → ∃ ga oa gb ob, A = some ⟨ga, oa, none⟩ ∧ A3 = some ⟨gb, ob, none⟩ ∧ ga ≠ gb ∧ w.heap.size + 1 ≤ ga ∧ w.heap.size + 1 ≤ gb ∧ InQ (pickA a) (w.heap.size + 1) w3 wr ga oa c gb ob c3 n rs k) ∧ (n = 0 → w3 = wr)) (fun i _ => n - (intOf i).toNat)
  case atStart =>
    refine ⟨0, Nat.zero_le _, rfl, fun h0 => ?_, fun _ => rfl⟩
    obtain ⟨ga, oa, ca, hv, _, hb, _⟩ := O3.out.form h0
    simp only [Value.slice.injEq, true_and] at hv
    obtain ⟨rfl, rfl⟩ := hv
    obtain ⟨gb, ob, cb, hv, _, hb2, _⟩ := P3.out.form h0
    simp only [Value.slice.injEq, true_and] at hv
    obtain ⟨rfl, rfl⟩ := hv
    have := HOne.out ga rfl
    exact ⟨ga, oa, gb, ob, rfl, rfl, by omega, hb, by omega, by rw [updL_zero]; exact O3.out, by rw [updL_zero]; exact P3.out.lower hlt2, Keeps.refl _ _⟩
  case round =>
    obtain ⟨k, hk, rfl, hW, hW0⟩ := hrel
    have HW0 := Lib.hid hW0
    clear hW0
    by_cases hlt : k < n
    · obtain ⟨ga, oa, gb, ob, rfl, rfl, hne, hba, hbb, hW⟩ := hW (by omega)
      have HW := Lib.hid hW
      clear hW
      obtain ⟨r, hs⟩ : ∃ r, rs[k]? = some r := ⟨rs[k]'(by rw [HN.out]; exact hlt), List.getElem?_eq_getElem _⟩
      have hd : (k : Int) < (n : Int) := by omega
      have x1 : IntKind.i64.wrap ((k : Int) + 1) = (k : Int) + 1 := IntWalk.i64_in _ (by omega)
      have a3 : wr.cell? ⟨ga, oa + k * 10 + 3, none⟩ = some (.int .i64 r.long) := by rw [Nat.add_assoc]; exact HW.out.a.cell _ _ (flatE_get encR_len _ _ _ (updL_get hs) 3 _ rfl)
      have b3 : wr.cell? ⟨gb, ob + k * 10 + 3, none⟩ = some (.int .i64 r.long) := by rw [Nat.add_assoc]; exact HW.out.b.cell _ _ (flatE_get encR_len _ _ _ (updL_get hs) 3 _ rfl)
      have a2 : wr.cell? ⟨ga, oa + k * 10 + 2, none⟩ = some (.int .i64 r.agg) := by rw [Nat.add_assoc]; exact HW.out.a.cell _ _ (flatE_get encR_len _ _ _ (updL_get hs) 2 _ rfl)
      have b2 : wr.cell? ⟨gb, ob + k * 10 + 2, none⟩ = some (.int .i64 r.agg) := by rw [Nat.add_assoc]; exact HW.out.b.cell _ _ (flatE_get encR_len _ _ _ (updL_get hs) 2 _ rfl)
      have fa : ∀ o, wr.frozen? ⟨ga, o, none⟩ = false := fun o => HW.out.a.frozen o
      have fb : ∀ o, wr.frozen? ⟨gb, o, none⟩ = false := fun o => HW.out.b.frozen o
      have HX := Lib.hid hs
      clear hs
      obtain ⟨g, hg⟩ : ∃ g, r.agg = g := ⟨_, rfl⟩
      rw [hg] at a2 b2
      by_cases h1 : 1 ≤ g
      · by_cases h4 : g ≤ 4
        · go_wp2_with fail
          exact ⟨⟨k + 1, by omega, by go_num, fun _ => ⟨ga, oa, gb, ob, rfl, rfl, hne, hba, hbb, HW.out.more hne HX.out (by omega)⟩, fun h => by omega⟩, by simp [intOf]; omega⟩
        · go_wp2_with fail
          exact ⟨⟨k + 1, by omega, by go_num, fun _ => ⟨ga, oa, gb, ob, rfl, rfl, hne, hba, hbb, HW.out.both hne HX.out (by omega)⟩, fun h => by omega⟩, by simp [intOf]; omega⟩
      · go_wp2_with fail
        exact ⟨⟨k + 1, by omega, by go_num, fun _ => ⟨ga, oa, gb, ob, rfl, rfl, hne, hba, hbb, HW.out.both hne HX.out (by omega)⟩, fun h => by omega⟩, by simp [intOf]; omega⟩
    · have hkn : k = n := by omega
      subst hkn
      have hd : ¬ (k : Int) < (k : Int) := by omega
      obtain ⟨wq, rfl⟩ : ∃ x, x = wr := ⟨_, rfl⟩
      have hall : Keeps (· < w.heap.size + 1) (w.alloc (.cells #[.int .i64 f, .int .i64 t] 25)) wq ∧ ReadsK wq 10 (.slice A k c) ((rs.map oneR).map encR) ∧ ReadsK wq 10 (.slice A3 k c3) ((rs.map (someR (pickA a))).map encR) := by
        by_cases h0 : k = 0
        · have e := HW0.out h0
          subst e
          have hn0 := HN.out
          subst hn0
          have hnil : rs = [] := List.eq_nil_of_length_eq_zero h0
          have ha := O3.out.reads encR_len
          have hb := P3.out.reads encR_len
          rw [hnil] at ha hb ⊢
          exact ⟨K3.out, ha, hb⟩
        · obtain ⟨ga, oa, gb, ob, rfl, rfl, hne, hba, hbb, hW⟩ := hW (by omega)
          have hz := K3.out.size
          rw [sz1] at hz
          refine ⟨K3.out.trans (hW.kp.mono fun b hb => ⟨by omega, by omega, by omega⟩), ?_, ?_⟩
          · have h1 := hW.a
            rw [updL_all HN.out, ← HN.out, ← List.length_map (f := oneR)] at h1
            have := h1.reads encR_len
            rwa [List.length_map, HN.out] at this
          · have h1 := hW.b
            rw [updL_all HN.out, ← HN.out, ← List.length_map (f := someR (pickA a))] at h1
            have := h1.reads encR_len
            rwa [List.length_map, HN.out] at this
      obtain ⟨hK, hRa, hRb⟩ := hall
      have K4 := Lib.hid hK
      have HRa := Lib.hid hRa
      have HRb := Lib.hid hRb
      have W3 := Lib.hid (K4.out.blk W1.out (by omega))
      have e0 := W3.out.cell 0
      have e1 := W3.out.cell 1
      have HS3 := Lib.hid (K4.out.reads (fun b hb => by rw [sz1] at hb; exact hb) HS.out)
      have B3 := Lib.hid (HG.out.below.trans (K4.out.below.mono (Nat.le_succ _)))
      have HC := Lib.hid (wSpells_calls (f := f) (t := t) HRa.out HS3.out HZ.out HY.out)
      clear hK hRa hRb hW HW0 K3 O3 P3 HOne W1 HG HS K4
      obtain ⟨rs', hrs'⟩ : ∃ rs', rs.map oneR = rs' := ⟨_, rfl⟩
      rw [hrs'] at HRa HZ HC
      have HRS := Lib.hid hrs'
      clear hrs'
      go_wp2_with fail
      refine HC.out.mono ?_
      rintro e w5 ⟨⟨ov, rfl, hO⟩, hB⟩
      have B4 := Lib.hid (Below.then B3.out hB)
      have K5 := Lib.hid (Keeps.of_below hB)
      by_cases hf : faultOf rs' l (f, t) = 0
      · rw [decide_eq_true hf]
        rw [WPost.some_ hf] at hO
        have O4 := Lib.hid hO
        obtain ⟨k1, k2, k3⟩ := faultOf_ok hf
        have HC3 := Lib.hid k3
        have HGR := Lib.hid (chkR_ok k1)
        have HGL := Lib.hid (chkS_ok k2)
        clear hO hB k1 k2 k3 hf
        go_wp2_with fail
        refine (facts_calls _).mono ?_
        rintro e w6 ⟨rfl, hb⟩
        have B6 := Lib.hid (Below.then B4.out hb)
        have K6 := Lib.hid (K5.out.trans ((Keeps.of_below hb).mono fun k hk => Nat.lt_of_lt_of_le hk K5.out.size))
        have O6 := Lib.hid ((O4.out.keeps (Keeps.of_below hb) fun g hg => (O4.out.lt g hg).2).reads encSp_len)
        have hXl := spells_len (w := (f, t)) HGR.out HGL.out
        have W6 := Lib.hid (K6.out.blk W3.out W3.out.lt)
        have e6 := W6.out.cell 0
        have e7 := W6.out.cell 1
        have HS6 := Lib.hid (K6.out.reads (fun _ h => h) HS3.out)
        have HR6 := Lib.hid (K6.out.reads (fun _ h => h) HRb.out)
        have hpick := pick_range a
        have hlaw := law_one HGR.out HGL.out HC3.out (fun r hr => by
          rw [← HRS.out] at hr
          obtain ⟨x, _, rfl⟩ := List.mem_map.1 hr
          rfl) (pickA a) hpick
        rw [← HRS.out, ← map_some, HRS.out] at hlaw
        have HA := Lib.hid (wAlike_calls (f := f) (t := t) O6.out HR6.out HS6.out (sized_some _ HZ0.out) HY.out hlaw (by omega))
        clear hb O4 B4 K5 K6 HS3 HRa HRb W3 e0 e1 HC W6 HS6 HR6 O6 hlaw hpick
        go_wp2_with fail
        refine HA.out.mono ?_
        rintro e w8 ⟨rfl, hb⟩
        have B8 := Lib.hid (Below.then B6.out hb)
        clear hb
        go_wp2_with fail
        go_ret
        exact ⟨rfl, B8.out⟩
      · rw [decide_eq_false hf]
        rw [WPost.none_ hf] at hO
        obtain ⟨A2, c2, hv2, _⟩ := hO.slice
        subst hv2
        clear hO hB
        go_wp2_with fail
        refine (facts_calls _).mono ?_
        rintro e w4 ⟨rfl, hb⟩
        have B5 := Lib.hid (Below.then B4.out hb)
        clear hb
        go_wp2_with fail
        go_ret
        exact ⟨rfl, B5.out⟩

end Go.Proofs.YteandmolnbcmmaaGreatDoor
