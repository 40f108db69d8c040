/- Walk: wValues with the closures of one law (mul), printed by gen_wv.py. Walk: TopRulesScaled. No condition beyond what each theorem states. -/
import Derived.Test.YteandmolnbcmmaaGreatDoorML

namespace Go.Proofs.YteandmolnbcmmaaGreatDoor
open Go.RowKit Go.Sort

set_option maxHeartbeats 4000000 in
set_option maxRecDepth 100000 in
theorem wv_mul {w : World} {rv sv : Value} {rs : List Rule} {l : List Samp} {kk : Int} {kb : Nat} (hr : ReadsK w 10 rv (rs.map encR)) (hs : ReadsK w 4 sv (l.map encSa)) (hr5 : rs.length ≤ 100) (hl5 : l.length ≤ 5000) (hk : w.cell? ⟨kb, 0, none⟩ = some (.int .i64 kk)) :
    Calls Tryz.prog 21 #[rv, sv, .func (.func 25) #[] #[.pointer (some ⟨kb, 0, none⟩)], .func (.func 26) #[] #[.pointer (some ⟨kb, 0, none⟩)]] w (WV (limW (mulW kk)) (fun v => wrap64 (kk * v)) w rs l) := by
  have KC := Lib.hid hk
  have hkb : kb < w.heap.size := World.block_lt_of_cell? w _ hk
  have HKB := Lib.hid hkb
  clear hk hkb
  have HS := Lib.hid hs
  have HCR := Lib.hid (clone37_calls hr (by omega))
  clear hr hs
  go_enter Tryz.func21, Tryz.ntmps21
  go_wp2_with fail
  refine HCR.out.mono ?_
  rintro e w7 ⟨⟨ov1, rfl, hO⟩, hB⟩
  obtain ⟨A1, c1, hv1, hc1⟩ := hO.slice
  subst hv1
  obtain ⟨p, hp⟩ : ∃ p, rs.length = p := ⟨_, rfl⟩
  rw [hp] at hO hr5 hc1 ⊢
  have HP := Lib.hid hp
  have R7 := Lib.hid hO
  have K7 := Lib.hid (Keeps.of_below hB)
  have HS7 := Lib.hid (K7.out.reads (fun _ h => h) HS.out)
  have HCL := Lib.hid (clone35_calls HS7.out (by omega))
  clear hp hO hB HCR HS
  go_wp2_with fail
  refine HCL.out.mono ?_
  rintro e w8 ⟨⟨ov2, rfl, hO⟩, hB⟩
  obtain ⟨A2, c2, hv2, hc2⟩ := hO.slice
  subst hv2
  obtain ⟨m, hm⟩ : ∃ m, l.length = m := ⟨_, rfl⟩
  rw [hm] at hO hl5 hc2 ⊢
  have HM := Lib.hid hm
  have S8 := Lib.hid hO
  have k8 := Keeps.of_below hB
  have K8 := Lib.hid (K7.out.trans (k8.mono fun k hk => Nat.lt_of_lt_of_le hk K7.out.size))
  have R8 := Lib.hid (R7.out.keeps k8 fun g hg => (R7.out.lt g hg).2)
  have L1 : Hid (∀ g, (Value.slice A1 p c1).ownBlock = some g → w.heap.size ≤ g ∧ g < w7.heap.size) := Lib.hid R7.out.lt
  have Z1 : Hid (w.heap.size ≤ w7.heap.size) := Lib.hid K7.out.size
  have Z2 : Hid (w7.heap.size ≤ w8.heap.size) := Lib.hid k8.size
  clear hm hO hB HCL R7 HS7 K7 k8
  go_wp2_with fail
  go_loopw [11, 20] (fun v i wr => ∃ (k : Nat) (okv : Bool), k ≤ p ∧ v = .bool okv ∧ i = .int .i64 k ∧ InP encR (limW (mulW kk)) 31 10 w.heap.size w8 wr (.slice A1 p c1) rs k) (fun _ i _ => p - (intOf i).toNat)
  case atStart => exact ⟨0, true, Nat.zero_le _, rfl, rfl, InP.start (by rw [HP.out]; exact R8.out)⟩
  case round =>
    obtain ⟨j, okv, hj, rfl, rfl, hW⟩ := hrel
    have HW := Lib.hid hW
    clear hW
    by_cases hlt : j < p
    · obtain ⟨r, hs⟩ : ∃ r, rs[j]? = some r := ⟨rs[j]'(by rw [HP.out]; exact hlt), List.getElem?_eq_getElem _⟩
      obtain ⟨g, off, rfl⟩ := HW.out.form HP.out (by omega)
      have hd : (j : Int) < (p : Int) := by omega
      have x1 : IntKind.i64.wrap ((j : Int) + 1) = (j : Int) + 1 := IntWalk.i64_in _ (by omega)
      have d0 : wr.cell? ⟨g, off + j * 10, none⟩ = some (.string r.key) := HW.out.cell encR_len HP.out hs 0 rfl
      have d1 : wr.cell? ⟨g, off + j * 10 + 1, none⟩ = some (.string r.metric) := HW.out.cell encR_len HP.out hs 1 rfl
      have d2 : wr.cell? ⟨g, off + j * 10 + 2, none⟩ = some (.int .i64 r.agg) := HW.out.cell encR_len HP.out hs 2 rfl
      have d3 : wr.cell? ⟨g, off + j * 10 + 3, none⟩ = some (.int .i64 r.long) := HW.out.cell encR_len HP.out hs 3 rfl
      have d4 : wr.cell? ⟨g, off + j * 10 + 4, none⟩ = some (.bool r.above) := HW.out.cell encR_len HP.out hs 4 rfl
      have d5 : wr.cell? ⟨g, off + j * 10 + 5, none⟩ = some (.int .i64 r.on) := HW.out.cell encR_len HP.out hs 5 rfl
      have d6 : wr.cell? ⟨g, off + j * 10 + 6, none⟩ = some (.int .i64 r.off) := HW.out.cell encR_len HP.out hs 6 rfl
      have d7 : wr.cell? ⟨g, off + j * 10 + 7, none⟩ = some (.int .i64 r.hold) := HW.out.cell encR_len HP.out hs 7 rfl
      have d8 : wr.cell? ⟨g, off + j * 10 + 8, none⟩ = some (.int .i64 r.rest) := HW.out.cell encR_len HP.out hs 8 rfl
      have d9 : wr.cell? ⟨g, off + j * 10 + 9, none⟩ = some (.int .i64 r.empty) := HW.out.cell encR_len HP.out hs 9 rfl
      have HX := Lib.hid hs
      clear hs
      have kc : wr.cell? ⟨kb, 0, none⟩ = some (.int .i64 kk) := HW.out.kp.cell ⟨Nat.lt_of_lt_of_le HKB.out K8.out.size, fun e => by have := (L1.out kb e.symm).1; have := HKB.out; omega⟩ (K8.out.cell HKB.out KC.out)
      obtain ⟨a, ha⟩ : ∃ a, r.agg = a := ⟨_, rfl⟩
      by_cases h5 : a = 5
      · have HI := Lib.hid (HW.out.skip HX.out (by unfold limW; rw [if_pos (by omega)]))
        rw [ha, h5] at d2
        clear d0 d1 d3 d4 d7 d8 d9 ha h5 HW
        cases okv
        · go_wp2_with fail
          exact ⟨⟨j + 1, false, by omega, rfl, by go_num, HI.out⟩, by simp [intOf]; omega⟩
        · go_wp2_with (go_at_call 32; refine (far_calls _ _).mono ?_; rintro e wy ⟨rfl, rfl⟩)
          all_goals exact ⟨⟨j + 1, _, by omega, rfl, by go_num, HI.out⟩, by simp [intOf]; omega⟩
      · have h5' : r.agg ≠ 5 := by omega
        have HLW : Hid (limW (mulW kk) r = mulW kk r) := Lib.hid (by unfold limW; rw [if_neg h5'])
        have hb5 : (a == 5) = false := by simp [h5]
        obtain ⟨y, hy⟩ : ∃ y, mulW kk r = y := ⟨_, rfl⟩
        have HYY := Lib.hid hy
        have HCC := Lib.hid (mul2_calls kk r kb wr kc)
        rw [ha] at d2 HCC
        rw [hy] at HCC HLW
        clear ha h5' hy
        cases okv
        · go_wp2_with (go_at_call 26; refine HCC.out.mono ?_; rintro e w5 ⟨he, hb⟩; have he' : e = .returned (.agg #[.string y.key, .string y.metric, .int .i64 y.agg, .int .i64 y.long, .bool y.above, .int .i64 y.on, .int .i64 y.off, .int .i64 y.hold, .int .i64 y.rest, .int .i64 y.empty]) := he; subst he'; have HW5 := Lib.hid (HW.out.below hb); have fz : ∀ o, w5.frozen? ⟨g, o, none⟩ = false := fun o => HW5.out.frozen HP.out o; clear hb he d0 d1 d2 d3 d4 d5 d6 d7 d8 d9; have q0 : w5.cell? ⟨g, off + j * 10, none⟩ = some (.string r.key) := HW5.out.cell encR_len HP.out HX.out 0 rfl; have q1 : w5.cell? ⟨g, off + j * 10 + 1, none⟩ = some (.string r.metric) := HW5.out.cell encR_len HP.out HX.out 1 rfl; have q2 : w5.cell? ⟨g, off + j * 10 + 2, none⟩ = some (.int .i64 r.agg) := HW5.out.cell encR_len HP.out HX.out 2 rfl; have q3 : w5.cell? ⟨g, off + j * 10 + 3, none⟩ = some (.int .i64 r.long) := HW5.out.cell encR_len HP.out HX.out 3 rfl; have q4 : w5.cell? ⟨g, off + j * 10 + 4, none⟩ = some (.bool r.above) := HW5.out.cell encR_len HP.out HX.out 4 rfl; have q5 : w5.cell? ⟨g, off + j * 10 + 5, none⟩ = some (.int .i64 r.on) := HW5.out.cell encR_len HP.out HX.out 5 rfl; have q6 : w5.cell? ⟨g, off + j * 10 + 6, none⟩ = some (.int .i64 r.off) := HW5.out.cell encR_len HP.out HX.out 6 rfl; have q7 : w5.cell? ⟨g, off + j * 10 + 7, none⟩ = some (.int .i64 r.hold) := HW5.out.cell encR_len HP.out HX.out 7 rfl; have q8 : w5.cell? ⟨g, off + j * 10 + 8, none⟩ = some (.int .i64 r.rest) := HW5.out.cell encR_len HP.out HX.out 8 rfl; have q9 : w5.cell? ⟨g, off + j * 10 + 9, none⟩ = some (.int .i64 r.empty) := HW5.out.cell encR_len HP.out HX.out 9 rfl)
          exact ⟨⟨j + 1, _, by omega, rfl, by go_num, HW5.out.whole HP.out HX.out HLW.out⟩, by simp [intOf]; omega⟩
        · go_wp2_with (first | (go_at_call 32; refine (far_calls _ _).mono ?_; rintro e wy ⟨rfl, rfl⟩) | (go_at_call 26; refine HCC.out.mono ?_; rintro e w5 ⟨he, hb⟩; have he' : e = .returned (.agg #[.string y.key, .string y.metric, .int .i64 y.agg, .int .i64 y.long, .bool y.above, .int .i64 y.on, .int .i64 y.off, .int .i64 y.hold, .int .i64 y.rest, .int .i64 y.empty]) := he; subst he'; have HW5 := Lib.hid (HW.out.below hb); have fz : ∀ o, w5.frozen? ⟨g, o, none⟩ = false := fun o => HW5.out.frozen HP.out o; clear hb he d0 d1 d2 d3 d4 d5 d6 d7 d8 d9; have q0 : w5.cell? ⟨g, off + j * 10, none⟩ = some (.string r.key) := HW5.out.cell encR_len HP.out HX.out 0 rfl; have q1 : w5.cell? ⟨g, off + j * 10 + 1, none⟩ = some (.string r.metric) := HW5.out.cell encR_len HP.out HX.out 1 rfl; have q2 : w5.cell? ⟨g, off + j * 10 + 2, none⟩ = some (.int .i64 r.agg) := HW5.out.cell encR_len HP.out HX.out 2 rfl; have q3 : w5.cell? ⟨g, off + j * 10 + 3, none⟩ = some (.int .i64 r.long) := HW5.out.cell encR_len HP.out HX.out 3 rfl; have q4 : w5.cell? ⟨g, off + j * 10 + 4, none⟩ = some (.bool r.above) := HW5.out.cell encR_len HP.out HX.out 4 rfl; have q5 : w5.cell? ⟨g, off + j * 10 + 5, none⟩ = some (.int .i64 r.on) := HW5.out.cell encR_len HP.out HX.out 5 rfl; have q6 : w5.cell? ⟨g, off + j * 10 + 6, none⟩ = some (.int .i64 r.off) := HW5.out.cell encR_len HP.out HX.out 6 rfl; have q7 : w5.cell? ⟨g, off + j * 10 + 7, none⟩ = some (.int .i64 r.hold) := HW5.out.cell encR_len HP.out HX.out 7 rfl; have q8 : w5.cell? ⟨g, off + j * 10 + 8, none⟩ = some (.int .i64 r.rest) := HW5.out.cell encR_len HP.out HX.out 8 rfl; have q9 : w5.cell? ⟨g, off + j * 10 + 9, none⟩ = some (.int .i64 r.empty) := HW5.out.cell encR_len HP.out HX.out 9 rfl))
          all_goals exact ⟨⟨j + 1, _, by omega, rfl, by go_num, HW5.out.whole HP.out HX.out HLW.out⟩, by simp [intOf]; omega⟩
    · have hjp : j = p := by omega
      subst hjp
      have hd : ¬ (j : Int) < (j : Int) := by omega
      obtain ⟨wq, rfl⟩ : ∃ x, x = wr := ⟨_, rfl⟩
      have kk9 := HW.out.kp
      have hle := kk9.size
      have K10 : Hid (Keeps (· < w.heap.size) w wq) := Lib.hid (K8.out.trans (kk9.mono fun b hb => ⟨Nat.lt_of_lt_of_le hb K8.out.size, fun e => by have := (L1.out b e.symm).1; omega⟩))
      have S10 := Lib.hid (S8.out.keeps kk9 fun g hg => ⟨(S8.out.lt g hg).2, fun e => by have := (S8.out.lt g hg).1; have := (L1.out g e.symm).2; omega⟩)
      have R10 := HW.out.done HP.out
      rw [List.length_map, HP.out] at R10
      have R10 := Lib.hid R10
      have L2 : Hid (∀ g, (Value.slice A2 m c2).ownBlock = some g → w7.heap.size ≤ g) := Lib.hid fun g hg => (S8.out.lt g hg).1
      have Z3 : Hid (w7.heap.size ≤ wq.heap.size) := Lib.hid (Nat.le_trans Z2.out hle)
      clear HW K8 S8 R8 kk9 hle
      go_wp2_with fail
      go_loopw [11, 60] (fun v i wr => ∃ (k : Nat) (okv : Bool), k ≤ m ∧ v = .bool okv ∧ i = .int .i64 k ∧ InP encSa (valS (fun v => wrap64 (kk * v))) 51 4 w7.heap.size wq wr (.slice A2 m c2) l k) (fun _ i _ => m - (intOf i).toNat)
      case atStart => exact ⟨0, _, Nat.zero_le _, rfl, rfl, InP.start (by rw [HM.out]; exact S10.out)⟩
      case round =>
        obtain ⟨i, okw, hi, rfl, rfl, hW⟩ := hrel
        have HW := Lib.hid hW
        clear hW
        by_cases hlt : i < m
        · obtain ⟨s, hs⟩ : ∃ s, l[i]? = some s := ⟨l[i]'(by rw [HM.out]; exact hlt), List.getElem?_eq_getElem _⟩
          obtain ⟨g, off, rfl⟩ := HW.out.form HM.out (by omega)
          have hd : (i : Int) < (m : Int) := by omega
          have x1 : IntKind.i64.wrap ((i : Int) + 1) = (i : Int) + 1 := IntWalk.i64_in _ (by omega)
          have d3 : wr.cell? ⟨g, off + i * 4 + 3, none⟩ = some (.int .i64 s.value) := HW.out.cell encSa_len HM.out hs 3 rfl
          have HX := Lib.hid hs
          clear hs
          have f3 : wr.frozen? ⟨g, off + i * 4 + 3, none⟩ = false := HW.out.frozen HM.out _
          have kc : wr.cell? ⟨kb, 0, none⟩ = some (.int .i64 kk) := HW.out.kp.cell ⟨Nat.lt_of_lt_of_le HKB.out K10.out.size, fun e => by have := L2.out kb e.symm; have := HKB.out; have := Z1.out; omega⟩ (K10.out.cell HKB.out KC.out)
          go_wp2_with (first | (go_at_call 32; refine (far_calls _ _).mono ?_; rintro e wy ⟨rfl, rfl⟩) | (go_at_call 25; refine (mul1_calls kk _ kb _ kc).mono ?_; rintro e wy ⟨rfl, rfl⟩))
          all_goals exact ⟨⟨i + 1, _, by omega, rfl, by go_num, HW.out.step encSa_len HM.out HX.out 3 (by omega) rfl⟩, by simp [intOf]; omega⟩
        · have him : i = m := by omega
          subst him
          have hd : ¬ (i : Int) < (i : Int) := by omega
          have kkp : Keeps (· < w7.heap.size) wq wr := HW.out.kp.mono fun b hb => ⟨by have := Z3.out; omega, fun e => by have := L2.out b e.symm; omega⟩
          have K11 : Hid (Keeps (· < w.heap.size) w wr) := Lib.hid (K10.out.trans (kkp.mono fun b hb => by have := Z1.out; omega))
          have R11 := R10.out.keeps kkp fun g hg => (L1.out g hg).2
          rw [← HP.out, ← List.length_map (f := (limW (mulW kk)))] at R11
          have R12 := R11.reads encR_len
          rw [List.length_map, HP.out] at R12
          have R12 := Lib.hid R12
          have S12 := Lib.hid (HW.out.done HM.out |>.reads encSa_len)
          clear kkp R11 HW R10 S10 K10
          go_wp2_with fail
          refine bodyPost_ret (v := .tuple #[.slice A1 j c1, .slice A2 i c2, .bool okw]) (by simp [results, Tryz.results21, go_sem]) rfl ?_
          exact ⟨⟨_, _, _, rfl, R12.out, S12.out⟩, K11.out.below⟩

end Go.Proofs.YteandmolnbcmmaaGreatDoor

namespace Go.Proofs.YteandmolnbcmmaaGreatDoor
open Go.RowKit Go.Sort

theorem wrap_mul {k v : Int} (hk : 0 < k ∧ k ≤ 51) (hv : -1000000000 ≤ v ∧ v ≤ 1000000000) : wrap64 (k * v) = k * v := by
  have h1 : k * v ≤ 51 * 1000000000 := by
    rcases Int.le_total 0 v with h | h
    · exact Int.mul_le_mul hk.2 hv.2 h (by omega)
    · have := Int.mul_nonpos_of_nonneg_of_nonpos (Int.le_of_lt hk.1) h
      omega
  have h2 : -(51 * 1000000000) ≤ k * v := by
    have h3 : k * (-v) ≤ 51 * 1000000000 := by
      rcases Int.le_total 0 (-v) with h | h
      · exact Int.mul_le_mul hk.2 (by omega) h (by omega)
      · have := Int.mul_nonpos_of_nonneg_of_nonpos (Int.le_of_lt hk.1) h
        omega
    rw [Int.mul_neg] at h3
    omega
  unfold wrap64
  omega

theorem map_mul {rs : List Rule} (h : GoodRs rs) {k : Int} (hk : 0 < k ∧ k ≤ 51) : rs.map (limW (mulW k)) = rs.map (limR (mulR k)) := by
  refine List.map_congr_left fun r hr => ?_
  have hg := (h.each r hr).1
  have h1 := hg.on
  have h2 := hg.off
  have hM : (MAXN : Int) = 1000000000 := rfl
  rw [hM] at h1 h2
  unfold limW limR
  split
  · rfl
  · unfold mulW mulR
    rw [wrap_mul hk h1, wrap_mul hk h2]

def timesK (a : Int) : Int := wrap64 (2 + wrap64 ((IntKind.u64.wrap a).tmod 50))

theorem times_range (a : Int) : 0 < timesK a ∧ timesK a ≤ 51 := by
  have h0 : 0 ≤ IntKind.u64.wrap a := by
    unfold IntKind.wrap
    simp [IntKind.bits, IntKind.signed]
    omega
  have h1 := Int.tmod_lt_of_pos (IntKind.u64.wrap a) (b := 50) (by omega)
  have h2 := Int.tmod_nonneg (b := 50) h0
  have h3 : wrap64 ((IntKind.u64.wrap a).tmod 50) = (IntKind.u64.wrap a).tmod 50 := by unfold wrap64; omega
  have h4 : wrap64 (2 + (IntKind.u64.wrap a).tmod 50) = 2 + (IntKind.u64.wrap a).tmod 50 := by unfold wrap64; omega
  unfold timesK
  rw [h3, h4]
  omega

set_option maxHeartbeats 4000000 in
set_option maxRecDepth 100000 in
theorem scaled_calls {w : World} {rv sv : Value} {rs : List Rule} {l : List Samp} {f t a : Int} (hr : ReadsK w 10 rv (rs.map encR)) (hs : ReadsK w 4 sv (l.map encSa)) (hzr : SizedR rs) (hzs : SizedSa l) :
    Calls Tryz.prog 5 #[rv, sv, .agg #[.int .i64 f, .int .i64 t], .int .i64 a] w (Yes w) := by
  have HG := Lib.hid ((Grows.refl w).alloc (.cells #[.int .i64 f, .int .i64 t] 25))
  have W1 := Lib.hid (Blk.new w 25 #[.int .i64 f, .int .i64 t])
  have HR := Lib.hid (HG.out.reads hr)
  have HS := Lib.hid (HG.out.reads hs)
  have HZ := Lib.hid hzr
  have HY := Lib.hid hzs
  have HW := Lib.hid (wSpells_calls (f := f) (t := t) HR.out HS.out hzr hzs)
  clear hr hs hzr hzs
  go_enter Tryz.func5, Tryz.ntmps5
  go_wp2_with fail
  refine HW.out.mono ?_
  rintro e w3 ⟨⟨ov, rfl, hO⟩, hB⟩
  have B4 := Lib.hid (Below.then HG.out.below hB)
  have K4 := Lib.hid (Keeps.of_below hB)
  by_cases hf : faultOf rs l (f, t) = 0
  · rw [decide_eq_true hf]
    rw [WPost.some_ hf] at hO
    have O4 := Lib.hid hO
    obtain ⟨k1, k2, k3⟩ := faultOf_ok hf
    have HC3 := Lib.hid k3
    have HGR := Lib.hid (chkR_ok k1)
    have HGL := Lib.hid (chkS_ok k2)
    clear hO hB k1 k2 k3 hf
    go_wp2_with fail
    refine (facts_calls _).mono ?_
    rintro e w4 ⟨rfl, hb⟩
    have B5 := Lib.hid (Below.then B4.out hb)
    have K5 := Lib.hid (K4.out.trans ((Keeps.of_below hb).mono fun k hk => Nat.lt_of_lt_of_le hk K4.out.size))
    have O5 := Lib.hid (O4.out.keeps (Keeps.of_below hb) fun g hg => (O4.out.lt g hg).2)
    have X5 := Lib.hid (O5.out.reads encSp_len)
    have hXl := spells_len (w := (f, t)) HGR.out HGL.out
    have W5 := Lib.hid (K5.out.blk W1.out W1.out.lt)
    have HS5 := Lib.hid (K5.out.reads (fun _ h => h) HS.out)
    have HR5 := Lib.hid (K5.out.reads (fun _ h => h) HR.out)
    obtain ⟨kk, hkk⟩ : ∃ kk, timesK a = kk := ⟨_, rfl⟩
    have hkr : 0 < kk ∧ kk ≤ 51 := by rw [← hkk]; exact times_range a
    have HKK := Lib.hid hkk
    have HG6 := (Grows.refl w4).alloc (.cells #[.int .i64 kk] 3)
    have HS6 := Lib.hid (HG6.reads HS5.out)
    have HR6 := Lib.hid (HG6.reads HR5.out)
    have X6 := Lib.hid (HG6.reads X5.out)
    clear HG6
    have W6 := Lib.hid (W5.out.alloc (.cells #[.int .i64 kk] 3))
    have KB := Lib.hid (Blk.new w4 3 #[.int .i64 kk])
    have HV := Lib.hid (wv_mul HR6.out HS6.out HGR.out.len HGL.out.len (KB.out.cell 0))
    have B6 := Lib.hid (B5.out.alloc B5.out.size (.cells #[.int .i64 kk] 3))
    clear hb O4 B4 K4 HS HR W1 HW K5 O5 HG HS5 HR5 hkk X5 W5 B5 HS6 HR6
    go_wp2_with fail
    rw [show wrap64 (2 + wrap64 ((IntKind.u64.wrap a).tmod 50)) = kk from HKK.out]
    refine HV.out.mono ?_
    rintro e w5 ⟨⟨rv', sv', ok, rfl, hr', hs'⟩, hb⟩
    have k6 := Keeps.of_below hb
    have W7 := Lib.hid (k6.blk W6.out W6.out.lt)
    have X7 := Lib.hid (k6.reads (fun _ h => h) X6.out)
    have B7 := Lib.hid (Below.then B6.out hb)
    rw [map_mul HGR.out hkr] at hr'
    rw [vals_of (g := fun v => kk * v) HGL.out (fun v hv => wrap_mul hkr hv)] at hs'
    have HA := Lib.hid (wAlike_calls (f := f) (t := t) X7.out hr' hs' (by rw [← map_mul HGR.out hkr]; exact sized_lim (f := mulW kk) (fun r => ⟨rfl, rfl⟩) HZ.out) (fun x hx => by
      obtain ⟨y, hy, rfl⟩ := List.mem_map.1 hx
      exact HY.out y hy) (law_scaled HGR.out HGL.out HC3.out hkr.1) (by omega))
    have e0 := W7.out.cell 0
    have e1 := W7.out.cell 1
    clear hb k6 W7 X7 hr' hs' HV W6 X6 B6 KB
    cases ok
    · go_wp2_with fail
      go_ret
      exact ⟨rfl, B7.out⟩
    · go_wp2_with fail
      refine HA.out.mono ?_
      rintro e w8 ⟨rfl, hb⟩
      have B8 := Lib.hid (Below.then B7.out hb)
      clear hb
      go_wp2_with fail
      go_ret
      exact ⟨rfl, B8.out⟩
  · rw [decide_eq_false hf]
    rw [WPost.none_ hf] at hO
    obtain ⟨A2, c2, hv2, _⟩ := hO.slice
    subst hv2
    clear hO hB
    go_wp2_with fail
    refine (facts_calls _).mono ?_
    rintro e w4 ⟨rfl, hb⟩
    have B5 := Lib.hid (Below.then B4.out hb)
    clear hb
    go_wp2_with fail
    go_ret
    exact ⟨rfl, B5.out⟩

end Go.Proofs.YteandmolnbcmmaaGreatDoor
