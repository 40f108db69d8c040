/- Walk: TopMetricsNamed. No condition beyond what each theorem states. -/
import Derived.Test.YteandmolnbcmmaaGreatDoorME

namespace Go.Proofs.YteandmolnbcmmaaGreatDoor
open Go.RowKit Go.Sort

set_option maxHeartbeats 4000000 in
set_option maxRecDepth 100000 in
theorem metnamed_calls {w : World} {rv sv : Value} {rs : List Rule} {l : List Samp} {f t : Int} (hr : ReadsK w 10 rv (rs.map encR)) (hs : ReadsK w 4 sv (l.map encSa)) (hzr : SizedR rs) (hzs : SizedSa l) :
    Calls Tryz.prog 11 #[rv, sv, .agg #[.int .i64 f, .int .i64 t]] w (Yes w) := by
  have HG := Lib.hid ((Grows.refl w).alloc (.cells #[.int .i64 f, .int .i64 t] 25))
  have W1 := Lib.hid (Blk.new w 25 #[.int .i64 f, .int .i64 t])
  have HR := Lib.hid (HG.out.reads hr)
  have HS := Lib.hid (HG.out.reads hs)
  have HZ := Lib.hid hzr
  have HY := Lib.hid hzs
  have HW := Lib.hid (wSpells_calls (f := f) (t := t) HR.out HS.out hzr hzs)
  clear hr hs hzr hzs
  go_enter Tryz.func11, Tryz.ntmps11
  go_wp2_with fail
  refine HW.out.mono ?_
  rintro e w3 ⟨⟨ov, rfl, hO⟩, hB⟩
  have B4 := Lib.hid (Below.then HG.out.below hB)
  have K4 := Lib.hid (Keeps.of_below hB)
  by_cases hf : faultOf rs l (f, t) = 0
  · rw [decide_eq_true hf]
    rw [WPost.some_ hf] at hO
    have O4 := Lib.hid hO
    obtain ⟨k1, k2, k3⟩ := faultOf_ok hf
    have HC3 := Lib.hid k3
    have HGR := Lib.hid (chkR_ok k1)
    have HGL := Lib.hid (chkS_ok k2)
    clear hO hB k1 k2 k3 hf
    go_wp2_with fail
    refine (facts_calls _).mono ?_
    rintro e w4 ⟨rfl, hb⟩
    have B5 := Lib.hid (Below.then B4.out hb)
    have K5 := Lib.hid (K4.out.trans ((Keeps.of_below hb).mono fun k hk => Nat.lt_of_lt_of_le hk K4.out.size))
    have O5 := Lib.hid (O4.out.keeps (Keeps.of_below hb) fun g hg => (O4.out.lt g hg).2)
    have X5 := Lib.hid (O5.out.reads encSp_len)
    have hl5 := HGL.out.len
    have hr5 := HGR.out.len
    have hXl := spells_len (w := (f, t)) HGR.out HGL.out
    have W5 := Lib.hid (K5.out.blk W1.out W1.out.lt)
    have HS5 := Lib.hid (K5.out.reads (fun _ h => h) HS.out)
    have HR5 := Lib.hid (K5.out.reads (fun _ h => h) HR.out)
    have HCR := Lib.hid (clone37_calls HR5.out (by omega))
    clear hb O4 B4 K4 HS HR W1 HW K5 O5 HG
    obtain ⟨X, hX⟩ : ∃ X, spells rs l (f, t) = X := ⟨_, rfl⟩
    rw [hX] at X5 hXl
    have HXX := Lib.hid hX
    clear hX
    go_wp2_with fail
    refine HCR.out.mono ?_
    rintro e w7 ⟨⟨ov1, rfl, hO⟩, hB⟩
    obtain ⟨A1, c1, hv1, hc1⟩ := hO.slice
    subst hv1
    obtain ⟨p, hp⟩ : ∃ p, rs.length = p := ⟨_, rfl⟩
    rw [hp] at hO hr5 hc1 ⊢
    have HP := Lib.hid hp
    have R7 := Lib.hid hO
    have K7 := Lib.hid (Keeps.of_below hB)
    have HS7 := Lib.hid (K7.out.reads (fun _ h => h) HS5.out)
    have X7 := Lib.hid (K7.out.reads (fun _ h => h) X5.out)
    have HCL := Lib.hid (clone35_calls HS7.out (by omega))
    clear hp hO hB HCR HS5 X5 HR5
    go_wp2_with fail
    refine HCL.out.mono ?_
    rintro e w8 ⟨⟨ov2, rfl, hO⟩, hB⟩
    obtain ⟨A2, c2, hv2, hc2⟩ := hO.slice
    subst hv2
    obtain ⟨m, hm⟩ : ∃ m, l.length = m := ⟨_, rfl⟩
    rw [hm] at hO hl5 hc2 ⊢
    have HM := Lib.hid hm
    have S8 := Lib.hid hO
    have k8 := Keeps.of_below hB
    have K8 := Lib.hid (K7.out.trans (k8.mono fun k hk => Nat.lt_of_lt_of_le hk K7.out.size))
    have R8 := Lib.hid (R7.out.keeps k8 fun g hg => (R7.out.lt g hg).2)
    have X8 := Lib.hid (k8.reads (fun _ h => h) X7.out)
    have L1 : Hid (∀ g, (Value.slice A1 p c1).ownBlock = some g → w4.heap.size ≤ g ∧ g < w7.heap.size) := Lib.hid R7.out.lt
    have Z1 : Hid (w4.heap.size ≤ w7.heap.size) := Lib.hid K7.out.size
    have Z2 : Hid (w7.heap.size ≤ w8.heap.size) := Lib.hid k8.size
    have HCK := Lib.hid (clone36_calls X8.out (by omega))
    clear hm hO hB HCL R7 HS7 X7 K7 k8
    go_wp2_with fail
    refine HCK.out.mono ?_
    rintro e w9 ⟨⟨ov3, rfl, hO⟩, hB⟩
    obtain ⟨A3, c3, hv3, hc3⟩ := hO.slice
    subst hv3
    obtain ⟨q, hq⟩ : ∃ q, X.length = q := ⟨_, rfl⟩
    rw [hq] at hO hXl hc3 ⊢
    have HQ := Lib.hid hq
    have P9 := Lib.hid hO
    have k9 := Keeps.of_below hB
    have K9 := Lib.hid (K8.out.trans (k9.mono fun k hk => Nat.lt_of_lt_of_le hk K8.out.size))
    have R9 := Lib.hid (R8.out.keeps k9 fun g hg => (R8.out.lt g hg).2)
    have S9 := Lib.hid (S8.out.keeps k9 fun g hg => (S8.out.lt g hg).2)
    have L2 : Hid (∀ g, (Value.slice A2 m c2).ownBlock = some g → w7.heap.size ≤ g ∧ g < w8.heap.size) := Lib.hid S8.out.lt
    have Z3 : Hid (w8.heap.size ≤ w9.heap.size) := Lib.hid k9.size
    clear hq hO hB HCK K8 X8 R8 S8 k9
    go_wp2_with fail
    go_loopw [42] (fun i wr => ∃ k : Nat, k ≤ p ∧ i = .int .i64 k ∧ InP encR (renR (pre 107) (pre 113)) 31 10 w4.heap.size w9 wr (.slice A1 p c1) rs k) (fun i _ => p - (intOf i).toNat)
    case atStart => exact ⟨0, Nat.zero_le _, rfl, InP.start (by rw [HP.out]; exact R9.out)⟩
    case round =>
      obtain ⟨j, hj, rfl, hW⟩ := hrel
      have HW := Lib.hid hW
      clear hW
      by_cases hlt : j < p
      · obtain ⟨s, hs⟩ : ∃ s, rs[j]? = some s := ⟨rs[j]'(by rw [HP.out]; exact hlt), List.getElem?_eq_getElem _⟩
        obtain ⟨g, off, rfl⟩ := HW.out.form HP.out (by omega)
        have hd : (j : Int) < (p : Int) := by omega
        have x1 : IntKind.i64.wrap ((j : Int) + 1) = (j : Int) + 1 := IntWalk.i64_in _ (by omega)
        have d0 : wr.cell? ⟨g, off + j * 10, none⟩ = some (.string s.key) := HW.out.cell encR_len HP.out hs 0 rfl
        have d1 : wr.cell? ⟨g, off + j * 10 + 1, none⟩ = some (.string s.metric) := HW.out.cell encR_len HP.out hs 1 rfl
        have hz0 : ¬ 9223372036854775807 < 1 + s.key.size := by have := key_small (HGR.out.each s (List.mem_of_getElem? hs)).2.1; omega
        have hz1 : ¬ 9223372036854775807 < 1 + s.metric.size := by have := key_small (HGR.out.each s (List.mem_of_getElem? hs)).2.2; omega
        have HX := Lib.hid hs
        clear hs
        have f0 : wr.frozen? ⟨g, off + j * 10, none⟩ = false := HW.out.frozen HP.out _
        have f1 : wr.frozen? ⟨g, off + j * 10 + 1, none⟩ = false := HW.out.frozen HP.out _
        go_wp2_with fail
        go_region
        go_wp2_with fail
        exact ⟨⟨j + 1, by omega, by go_num, (HW.out.step2 encR_len HP.out HX.out { s with key := pre 107 s.key } 0 1 (by omega) (by omega) (by rw [cat_pre]; rfl) (by rw [cat_pre]; rfl)).drew⟩, by simp [intOf]; omega⟩
      · have hjp : j = p := by omega
        subst hjp
        have hd : ¬ (j : Int) < (j : Int) := by omega
        obtain ⟨wq, rfl⟩ : ∃ x, x = wr := ⟨_, rfl⟩
        have kk := HW.out.kp
        have hle := kk.size
        have K10 : Hid (Keeps (· < w4.heap.size) w4 wq) := Lib.hid (K9.out.trans (kk.mono fun b hb => ⟨Nat.lt_of_lt_of_le hb K9.out.size, fun e => by have := (R9.out.lt b e.symm).1; omega⟩))
        have S10 := Lib.hid (S9.out.keeps kk fun g hg => ⟨(S9.out.lt g hg).2, fun e => by have := (S9.out.lt g hg).1; have := (L1.out g e.symm).2; omega⟩)
        have P10 := Lib.hid (P9.out.keeps kk fun g hg => ⟨(P9.out.lt g hg).2, fun e => by have := (P9.out.lt g hg).1; have := (L1.out g e.symm).2; have := Z2.out; omega⟩)
        have R10 := Lib.hid (HW.out.done HP.out)
        rw [List.length_map, HP.out] at R10
        have Z10 : Hid (w8.heap.size ≤ wq.heap.size) := Lib.hid (Nat.le_trans Z3.out hle)
        clear HW K9 S9 P9 R9 kk hle
        go_wp2_with fail
        go_loopw [68] (fun i wr => ∃ k : Nat, k ≤ m ∧ i = .int .i64 k ∧ InP encSa (renM (pre 113)) 51 4 w7.heap.size wq wr (.slice A2 m c2) l k) (fun i _ => m - (intOf i).toNat)
        case atStart => exact ⟨0, Nat.zero_le _, rfl, InP.start (by rw [HM.out]; exact S10.out)⟩
        case round =>
          obtain ⟨i, hi, rfl, hW⟩ := hrel
          have HW := Lib.hid hW
          clear hW
          by_cases hlt : i < m
          · obtain ⟨s, hs⟩ : ∃ s, l[i]? = some s := ⟨l[i]'(by rw [HM.out]; exact hlt), List.getElem?_eq_getElem _⟩
            obtain ⟨g, off, rfl⟩ := HW.out.form HM.out (by omega)
            have hd : (i : Int) < (m : Int) := by omega
            have x1 : IntKind.i64.wrap ((i : Int) + 1) = (i : Int) + 1 := IntWalk.i64_in _ (by omega)
            have d2 : wr.cell? ⟨g, off + i * 4 + 1, none⟩ = some (.string s.metric) := HW.out.cell encSa_len HM.out hs 1 rfl
            have hz : ¬ 9223372036854775807 < 1 + s.metric.size := by have := key_small (HGL.out.each s (List.mem_of_getElem? hs)).metric; omega
            have HX := Lib.hid hs
            clear hs
            have f2 : wr.frozen? ⟨g, off + i * 4 + 1, none⟩ = false := HW.out.frozen HM.out _
            go_wp2_with fail
            exact ⟨⟨i + 1, by omega, by go_num, HW.out.step encSa_len HM.out HX.out 1 (by omega) (by rw [cat_pre]; rfl)⟩, by simp [intOf]; omega⟩
          · have him : i = m := by omega
            subst him
            have hd : ¬ (i : Int) < (i : Int) := by omega
            obtain ⟨wp, rfl⟩ : ∃ x, x = wr := ⟨_, rfl⟩
            have kk := HW.out.kp
            have hle := kk.size
            have K11 : Hid (Keeps (· < w4.heap.size) w4 wp) := Lib.hid (K10.out.trans (kk.mono fun b hb => ⟨Nat.lt_of_lt_of_le hb K10.out.size, fun e => by have := (L2.out b e.symm).1; have := Z1.out; omega⟩))
            have R11 := Lib.hid (R10.out.keeps kk fun g hg => ⟨(R10.out.lt g hg).2, fun e => by have := (L1.out g hg).2; have := (L2.out g e.symm).1; omega⟩)
            have P11 := Lib.hid (P10.out.keeps kk fun g hg => ⟨(P10.out.lt g hg).2, fun e => by have := (P10.out.lt g hg).1; have := (L2.out g e.symm).2; omega⟩)
            have S11 := Lib.hid (HW.out.done HM.out)
            rw [List.length_map, HM.out] at S11
            have Z11 : Hid (w8.heap.size ≤ wp.heap.size) := Lib.hid (Nat.le_trans Z10.out hle)
            clear HW K10 S10 P10 R10 kk hle
            go_wp2_with fail
            go_loopw [84] (fun i wr => ∃ k : Nat, k ≤ q ∧ i = .int .i64 k ∧ InP encSp (renSR (pre 107)) 34 4 w8.heap.size wp wr (.slice A3 q c3) X k) (fun i _ => q - (intOf i).toNat)
            case atStart => exact ⟨0, Nat.zero_le _, rfl, InP.start (by rw [HQ.out]; exact P11.out)⟩
            case round =>
              obtain ⟨u, hu, rfl, hW⟩ := hrel
              have HW := Lib.hid hW
              clear hW
              by_cases hlt : u < q
              · obtain ⟨s, hs⟩ : ∃ s, X[u]? = some s := ⟨X[u]'(by rw [HQ.out]; exact hlt), List.getElem?_eq_getElem _⟩
                obtain ⟨g, off, rfl⟩ := HW.out.form HQ.out (by omega)
                have hd : (u : Int) < (q : Int) := by omega
                have x1 : IntKind.i64.wrap ((u : Int) + 1) = (u : Int) + 1 := IntWalk.i64_in _ (by omega)
                have d2 : wr.cell? ⟨g, off + u * 4 + 1, none⟩ = some (.string s.rule) := HW.out.cell encSp_len HQ.out hs 1 rfl
                have hz : ¬ 9223372036854775807 < 1 + s.rule.size := by have := (spells_keys HGR.out HGL.out (HXX.out ▸ List.mem_of_getElem? hs)).2; omega
                have HX := Lib.hid hs
                clear hs
                have f2 : wr.frozen? ⟨g, off + u * 4 + 1, none⟩ = false := HW.out.frozen HQ.out _
                go_wp2_with fail
                exact ⟨⟨u + 1, by omega, by go_num, HW.out.step encSp_len HQ.out HX.out 1 (by omega) (by rw [cat_pre]; rfl)⟩, by simp [intOf]; omega⟩
              · have hum : u = q := by omega
                subst hum
                have hd : ¬ (u : Int) < (u : Int) := by omega
                have kk : Keeps (· < w8.heap.size) wp wr := HW.out.kp.mono fun b hb => ⟨Nat.lt_of_lt_of_le hb Z11.out, fun e => by have := (P11.out.lt b e.symm).1; omega⟩
                have K12 : Hid (Keeps (· < w4.heap.size) w4 wr) := Lib.hid (K11.out.trans (kk.mono fun b hb => by have := Z1.out; have := Z2.out; omega))
                have W12 := Lib.hid (K12.out.blk W5.out W5.out.lt)
                have e0 := W12.out.cell 0
                have e1 := W12.out.cell 1
                have R12 := R11.out.keeps kk fun g hg => by have := (L1.out g hg).2; have := Z2.out; omega
                have S12 := S11.out.keeps kk fun g hg => (L2.out g hg).2
                rw [← HP.out, ← List.length_map (f := renR (pre 107) (pre 113))] at R12
                rw [← HM.out, ← List.length_map (f := renM (pre 113))] at S12
                have R13 := Lib.hid (R12.reads encR_len)
                have S13 := Lib.hid (S12.reads encSa_len)
                rw [List.length_map, HP.out] at R13
                rw [List.length_map, HM.out] at S13
                have X13 := Lib.hid (HW.out.done HQ.out |>.reads encSp_len)
                have B13 := Lib.hid (Below.then B5.out K12.out.below)
                have hlaw := law_metrics_named (pre_lt 107) (pre_lt 113) HGR.out HGL.out HC3.out
                rw [HXX.out] at hlaw
                have HA := Lib.hid (wAlike_calls (f := f) (t := t) X13.out R13.out S13.out (fun x hx => by
                  obtain ⟨y, hy, rfl⟩ := List.mem_map.1 hx
                  have h1 := key_small (HGR.out.each y hy).2.1
                  have h2 := key_small (HGR.out.each y hy).2.2
                  refine ⟨?_, ?_⟩
                  · show (pre 107 y.key).size ≤ maxLen
                    rw [pre_size]; unfold maxLen; omega
                  · show (pre 113 y.metric).size ≤ maxLen
                    rw [pre_size]; unfold maxLen; omega) (fun x hx => by
                  obtain ⟨y, hy, rfl⟩ := List.mem_map.1 hx
                  have h1 := key_small (HGL.out.each y hy).device
                  have h2 := key_small (HGL.out.each y hy).metric
                  refine ⟨?_, ?_⟩
                  · show y.device.size ≤ maxLen
                    unfold maxLen; omega
                  · show (pre 113 y.metric).size ≤ maxLen
                    rw [pre_size]; unfold maxLen; omega) hlaw (by rw [List.length_map, HQ.out]; omega))
                clear kk K12 W12 R12 S12 R13 S13 X13 hlaw HW K11 R11 P11 S11 W5
                go_wp2_with fail
                refine HA.out.mono ?_
                rintro e w14 ⟨rfl, hb⟩
                have B14 := Lib.hid (Below.then B13.out hb)
                clear hb
                go_wp2_with fail
                go_ret
                exact ⟨rfl, B14.out⟩
  · rw [decide_eq_false hf]
    rw [WPost.none_ hf] at hO
    obtain ⟨A2, c2, hv2, _⟩ := hO.slice
    subst hv2
    clear hO hB
    go_wp2_with fail
    refine (facts_calls _).mono ?_
    rintro e w4 ⟨rfl, hb⟩
    have B5 := Lib.hid (Below.then B4.out hb)
    clear hb
    go_wp2_with fail
    go_ret
    exact ⟨rfl, B5.out⟩

end Go.Proofs.YteandmolnbcmmaaGreatDoor
