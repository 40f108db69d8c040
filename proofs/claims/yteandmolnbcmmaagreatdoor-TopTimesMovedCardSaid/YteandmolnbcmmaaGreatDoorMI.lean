/- Walk: TopTimesMoved. No condition beyond what each theorem states. -/
import Derived.Test.YteandmolnbcmmaaGreatDoorMG

namespace Go.Proofs.YteandmolnbcmmaaGreatDoor
open Go.RowKit Go.Sort

theorem spells_span {rs : List Rule} {l : List Samp} {w : Int × Int} {s : Spell} (h : s ∈ spells rs l w) : w.1 ≤ s.from_ ∧ s.from_ < s.to_ ∧ s.to_ ≤ w.2 := by
  unfold spells at h
  have h1 := (sort3_perm spKey _).subset h
  unfold rawOf at h1
  obtain ⟨r, _, h2⟩ := List.mem_flatMap.1 h1
  unfold cutS at h2
  obtain ⟨h3, h4⟩ := List.mem_filter.1 h2
  obtain ⟨y, _, rfl⟩ := List.mem_map.1 h3
  have h5 := of_decide_eq_true h4
  simp only [cutOne] at h5 ⊢
  omega

set_option maxHeartbeats 4000000 in
set_option maxRecDepth 100000 in
theorem moved_calls {w : World} {rv sv : Value} {rs : List Rule} {l : List Samp} {f t a : Int} (hr : ReadsK w 10 rv (rs.map encR)) (hs : ReadsK w 4 sv (l.map encSa)) (hzr : SizedR rs) (hzs : SizedSa l) :
    Calls Tryz.prog 9 #[rv, sv, .agg #[.int .i64 f, .int .i64 t], .int .i64 a] w (Yes w) := by
  have HG := Lib.hid ((Grows.refl w).alloc (.cells #[.int .i64 f, .int .i64 t] 25))
  have W1 := Lib.hid (Blk.new w 25 #[.int .i64 f, .int .i64 t])
  have HR := Lib.hid (HG.out.reads hr)
  have HS := Lib.hid (HG.out.reads hs)
  have HZ := Lib.hid hzr
  have HY := Lib.hid hzs
  have HW := Lib.hid (wSpells_calls (f := f) (t := t) HR.out HS.out hzr hzs)
  obtain ⟨A, c, rfl, hcap, hrow⟩ := hr
  rw [List.length_map] at hcap HR HW ⊢
  obtain ⟨n, hnn⟩ : ∃ n, rs.length = n := ⟨_, rfl⟩
  rw [hnn] at hcap HR HW ⊢
  have HN := Lib.hid hnn
  clear hs hzr hzs hrow hnn
  go_enter Tryz.func9, Tryz.ntmps9
  go_wp2_with fail
  refine HW.out.mono ?_
  rintro e w3 ⟨⟨ov, rfl, hO⟩, hB⟩
  have B4 := Lib.hid (Below.then HG.out.below hB)
  have K4 := Lib.hid (Keeps.of_below hB)
  by_cases hf : faultOf rs l (f, t) = 0
  · rw [decide_eq_true hf]
    rw [WPost.some_ hf] at hO
    have O4 := Lib.hid hO
    obtain ⟨k1, k2, k3⟩ := faultOf_ok hf
    have HC1 := Lib.hid k1
    have HC3 := Lib.hid k3
    have HGR := Lib.hid (chkR_ok k1)
    have HGL := Lib.hid (chkS_ok k2)
    have hfr : 0 ≤ f ∧ f ≤ t ∧ t ≤ 345686400000 := k3
    clear hO hB k1 k2 k3 hf
    go_wp2_with fail
    · refine (facts_calls _).mono ?_
      rintro e w4 ⟨rfl, hb⟩
      have B5 := Lib.hid (Below.then B4.out hb)
      clear hb
      go_wp2_with fail
      go_ret
      exact ⟨rfl, B5.out⟩
    · refine (facts_calls _).mono ?_
      rintro e w4 ⟨rfl, hb⟩
      have B5 := Lib.hid (Below.then B4.out hb)
      clear hb
      go_wp2_with fail
      go_ret
      exact ⟨rfl, B5.out⟩
    rename_i ha0 ha1
    refine (facts_calls _).mono ?_
    rintro e w4 ⟨rfl, hb⟩
    have B5 := Lib.hid (Below.then B4.out hb)
    have K5 := Lib.hid (K4.out.trans ((Keeps.of_below hb).mono fun k hk => Nat.lt_of_lt_of_le hk K4.out.size))
    have O5 := Lib.hid (O4.out.keeps (Keeps.of_below hb) fun g hg => (O4.out.lt g hg).2)
    have X5 := Lib.hid (O5.out.reads encSp_len)
    have hl5 := HGL.out.len
    have hn5 := HGR.out.len
    rw [HN.out] at hn5
    have hXl := spells_len (w := (f, t)) HGR.out HGL.out
    have W5 := Lib.hid (K5.out.blk W1.out W1.out.lt)
    have HS5 := Lib.hid (K5.out.reads (fun _ h => h) HS.out)
    have HR5 := Lib.hid (K5.out.reads (fun _ h => h) HR.out)
    have HRow5 : Hid (List.map encR rs ≠ [] → ∃ b o, A = some { block := b, off := o } ∧ RowAt w4 10 b o (List.map encR rs)) := Lib.hid (by
      obtain ⟨A', c', e1, _, hx⟩ := HR5.out
      injection e1 with e1 _ _
      subst e1
      exact hx)
    clear hb O4 B4 K4 HS HR W1 HW K5 O5 HG
    obtain ⟨X, hX⟩ : ∃ X, spells rs l (f, t) = X := ⟨_, rfl⟩
    rw [hX] at X5 hXl
    have HXX := Lib.hid hX
    clear hX
    go_wp2_with fail
    go_loopw [41] (fun i wr => ∃ k : Nat, k ≤ n ∧ i = .int .i64 k ∧ (∀ r ∈ rs.take k, r.agg ≠ 5 ∧ r.empty ≠ 2) ∧ Keeps (· < w4.heap.size) w4 wr) (fun i _ => n - (intOf i).toNat)
    case atStart => exact ⟨0, Nat.zero_le _, rfl, by simp, Keeps.refl _ _⟩
    case round =>
      obtain ⟨k, hk, rfl, hall, hK⟩ := hrel
      have HA := Lib.hid hall
      have K6 := Lib.hid hK
      clear hall hK
      by_cases hlt : k < n
      · obtain ⟨r, hs⟩ : ∃ r, rs[k]? = some r := ⟨rs[k]'(by rw [HN.out]; exact hlt), List.getElem?_eq_getElem _⟩
        obtain ⟨b, o, rfl, hrow⟩ := HRow5.out (by intro e; rw [List.map_eq_nil_iff] at e; rw [e] at hs; simp at hs)
        have hcs := hrow k (encR r) (by rw [List.getElem?_map, hs]; rfl)
        have hbl := World.block_lt_of_cell? w4 _ (hcs 0 _ rfl)
        have hcr := K6.out.cells hbl hcs
        have d0 : wr.cell? ⟨b, o + k * 10, none⟩ = some (.string r.key) := hcr 0 _ rfl
        have d1 : wr.cell? ⟨b, o + k * 10 + 1, none⟩ = some (.string r.metric) := hcr 1 _ rfl
        have d2 : wr.cell? ⟨b, o + k * 10 + 2, none⟩ = some (.int .i64 r.agg) := hcr 2 _ rfl
        have d3 : wr.cell? ⟨b, o + k * 10 + 3, none⟩ = some (.int .i64 r.long) := hcr 3 _ rfl
        have d4 : wr.cell? ⟨b, o + k * 10 + 4, none⟩ = some (.bool r.above) := hcr 4 _ rfl
        have d5 : wr.cell? ⟨b, o + k * 10 + 5, none⟩ = some (.int .i64 r.on) := hcr 5 _ rfl
        have d6 : wr.cell? ⟨b, o + k * 10 + 6, none⟩ = some (.int .i64 r.off) := hcr 6 _ rfl
        have d7 : wr.cell? ⟨b, o + k * 10 + 7, none⟩ = some (.int .i64 r.hold) := hcr 7 _ rfl
        have d8 : wr.cell? ⟨b, o + k * 10 + 8, none⟩ = some (.int .i64 r.rest) := hcr 8 _ rfl
        have d9 : wr.cell? ⟨b, o + k * 10 + 9, none⟩ = some (.int .i64 r.empty) := hcr 9 _ rfl
        have hd : (k : Int) < (n : Int) := by omega
        have x1 : IntKind.i64.wrap ((k : Int) + 1) = (k : Int) + 1 := IntWalk.i64_in _ (by omega)
        have HTK : Hid (rs.take (k + 1) = rs.take k ++ [r]) := Lib.hid (by rw [List.take_add_one, hs]; rfl)
        have K7 := Lib.hid (K6.out.alloc (fun _ h => Nat.lt_of_lt_of_le h K6.out.size) (.cells #[.string r.key, .string r.metric, .int .i64 r.agg, .int .i64 r.long, .bool r.above, .int .i64 r.on, .int .i64 r.off, .int .i64 r.hold, .int .i64 r.rest, .int .i64 r.empty] 31))
        have B7 := Lib.hid (Below.then B5.out K7.out.below)
        clear hrow hcs hcr hs
        obtain ⟨g, hg⟩ : ∃ g, r.agg = g := ⟨_, rfl⟩
        obtain ⟨y, hy⟩ : ∃ y, r.empty = y := ⟨_, rfl⟩
        rw [hg] at d2 K7 B7
        rw [hy] at d9 K7 B7
        have HGG := Lib.hid hg
        have HYY := Lib.hid hy
        clear hg hy
        by_cases h5 : g = 5
        · subst h5
          go_wp2_with fail
          go_ret
          exact ⟨rfl, B7.out⟩
        · by_cases h2 : y = 2
          · subst h2
            go_wp2_with fail
            go_ret
            exact ⟨rfl, B7.out⟩
          · go_wp2_with fail
            refine ⟨⟨k + 1, by omega, by go_num, ?_, K7.out⟩, by simp [intOf]; omega⟩
            rw [HTK.out]
            intro x hx
            rcases List.mem_append.1 hx with hx | hx
            · exact HA.out x hx
            · simp only [List.mem_cons, List.mem_nil_iff, or_false] at hx
              subst hx
              exact ⟨by rw [HGG.out]; exact h5, by rw [HYY.out]; exact h2⟩
      · have hkn : k = n := by omega
        subst hkn
        have hd : ¬ (k : Int) < (k : Int) := by omega
        obtain ⟨wz, rfl⟩ : ∃ x, x = wr := ⟨_, rfl⟩
        have H5 : Hid (∀ r ∈ rs, r.agg ≠ 5 ∧ r.empty ≠ 2) := Lib.hid (fun r hr => HA.out r (by rw [← HN.out, List.take_length]; exact hr))
        have HS6 := Lib.hid (K6.out.reads (fun _ h => h) HS5.out)
        have X6 := Lib.hid (K6.out.reads (fun _ h => h) X5.out)
        have hz4 := K6.out.size
        have HCL := Lib.hid (clone35_calls HS6.out (by omega))
        clear HA X5 HS5 HRow5
        go_wp2_with fail
        refine HCL.out.mono ?_
        rintro e w5 ⟨⟨ov2, rfl, hO⟩, hB⟩
        obtain ⟨A2, c2, hv2, hc2⟩ := hO.slice
        subst hv2
        obtain ⟨m, hm⟩ : ∃ m, l.length = m := ⟨_, rfl⟩
        rw [hm] at hO hl5 hc2 ⊢
        have HM := Lib.hid hm
        have O6 := Lib.hid hO
        have k7 := Keeps.of_below hB
        have K7 := Lib.hid (K6.out.trans (k7.mono fun b hb => Nat.lt_of_lt_of_le hb hz4))
        have X7 := Lib.hid (k7.reads (fun _ h => h) X6.out)
        have HCK := Lib.hid (clone36_calls X7.out (by omega))
        have HOB : Hid (∀ g, (Value.slice A2 m c2).ownBlock = some g → w4.heap.size ≤ g ∧ g < w5.heap.size) := Lib.hid fun g hg => ⟨Nat.le_trans hz4 (O6.out.lt g hg).1, (O6.out.lt g hg).2⟩
        have Z5 : Hid (w4.heap.size ≤ w5.heap.size) := Lib.hid K7.out.size
        have O6' := Lib.hid (O6.out.lower hz4)
        clear hm hO hB HCL X6 HS6 k7 hz4 K6 O6
        go_wp2_with fail
        refine HCK.out.mono ?_
        rintro e w6 ⟨⟨ov3, rfl, hO⟩, hB⟩
        obtain ⟨A3, c3, hv3, hc3⟩ := hO.slice
        subst hv3
        obtain ⟨q, hq⟩ : ∃ q, X.length = q := ⟨_, rfl⟩
        rw [hq] at hO hXl hc3 ⊢
        have HQ := Lib.hid hq
        have P7 := Lib.hid hO
        have K8 := Lib.hid (K7.out.trans ((Keeps.of_below hB).mono fun k hk => Nat.lt_of_lt_of_le hk K7.out.size))
        have O7 := Lib.hid (O6'.out.keeps (Keeps.of_below hB) fun g hg => (HOB.out g hg).2)
        have Z6 : Hid (w5.heap.size ≤ w6.heap.size) := Lib.hid (Keeps.of_below hB).size
        clear hq hO hB HCK X7 K7 O6'
        go_wp2_with fail
        go_loopw [60] (fun i wr => ∃ k : Nat, k ≤ m ∧ i = .int .i64 k ∧ InP encSa (shSamp a) 51 4 w4.heap.size w6 wr (.slice A2 m c2) l k) (fun i _ => m - (intOf i).toNat)
        case atStart => exact ⟨0, Nat.zero_le _, rfl, InP.start (by rw [HM.out]; exact O7.out)⟩
        case round =>
          obtain ⟨j, hj, rfl, hW⟩ := hrel
          have HW := Lib.hid hW
          clear hW
          by_cases hlt : j < m
          · obtain ⟨s, hs⟩ : ∃ s, l[j]? = some s := ⟨l[j]'(by rw [HM.out]; exact hlt), List.getElem?_eq_getElem _⟩
            obtain ⟨g, off, rfl⟩ := HW.out.form HM.out (by omega)
            have hd : (j : Int) < (m : Int) := by omega
            have x1 : IntKind.i64.wrap ((j : Int) + 1) = (j : Int) + 1 := IntWalk.i64_in _ (by omega)
            have d2 : wr.cell? ⟨g, off + j * 4 + 2, none⟩ = some (.int .i64 s.at_) := HW.out.cell encSa_len HM.out hs 2 rfl
            have hat : 0 ≤ s.at_ ∧ s.at_ < 345686400000 := (HGL.out.each s (List.mem_of_getElem? hs)).at_
            have x2 : wrap64 (s.at_ + a) = s.at_ + a := by unfold wrap64; omega
            have HX := Lib.hid hs
            clear hs
            have f2 : wr.frozen? ⟨g, off + j * 4 + 2, none⟩ = false := HW.out.frozen HM.out _
            go_wp2_with fail
            exact ⟨⟨j + 1, by omega, by go_num, HW.out.step encSa_len HM.out HX.out 2 (by omega) rfl⟩, by simp [intOf]; omega⟩
          · have hjm : j = m := by omega
            subst hjm
            have hd : ¬ (j : Int) < (j : Int) := by omega
            obtain ⟨wq, rfl⟩ : ∃ x, x = wr := ⟨_, rfl⟩
            have K9 : Hid (Keeps (· < w4.heap.size) w4 wq) := Lib.hid (K8.out.trans (HW.out.kp.mono fun b hb => ⟨Nat.lt_of_lt_of_le hb K8.out.size, fun e => by have := (O7.out.lt b e.symm).1; omega⟩))
            have P8 := Lib.hid (P7.out.keeps HW.out.kp fun g hg => ⟨(P7.out.lt g hg).2, fun e => by have := (P7.out.lt g hg).1; have := (HOB.out g e.symm).2; omega⟩)
            have Z7 : Hid (w5.heap.size ≤ wq.heap.size) := Lib.hid (Nat.le_trans Z6.out HW.out.kp.size)
            have S8 := Lib.hid (HW.out.done HM.out)
            rw [List.length_map, HM.out] at S8
            clear HW K8 P7 O7
            go_wp2_with fail
            go_loopw [75] (fun i wr => ∃ k : Nat, k ≤ q ∧ i = .int .i64 k ∧ InP encSp (shSp a) 34 4 w5.heap.size wq wr (.slice A3 q c3) X k) (fun i _ => q - (intOf i).toNat)
            case atStart => exact ⟨0, Nat.zero_le _, rfl, InP.start (by rw [HQ.out]; exact P8.out)⟩
            case round =>
              obtain ⟨i, hi, rfl, hW⟩ := hrel
              have HW := Lib.hid hW
              clear hW
              by_cases hlt : i < q
              · obtain ⟨s, hs⟩ : ∃ s, X[i]? = some s := ⟨X[i]'(by rw [HQ.out]; exact hlt), List.getElem?_eq_getElem _⟩
                obtain ⟨g, off, rfl⟩ := HW.out.form HQ.out (by omega)
                have hd : (i : Int) < (q : Int) := by omega
                have x1 : IntKind.i64.wrap ((i : Int) + 1) = (i : Int) + 1 := IntWalk.i64_in _ (by omega)
                have d2 : wr.cell? ⟨g, off + i * 4 + 2, none⟩ = some (.int .i64 s.from_) := HW.out.cell encSp_len HQ.out hs 2 rfl
                have d3 : wr.cell? ⟨g, off + i * 4 + 3, none⟩ = some (.int .i64 s.to_) := HW.out.cell encSp_len HQ.out hs 3 rfl
                have hsp := spells_span (HXX.out ▸ List.mem_of_getElem? hs)
                dsimp only at hsp
                have x2 : wrap64 (s.from_ + a) = s.from_ + a := by unfold wrap64; omega
                have x3 : wrap64 (s.to_ + a) = s.to_ + a := by unfold wrap64; omega
                have HX := Lib.hid hs
                clear hs
                have f2 : wr.frozen? ⟨g, off + i * 4 + 2, none⟩ = false := HW.out.frozen HQ.out _
                have f3 : wr.frozen? ⟨g, off + i * 4 + 3, none⟩ = false := HW.out.frozen HQ.out _
                go_wp2_with fail
                go_region
                go_wp2_with fail
                exact ⟨⟨i + 1, by omega, by go_num, (HW.out.step2 encSp_len HQ.out HX.out { s with from_ := s.from_ + a } 2 3 (by omega) (by omega) rfl rfl).drew⟩, by simp [intOf]; omega⟩
              · have him : i = q := by omega
                subst him
                have hd : ¬ (i : Int) < (i : Int) := by omega
                have hkp : Keeps (· < w5.heap.size) wq wr := HW.out.kp.mono fun b hb => ⟨Nat.lt_of_lt_of_le hb Z7.out, fun e => by have := (P8.out.lt b e.symm).1; omega⟩
                have K10 : Hid (Keeps (· < w4.heap.size) w4 wr) := Lib.hid (K9.out.trans (hkp.mono fun b hb => Nat.lt_of_lt_of_le hb Z5.out))
                have W10 := Lib.hid (K10.out.blk W5.out W5.out.lt)
                have e0 := W10.out.cell 0
                have e1 := W10.out.cell 1
                have x4 : wrap64 (f + a) = f + a := by unfold wrap64; omega
                have x5 : wrap64 (t + a) = t + a := by unfold wrap64; omega
                have HR10 := Lib.hid (K10.out.reads (fun _ h => h) HR5.out)
                have S9 := S8.out.keeps hkp fun g hg => (HOB.out g hg).2
                rw [← HM.out, ← List.length_map (f := shSamp a)] at S9
                have S10 := Lib.hid (S9.reads encSa_len)
                rw [List.length_map, HM.out] at S10
                have X10 := Lib.hid (HW.out.done HQ.out |>.reads encSp_len)
                have B10 := Lib.hid (Below.then B5.out K10.out.below)
                have hlaw := law_times_moved HGR.out HGL.out HC1.out HC3.out ha0 ha1 H5.out
                rw [HXX.out] at hlaw
                have HA := Lib.hid (wAlike_calls (f := f + a) (t := t + a) X10.out HR10.out S10.out HZ.out (fun x hx => by
                  obtain ⟨y, hy, rfl⟩ := List.mem_map.1 hx
                  exact HY.out y hy) hlaw (by rw [List.length_map, HQ.out]; omega))
                clear hkp K10 W10 HR10 S9 S10 X10 hlaw HW K9 P8 S8 W5
                go_wp2_with fail
                refine HA.out.mono ?_
                rintro e w12 ⟨rfl, hb⟩
                have B12 := Lib.hid (Below.then B10.out hb)
                clear hb
                go_wp2_with fail
                go_ret
                exact ⟨rfl, B12.out⟩
  · rw [decide_eq_false hf]
    clear hO hB
    go_wp2_with fail
    refine (facts_calls _).mono ?_
    rintro e w4 ⟨rfl, hb⟩
    have B5 := Lib.hid (Below.then B4.out hb)
    clear hb
    go_wp2_with fail
    go_ret
    exact ⟨rfl, B5.out⟩

end Go.Proofs.YteandmolnbcmmaaGreatDoor
