/- Walk: slices.Contains of texts. Walk: TopDevicesApart. No condition beyond what each theorem states. -/
import Derived.Test.YteandmolnbcmmaaGreatDoorLB

namespace Go.Proofs.YteandmolnbcmmaaGreatDoor
open Go.RowKit Go.Sort

def enc1 (d : ByteArray) : List Value := [.string d]
theorem enc1_len (d : ByteArray) : (enc1 d).length = 1 := rfl

set_option maxHeartbeats 1000000 in
theorem indexS_calls {w : World} {v : Value} {ds : List ByteArray} {d : ByteArray} (hl : ReadsK w 1 v (ds.map enc1)) (hn : ds.length ≤ 1000000) :
    Calls Tryz.prog 68 #[v, .string d] w fun e w' => (∃ i : Int, e = .returned (.int .i64 i) ∧ (0 ≤ i ↔ d ∈ ds)) ∧ w = w' := by
  obtain ⟨A, c, rfl, hcap, hrow⟩ := hl
  rw [List.length_map] at hcap ⊢
  have HRow := Lib.hid hrow
  clear hrow
  obtain ⟨n, hnn⟩ : ∃ n, ds.length = n := ⟨_, rfl⟩
  rw [hnn] at hn hcap ⊢
  have HN := Lib.hid hnn
  clear hnn
  go_enter Tryz.func68, Tryz.ntmps68
  go_wp2_with fail
  go_loopw [8] (fun i wr => ∃ k : Nat, k ≤ n ∧ i = .int .i64 k ∧ d ∉ ds.take k ∧ w = wr) (fun i _ => n - (intOf i).toNat)
  case atStart => exact ⟨0, Nat.zero_le _, rfl, by simp, rfl⟩
  case round =>
    obtain ⟨k, hk, rfl, hO, rfl⟩ := hrel
    have HO := Lib.hid hO
    clear hO
    by_cases hlt : k < n
    · obtain ⟨s, hs⟩ : ∃ s, ds[k]? = some s := ⟨ds[k]'(by rw [HN.out]; exact hlt), List.getElem?_eq_getElem _⟩
      obtain ⟨b, o, rfl, hrow⟩ := HRow.out (by intro e; rw [List.map_eq_nil_iff] at e; rw [e] at hs; simp at hs)
      have hcs := hrow k (enc1 s) (by rw [List.getElem?_map, hs]; rfl)
      have d0 : w.cell? ⟨b, o + k, none⟩ = some (.string s) := by have := hcs 0 _ rfl; simpa using this
      have hd : (k : Int) < (n : Int) := by omega
      have x1 : IntKind.i64.wrap ((k : Int) + 1) = (k : Int) + 1 := IntWalk.i64_in _ (by omega)
      have HTK : Hid (ds.take (k + 1) = ds.take k ++ [s]) := Lib.hid (by rw [List.take_add_one, hs]; rfl)
      have HM := Lib.hid (List.mem_of_getElem? hs)
      clear hrow hcs hs
      by_cases hm : d = s
      · subst hm
        have HD : Hid (d ∈ ds) := HM
        go_wp2_with fail
        go_ret
        exact ⟨⟨_, rfl, iff_of_true (by omega) HD.out⟩, rfl⟩
      · have hbm : (d.toList == s.toList) = false := eqS_false hm
        go_wp2_with fail
        exact ⟨⟨k + 1, by omega, by go_num, by rw [HTK.out]; simp only [List.mem_append, List.mem_cons, List.mem_nil_iff, or_false]; exact fun h => h.elim HO.out hm, by first | rfl | trivial⟩, by simp [intOf]; omega⟩
    · have hkn : k = n := by omega
      subst hkn
      have hd : ¬ (k : Int) < (k : Int) := by omega
      have HD : Hid (d ∉ ds) := Lib.hid (by have := HO.out; rwa [← HN.out, List.take_length] at this)
      go_wp2_with fail
      go_ret
      exact ⟨⟨_, rfl, iff_of_false (by omega) HD.out⟩, rfl⟩

theorem containsS_calls {w : World} {v : Value} {ds : List ByteArray} {d : ByteArray} (hl : ReadsK w 1 v (ds.map enc1)) (hn : ds.length ≤ 1000000) :
    Calls Tryz.prog 38 #[v, .string d] w fun e w' => e = .returned (.bool (decide (d ∈ ds))) ∧ w = w' := by
  have HI := Lib.hid (indexS_calls (d := d) hl hn)
  clear hl hn
  obtain ⟨z, hz⟩ : ∃ z, decide (d ∈ ds) = z := ⟨_, rfl⟩
  rw [hz]
  have HZ := Lib.hid hz
  clear hz
  go_enter Tryz.func38, Tryz.ntmps38
  go_wp2_with fail
  refine HI.out.mono ?_
  rintro e w' ⟨⟨i, rfl, hi⟩, rfl⟩
  clear HI
  have hz2 : decide (0 ≤ i) = z := by rw [← HZ.out]; exact decide_eq_decide.2 hi
  have HZ2 := Lib.hid hz2
  clear hz2 hi HZ
  go_wp2_with fail
  go_ret
  exact ⟨by rw [← HZ2.out]; rfl, rfl⟩
end Go.Proofs.YteandmolnbcmmaaGreatDoor

namespace Go.Proofs.YteandmolnbcmmaaGreatDoor
open Go.RowKit Go.Sort

theorem firsts_snoc (l : List Samp) (s : Samp) : firsts (l ++ [s]) = if s.device ∈ firsts l then firsts l else firsts l ++ [s.device] := by
  unfold firsts
  rw [List.foldl_append]
  rfl

theorem firsts_len (l : List Samp) : (firsts l).length ≤ l.length := by
  refine snoc_ind (P := fun l => (firsts l).length ≤ l.length) ?_ ?_ l
  · simp [firsts]
  · intro l s ih
    rw [firsts_snoc, List.length_append]
    split
    · simp; omega
    · simp; omega

theorem ofDev_snoc (d : ByteArray) (l : List Samp) (s : Samp) : ofDev d (l ++ [s]) = ofDev d l ++ if s.device = d then [s] else [] := by
  unfold ofDev
  rw [List.filter_append]
  congr 1
  by_cases h : s.device = d <;> simp [h]

theorem ofDev_len (d : ByteArray) (l : List Samp) : (ofDev d l).length ≤ l.length := List.length_filter_le _ _

theorem dev_perm {rs : List Rule} {l : List Samp} {w : Int × Int} (hr : GoodRs rs) (hl : GoodL l) : ((firsts l).flatMap fun d => spells rs (ofDev d l) w).Perm (rawOf rs l w) := by
  have h := law_devices_apart (w := w) hr hl
  have h1 := sort3_perm spKey ((firsts l).flatMap fun d => spells rs (ofDev d l) w)
  rw [h] at h1
  exact h1.symm.trans (sort3_perm spKey _)

theorem dev_len {rs : List Rule} {l : List Samp} {w : Int × Int} (hr : GoodRs rs) (hl : GoodL l) (q : Nat) : (((firsts l).take q).flatMap fun d => spells rs (ofDev d l) w).length ≤ 5000500000 := by
  have h1 := (dev_perm (w := w) hr hl).length_eq
  have h2 := spells_len (w := w) hr hl
  have h3 := (sort3_perm spKey (rawOf rs l w)).length_eq
  have h4 : (spells rs l w).length = (rawOf rs l w).length := h3
  have h5 : ((firsts l).flatMap fun d => spells rs (ofDev d l) w).length = (((firsts l).take q).flatMap fun d => spells rs (ofDev d l) w).length + (((firsts l).drop q).flatMap fun d => spells rs (ofDev d l) w).length := by
    rw [← List.length_append, ← List.flatMap_append, List.take_append_drop]
  omega

theorem devapart_no {w : World} {rv sv : Value} {rs : List Rule} {l : List Samp} {f t : Int} (hr : ReadsK w 10 rv (rs.map encR)) (hs : ReadsK w 4 sv (l.map encSa)) (hzr : SizedR rs) (hzs : SizedSa l) (hf : faultOf rs l (f, t) ≠ 0) :
    Calls Tryz.prog 14 #[rv, sv, .agg #[.int .i64 f, .int .i64 t]] w (Yes w) := by
  have HG := Lib.hid ((Grows.refl w).alloc (.cells #[.int .i64 f, .int .i64 t] 25))
  have HW := Lib.hid (wSpells_calls (f := f) (t := t) (HG.out.reads hr) (HG.out.reads hs) hzr hzs)
  have HN := Lib.hid (WPost.none_ hf)
  have HD : Hid (decide (faultOf rs l (f, t) = 0) = false) := Lib.hid (decide_eq_false hf)
  clear hr hs hzr hzs hf
  go_enter Tryz.func14, Tryz.ntmps14
  go_wp2_with fail
  refine HW.out.mono ?_
  rintro e w2 ⟨⟨ov, rfl, hO⟩, hB⟩
  rw [HD.out]
  rw [HN.out] at hO
  obtain ⟨A, c, hv, _⟩ := hO.slice
  subst hv
  have B2 := Lib.hid (Below.then HG.out.below hB)
  clear hO hB
  go_wp2_with fail
  refine (facts_calls _).mono ?_
  rintro e w3 ⟨rfl, hb⟩
  have B3 := Lib.hid (Below.then B2.out hb)
  clear hb
  go_wp2_with fail
  go_ret
  exact ⟨rfl, B3.out⟩

set_option maxHeartbeats 8000000 in
set_option maxRecDepth 100000 in
theorem devapart_yes {w : World} {rv sv : Value} {rs : List Rule} {l : List Samp} {f t : Int} (hr : ReadsK w 10 rv (rs.map encR)) (hs : ReadsK w 4 sv (l.map encSa)) (hzr : SizedR rs) (hzs : SizedSa l) (hf : faultOf rs l (f, t) = 0) :
    Calls Tryz.prog 14 #[rv, sv, .agg #[.int .i64 f, .int .i64 t]] w (Yes w) := by
  obtain ⟨i0, hi0, hz0, hz1, hz2⟩ := info_parts info9
  obtain ⟨i1, hi1, hy0, hy1, hy2⟩ := info_parts info34
  obtain ⟨i2, hi2, hx0, hx1, hx2⟩ := info_parts info51
  have HG := Lib.hid ((Grows.refl w).alloc (.cells #[.int .i64 f, .int .i64 t] 25))
  have W1 := Lib.hid (Blk.new w 25 #[.int .i64 f, .int .i64 t])
  have HR := Lib.hid (HG.out.reads hr)
  have HS := Lib.hid (HG.out.reads hs)
  have HW := Lib.hid (wSpells_calls (f := f) (t := t) HR.out HS.out hzr hzs)
  have HN := Lib.hid (WPost.some_ hf)
  have HD : Hid (decide (faultOf rs l (f, t) = 0) = true) := Lib.hid (decide_eq_true hf)
  obtain ⟨k1, k2, k3⟩ := faultOf_ok hf
  have HC1 := Lib.hid k1
  have HC2 := Lib.hid k2
  have HC3 := Lib.hid k3
  have HGR := Lib.hid (chkR_ok k1)
  have HGL := Lib.hid (chkS_ok k2)
  have HZ := Lib.hid hzr
  have HY := Lib.hid hzs
  obtain ⟨A, c, rfl, hcap, hrow⟩ := hs
  rw [List.length_map] at hcap HS HW ⊢
  clear hr hzr hzs hf hrow k1 k2 k3
  obtain ⟨n, hnn⟩ : ∃ n, l.length = n := ⟨_, rfl⟩
  have hn := HGL.out.len
  rw [hnn] at hn hcap HS HW ⊢
  have HN1 := Lib.hid hnn
  clear hnn
  go_enter Tryz.func14, Tryz.ntmps14
  go_wp2_with fail
  refine HW.out.mono ?_
  rintro e w2 ⟨⟨ov, rfl, hO⟩, hB⟩
  rw [HD.out]
  rw [HN.out] at hO
  have O2 := Lib.hid hO
  have B2 := Lib.hid (Below.then HG.out.below hB)
  have K2 := Lib.hid (Keeps.of_below hB)
  clear hO hB HD HW
  go_wp2_with fail
  refine (facts_calls _).mono ?_
  rintro e w3 ⟨rfl, hb⟩
  have B3 := Lib.hid (Below.then B2.out hb)
  have O3 := Lib.hid (O2.out.keeps (Keeps.of_below hb) fun g hg => (O2.out.lt g hg).2)
  have K3 := Lib.hid (K2.out.trans ((Keeps.of_below hb).mono fun k hk => Nat.lt_of_lt_of_le hk K2.out.size))
  have W3 := Lib.hid (K3.out.blk W1.out W1.out.lt)
  have HR3 := Lib.hid (K3.out.reads (fun _ h => h) HR.out)
  have HS3 := Lib.hid (K3.out.reads (fun _ h => h) HS.out)
  have HRow3 : Hid (List.map encSa l ≠ [] → ∃ b o, A = some { block := b, off := o } ∧ RowAt w3 4 b o (List.map encSa l)) := Lib.hid (by
    obtain ⟨A', c', e1, _, hx⟩ := HS3.out
    injection e1 with e1 _ _
    subst e1
    exact hx)
  clear hb O2 B2 K2 HS HR W1 HG K3
  go_wp2_with fail
  go_loopw [9, 41] (fun v i wr => ∃ k : Nat, k ≤ n ∧ i = .int .i64 k ∧ Own wr w3.heap.size 9 1 v (firsts (l.take k)).length (flatE enc1 (firsts (l.take k))) ∧ Keeps (· < w3.heap.size) w3 wr) (fun _ i _ => n - (intOf i).toNat)
  case atStart => exact ⟨0, Nat.zero_le _, rfl, Own.nil _ _ _ _, Keeps.refl _ _⟩
  case round =>
    obtain ⟨k, hk, rfl, hO, hK⟩ := hrel
    have hlk : (l.take k).length = k := by rw [List.length_take, HN1.out]; omega
    have hcl := firsts_len (l.take k)
    rw [hlk] at hcl
    have HO := Lib.hid hO
    have HK := Lib.hid hK
    clear hO hK
    by_cases hlt : k < n
    · obtain ⟨s, hs⟩ : ∃ s, l[k]? = some s := ⟨l[k]'(by rw [HN1.out]; exact hlt), List.getElem?_eq_getElem _⟩
      obtain ⟨b, o, rfl, hrow⟩ := HRow3.out (by intro e; rw [List.map_eq_nil_iff] at e; rw [e] at hs; simp at hs)
      have hcs := hrow k (encSa s) (by rw [List.getElem?_map, hs]; rfl)
      have d0 : w3.cell? ⟨b, o + k * 4, none⟩ = some (.string s.device) := hcs 0 _ rfl
      have d1 : w3.cell? ⟨b, o + k * 4 + 1, none⟩ = some (.string s.metric) := hcs 1 _ rfl
      have d2 : w3.cell? ⟨b, o + k * 4 + 2, none⟩ = some (.int .i64 s.at_) := hcs 2 _ rfl
      have d3 : w3.cell? ⟨b, o + k * 4 + 3, none⟩ = some (.int .i64 s.value) := hcs 3 _ rfl
      have hbl := World.block_lt_of_cell? w3 _ d0
      replace d0 := HK.out.cell hbl d0
      replace d1 := HK.out.cell hbl d1
      replace d2 := HK.out.cell hbl d2
      replace d3 := HK.out.cell hbl d3
      have hd : (k : Int) < (n : Int) := by omega
      have x1 : IntKind.i64.wrap ((k : Int) + 1) = (k : Int) + 1 := IntWalk.i64_in _ (by omega)
      have htk : l.take (k + 1) = l.take k ++ [s] := by rw [List.take_add_one, hs]; rfl
      have hsn := firsts_snoc (l.take k) s
      rw [← htk] at hsn
      have hb2 := HK.out.size
      have P0 : Blk (wr.alloc (.cells #[.string s.device, .string s.metric, .int .i64 s.at_, .int .i64 s.value] 51)) wr.heap.size 51 #[.string s.device, .string s.metric, .int .i64 s.at_, .int .i64 s.value] := Blk.new _ _ _
      have p0 : (wr.alloc (.cells #[.string s.device, .string s.metric, .int .i64 s.at_, .int .i64 s.value] 51)).cell? ⟨wr.heap.size, 0, none⟩ = some (.string s.device) := P0.cell 0
      have K1 := Lib.hid (HK.out.alloc (fun k h => Nat.lt_of_lt_of_le h HK.out.size) (.cells #[.string s.device, .string s.metric, .int .i64 s.at_, .int .i64 s.value] 51))
      have O1 := Lib.hid (HO.out.alloc (.cells #[.string s.device, .string s.metric, .int .i64 s.at_, .int .i64 s.value] 51))
      have Z1 : w3.heap.size ≤ (wr.alloc (.cells #[.string s.device, .string s.metric, .int .i64 s.at_, .int .i64 s.value] 51)).heap.size := K1.out.size
      have HCN := Lib.hid (containsS_calls (d := s.device) (O1.out.reads enc1_len) (by omega))
      clear hrow hcs hs P0 htk HO HK
      by_cases hm : s.device ∈ firsts (l.take k)
      · rw [if_pos hm] at hsn
        have HSN := Lib.hid hsn
        have hdm : decide (s.device ∈ firsts (l.take k)) = true := decide_eq_true hm
        rw [hdm] at HCN
        clear hsn hm hdm
        go_wp2_with (go_at_call 38; refine HCN.out.mono ?_; rintro e wy ⟨rfl, rfl⟩)
        go_roundw
        case rel => exact ⟨k + 1, by omega, by go_num, by rw [HSN.out]; exact O1.out, K1.out⟩
        case measure => simp [intOf]; omega
      · rw [if_neg hm] at hsn
        have HSN := Lib.hid hsn
        have hdm : decide (s.device ∈ firsts (l.take k)) = false := decide_eq_false hm
        rw [hdm] at HCN
        clear hsn hm hdm
        go_wp2_with (first
          | (go_at_call 38; refine HCN.out.mono ?_; rintro e wy ⟨rfl, rfl⟩)
          | (at_builtin; refine wpList_append_Own _ (by rfl) _ _ _ (by rfl) w3.heap.size 9 i0 _ 1 16 under62 hi0 hz0 hz1 hz2 rfl (by omega) u9 _ _ (by rfl) (O1.out.alloc _)
              ⟨wr.heap.size + 1, 0, none⟩ 1 1 [.string s.device] (by rfl) (by rfl) (World.news_of_block (cs := #[.string s.device]) (t := 9) (fr := (0, 0)) ?_) (by simp [Value.oneCell'])
              (by unfold maxLen; omega) (by omega) (by simp; omega) ?_; (have hbn := heap_alloc_new (wr.alloc (.cells #[.string s.device, .string s.metric, .int .i64 s.at_, .int .i64 s.value] 51)) (.cells #[.string s.device] 9); simpa using hbn); intro v' w3' hown3 hgrow hfr))
        go_roundw
        case rel =>
          refine ⟨k + 1, by omega, by go_num, ?_, ?_⟩
          · rw [HSN.out, flatE, List.flatMap_append, List.length_append]
            exact hown3
          · exact (K1.out.alloc (fun k h => Nat.lt_of_lt_of_le h Z1) _).trans ((Keeps.refl _ _).grown hgrow (fun k h => Nat.lt_of_lt_of_le h (by simp; omega)) (fun g e h => by have := (O1.out.lt g e).1; omega))
        case measure => simp [intOf]; omega
    · have hkn : k = n := by omega
      subst hkn
      have hd : ¬ (k : Int) < (k : Int) := by omega
      obtain ⟨w4, rfl⟩ : ∃ x, x = wr := ⟨_, rfl⟩
      have htl : l.take k = l := by rw [← HN1.out]; exact List.take_length
      rw [htl] at HO hcl
      obtain ⟨A9, c9, hv9, hc9⟩ := HO.out.slice
      subst hv9
      obtain ⟨ds, hds⟩ : ∃ ds, firsts l = ds := ⟨_, rfl⟩
      rw [hds] at HO hcl hc9 ⊢
      have HDS := Lib.hid hds
      obtain ⟨p, hp⟩ : ∃ p, ds.length = p := ⟨_, rfl⟩
      have HRD := HO.out.reads enc1_len
      rw [hp] at HRD HO hcl hc9 ⊢
      have HP := Lib.hid hp
      have W4 := Lib.hid (HK.out.blk W3.out W3.out.lt)
      have HR4 := Lib.hid (HK.out.reads (fun _ h => h) HR3.out)
      have HS4 := HK.out.reads (fun _ h => h) HS3.out
      have O4 := Lib.hid (O3.out.keeps HK.out fun g hg => (O3.out.lt g hg).2)
      have B4 := Lib.hid (Below.then B3.out HK.out.below)
      have HRow4 : Hid (List.map encSa l ≠ [] → ∃ b o, A = some { block := b, off := o } ∧ RowAt w4 4 b o (List.map encSa l)) := Lib.hid (by
        obtain ⟨A', c', e1, _, hx⟩ := HS4
        injection e1 with e1 _ _
        subst e1
        exact hx)
      have HRowD : Hid (List.map enc1 ds ≠ [] → ∃ b o, A9 = some { block := b, off := o } ∧ RowAt w4 1 b o (List.map enc1 ds)) := Lib.hid (by
        obtain ⟨A', c', e1, _, hx⟩ := HRD
        injection e1 with e1 _ _
        subst e1
        exact hx)
      have HGD : Hid (∀ d, GoodL (ofDev d l)) := Lib.hid fun d => chkS_ok (chkS_sub HC2.out List.filter_sublist)
      have HFD : Hid (∀ d, faultOf rs (ofDev d l) (f, t) = 0) := Lib.hid fun d => fault_zero HC1.out (chkS_sub HC2.out List.filter_sublist) HC3.out
      have HYD : Hid (∀ d, SizedSa (ofDev d l)) := Lib.hid fun d x hx => HY.out x (List.mem_filter.1 hx).1
      clear HO HK HS4 HRD hp hds htl hlk HR3 HS3 HRow3 W3 O3 B3
      go_wp2_with fail
      go_loopw [12, 58] (fun v i wr => ∃ k : Nat, k ≤ p ∧ i = .int .i64 k ∧ LS w4 wr v ((ds.take k).flatMap fun d => spells rs (ofDev d l) (f, t))) (fun _ i _ => p - (intOf i).toNat)
      case atStart => exact ⟨0, Nat.zero_le _, rfl, Own.nil _ _ _ _, Keeps.refl _ _⟩
      case round =>
        obtain ⟨q, hq, rfl, hW⟩ := hrel
        have HW := Lib.hid hW
        clear hW
        by_cases hlt : q < p
        · obtain ⟨d, hs⟩ : ∃ d, ds[q]? = some d := ⟨ds[q]'(by rw [HP.out]; exact hlt), List.getElem?_eq_getElem _⟩
          obtain ⟨bd, od, rfl, hrowd⟩ := HRowD.out (by intro e; rw [List.map_eq_nil_iff] at e; rw [e] at hs; simp at hs)
          have hcs := hrowd q (enc1 d) (by rw [List.getElem?_map, hs]; rfl)
          have d0 : w4.cell? ⟨bd, od + q, none⟩ = some (.string d) := by have := hcs 0 _ rfl; simpa using this
          have hbl := World.block_lt_of_cell? w4 _ d0
          replace d0 := HW.out.kp.cell hbl d0
          have hd : (q : Int) < (p : Int) := by omega
          have x1 : IntKind.i64.wrap ((q : Int) + 1) = (q : Int) + 1 := IntWalk.i64_in _ (by omega)
          have HTK : Hid (ds.take (q + 1) = ds.take q ++ [d]) := Lib.hid (by rw [List.take_add_one, hs]; rfl)
          clear hrowd hcs hs
          obtain ⟨wq, rfl⟩ : ∃ x, x = wr := ⟨_, rfl⟩
          go_wp2_with fail
          go_loopw [15, 64] (fun v i wr => ∃ m : Nat, m ≤ k ∧ i = .int .i64 m ∧ Own wr wq.heap.size 51 4 v (ofDev d (l.take m)).length (flatE encSa (ofDev d (l.take m))) ∧ Keeps (· < wq.heap.size) wq wr) (fun _ i _ => k - (intOf i).toNat)
          case atStart => exact ⟨0, Nat.zero_le _, rfl, Own.nil _ _ _ _, Keeps.refl _ _⟩
          case round =>
            obtain ⟨m, hm, rfl, hO, hK⟩ := hrel
            have hlm : (l.take m).length = m := by rw [List.length_take, HN1.out]; omega
            have hol := ofDev_len d (l.take m)
            rw [hlm] at hol
            have HO := Lib.hid hO
            have HK := Lib.hid hK
            clear hO hK
            by_cases hlt3 : m < k
            · obtain ⟨s, hs⟩ : ∃ s, l[m]? = some s := ⟨l[m]'(by rw [HN1.out]; exact hlt3), List.getElem?_eq_getElem _⟩
              obtain ⟨b, o, rfl, hrow⟩ := HRow4.out (by intro e; rw [List.map_eq_nil_iff] at e; rw [e] at hs; simp at hs)
              have hcs := hrow m (encSa s) (by rw [List.getElem?_map, hs]; rfl)
              have hbl4 := World.block_lt_of_cell? w4 _ (hcs 0 _ rfl)
              have hcq := HW.out.kp.cells hbl4 hcs
              have hblq := World.block_lt_of_cell? wq _ (hcq 0 _ rfl)
              have hcr := HK.out.cells hblq hcq
              have s0 : wr.cell? ⟨b, o + m * 4, none⟩ = some (.string s.device) := hcr 0 _ rfl
              have s1 : wr.cell? ⟨b, o + m * 4 + 1, none⟩ = some (.string s.metric) := hcr 1 _ rfl
              have s2 : wr.cell? ⟨b, o + m * 4 + 2, none⟩ = some (.int .i64 s.at_) := hcr 2 _ rfl
              have s3 : wr.cell? ⟨b, o + m * 4 + 3, none⟩ = some (.int .i64 s.value) := hcr 3 _ rfl
              have hd3 : (m : Int) < (k : Int) := by omega
              have x3 : IntKind.i64.wrap ((m : Int) + 1) = (m : Int) + 1 := IntWalk.i64_in _ (by omega)
              have htk : l.take (m + 1) = l.take m ++ [s] := by rw [List.take_add_one, hs]; rfl
              have hsn := ofDev_snoc d (l.take m) s
              rw [← htk] at hsn
              have hb2 := HK.out.size
              have K1 := Lib.hid (HK.out.alloc (fun k h => Nat.lt_of_lt_of_le h HK.out.size) (.cells #[.string s.device, .string s.metric, .int .i64 s.at_, .int .i64 s.value] 51))
              have O1 := Lib.hid (HO.out.alloc (.cells #[.string s.device, .string s.metric, .int .i64 s.at_, .int .i64 s.value] 51))
              have Z1 : wq.heap.size ≤ (wr.alloc (.cells #[.string s.device, .string s.metric, .int .i64 s.at_, .int .i64 s.value] 51)).heap.size := K1.out.size
              clear hrow hcs hcq hcr hs htk HO HK
              by_cases hmd : s.device = d
              · rw [if_pos hmd] at hsn
                have HSN := Lib.hid hsn
                clear hsn
                subst hmd
                go_wp2_with
                  (at_builtin; refine wpList_append_Own _ (by rfl) _ _ _ (by rfl) wq.heap.size 51 i2 _ 4 48 under23 hi2 hx0 hx1 hx2 rfl (by omega) u15 _ _ (by rfl) (O1.out.alloc _)
                    ⟨wr.heap.size + 1, 0, none⟩ 1 1 [.string s.device, .string s.metric, .int .i64 s.at_, .int .i64 s.value] (by rfl) (by rfl) (World.news_of_block (cs := #[.string s.device, .string s.metric, .int .i64 s.at_, .int .i64 s.value]) (t := 51) (fr := (0, 0)) ?_) (by simp [Value.oneCell'])
                    (by unfold maxLen; omega) (by omega) (by simp; omega) ?_; (have hbn := heap_alloc_new (wr.alloc (.cells #[.string s.device, .string s.metric, .int .i64 s.at_, .int .i64 s.value] 51)) (.cells #[.string s.device, .string s.metric, .int .i64 s.at_, .int .i64 s.value] 51); simpa using hbn); intro v' w3' hown3 hgrow hfr)
                go_roundw
                case rel =>
                  refine ⟨m + 1, by omega, by go_num, ?_, ?_⟩
                  · rw [HSN.out, flatE, List.flatMap_append, List.length_append]
                    exact hown3
                  · exact (K1.out.alloc (fun k h => Nat.lt_of_lt_of_le h Z1) _).trans ((Keeps.refl _ _).grown hgrow (fun k h => Nat.lt_of_lt_of_le h (by simp; omega)) (fun g e h => by have := (O1.out.lt g e).1; omega))
                case measure => simp [intOf]; omega
              · rw [if_neg hmd, List.append_nil] at hsn
                have HSN := Lib.hid hsn
                clear hsn
                have hbm : (s.device.toList == d.toList) = false := eqS_false hmd
                go_wp2_with fail
                go_roundw
                case rel => exact ⟨m + 1, by omega, by go_num, by rw [HSN.out]; exact O1.out, K1.out⟩
                case measure => simp [intOf]; omega
            · have hkm : m = k := by omega
              subst hkm
              have hd3 : ¬ (m : Int) < (m : Int) := by omega
              have htl : l.take m = l := by rw [← HN1.out]; exact List.take_length
              rw [htl] at HO
              obtain ⟨wx, rfl⟩ : ∃ x, x = wr := ⟨_, rfl⟩
              have L5 := Lib.hid (HW.out.kept HK.out)
              have W5 := Lib.hid (L5.out.kp.blk W4.out W4.out.lt)
              have e0 := W5.out.cell 0
              have e1 := W5.out.cell 1
              have HC := Lib.hid (wSpells_calls (f := f) (t := t) (L5.out.kp.reads (fun _ h => h) HR4.out) (HO.out.reads encSa_len) HZ.out (HYD.out d))
              have hl5 := spells_len (w := (f, t)) HGR.out (HGD.out d)
              have hl6 := dev_len (w := (f, t)) HGR.out HGL.out q
              rw [HDS.out] at hl6
              clear HO HK HW W5
              go_wp2_with fail
              refine HC.out.mono ?_
              rintro e w5 ⟨⟨ov5, rfl, hO5⟩, hB5⟩
              rw [decide_eq_true (HFD.out d)]
              rw [WPost.some_ (HFD.out d)] at hO5
              have O5 := Lib.hid hO5
              have L6 := Lib.hid (L5.out.below hB5)
              clear hO5 hB5 e0 e1 HC L5
              obtain ⟨X, hX⟩ : ∃ X, ((ds.take q).flatMap fun d => spells rs (ofDev d l) (f, t)) = X := ⟨_, rfl⟩
              rw [hX] at L6 hl6
              have hXY : Hid (((ds.take (q + 1)).flatMap fun d => spells rs (ofDev d l) (f, t)) = X ++ spells rs (ofDev d l) (f, t)) := Lib.hid (by rw [HTK.out, List.flatMap_append, hX]; simp)
              replace hX := Lib.hid hX
              go_wp2_with (at_builtin; refine wpList_append_both (by rfl) _ _ _ (by rfl) w4.heap.size _ 34 i1 _ 4 48 under26 hi1 hy0 hy1 hy2 rfl (by omega) u12 _ _ (by rfl) L6.out.out _ _ _ (by rfl) O5.out (flatE_one encSp_one _) (by unfold maxLen; omega) (by omega) L6.out.kp.size ?_; intro v' w6 hown hgrow hfr)
              go_roundw
              case rel =>
                refine ⟨q + 1, by omega, by go_num, ?_⟩
                rw [hXY.out]
                exact L6.out.app hgrow (by rw [flatE, List.flatMap_append, List.length_append]; exact hown)
              case measure => simp [intOf]; omega
        · have hqp : q = p := by omega
          subst hqp
          have hd : ¬ (q : Int) < (q : Int) := by omega
          have hlt : ds.take q = ds := by rw [← HP.out]; exact List.take_length
          rw [hlt] at HW
          have hl6 := dev_len (w := (f, t)) HGR.out HGL.out q
          rw [HDS.out, hlt] at hl6
          have hl7 := spells_len (w := (f, t)) HGR.out HGL.out
          go_wp2_with fail
          refine (sortW_calls HW.out.out (by omega)).mono ?_
          rintro e w5 ⟨rfl, ⟨Y, hp, hso, hO⟩, hK⟩
          have hY : Y = spells rs l (f, t) := by
            rw [← law_devices_apart HGR.out HGL.out]
            exact sort3_of spKey (told_perm (raw_told HGR.out HGL.out (f, t)) (dev_perm HGR.out HGL.out)) (HDS.out ▸ hp) hso
          have hlen := hp.length_eq
          rw [← hlen, hY] at hO
          have O5 := Lib.hid (hO.reads encSp_len)
          have K5 := Lib.hid (HW.out.kp.trans (hK.mono fun k h => ⟨Nat.lt_of_lt_of_le h HW.out.kp.size, fun e => by have := (HW.out.out.lt k e.symm).1; omega⟩))
          have O6 := Lib.hid ((O4.out.keeps K5.out fun g hg => (O4.out.lt g hg).2).reads encSp_len)
          clear hp hso hO hK hlen hY hl6 hlt
          go_wp2_with fail
          refine (equal_calls O5.out O6.out (by omega) (by omega)).mono ?_
          rintro e w6 ⟨rfl, hg⟩
          rw [(eqL_true _ _).2 rfl]
          have B6 := Lib.hid (Below.then (Below.then B4.out K5.out.below) hg.below)
          clear hg
          go_wp2_with fail
          go_ret
          exact ⟨rfl, B6.out⟩

theorem devapart_calls {w : World} {rv sv : Value} {rs : List Rule} {l : List Samp} {f t : Int} (hr : ReadsK w 10 rv (rs.map encR)) (hs : ReadsK w 4 sv (l.map encSa)) (hzr : SizedR rs) (hzs : SizedSa l) :
    Calls Tryz.prog 14 #[rv, sv, .agg #[.int .i64 f, .int .i64 t]] w (Yes w) := by
  by_cases hf : faultOf rs l (f, t) = 0
  · exact devapart_yes hr hs hzr hzs hf
  · exact devapart_no hr hs hzr hzs hf

end Go.Proofs.YteandmolnbcmmaaGreatDoor
