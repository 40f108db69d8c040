/- Walk: slices.SortFunc of samples by the moment; rule.Merge under way. Walk: TopSamplesSpare. No condition beyond what each theorem states. -/
import Derived.StillTailTactics
import Derived.Test.YteandmolnbcmmaaGreatDoorQB

namespace Go.Proofs.YteandmolnbcmmaaGreatDoor
open Go.RowKit Go.Sort

instance : Inhabited Samp := ⟨⟨default, default, 0, 0⟩⟩

theorem swoM : SWO (ltOf fun x y : Samp => cmp3 (sampKey x) (sampKey y)) where
  irrefl := fun x => by
    unfold ltOf
    simp only [decide_eq_false_iff_not]
    rw [cmp3_neg]
    exact lt3_irrefl _
  trans := fun x y z h k => by
    unfold ltOf at *
    simp only [decide_eq_true_eq] at *
    rw [cmp3_neg] at *
    exact lt3_trans h k
  ntrans := fun x y z h k => by
    unfold ltOf at *
    simp only [decide_eq_false_iff_not] at *
    rw [cmp3_neg] at *
    intro hxz
    by_cases hyx : lt3 (sampKey y) (sampKey x)
    · exact k (lt3_trans hyx hxz)
    · have := lt3_tri _ _ h hyx
      rw [this] at hxz
      exact k hxz

theorem sortM_calls {w : World} {base : Nat} {v : Value} {X : List Samp} (h : Own w base 51 4 v X.length (flatE encSa X)) (hn : X.length ≤ 100000000000000) :
    Calls Tryz.prog 57 #[v, .func (.func 58) #[] #[]] w fun e' w' => e' = .returned (.tuple #[]) ∧ (∃ Y : List Samp, Y.Perm X ∧ (Y.Pairwise fun a b => ¬ lt3 (sampKey b) (sampKey a)) ∧ Own w' base 51 4 v X.length (flatE encSa Y)) ∧ Keeps (fun k => k < w.heap.size ∧ some k ≠ v.ownBlock) w w' :=
  (sortF_calls Tryz.laysSort57 encSa_len encSa_one (fun w => Tryz.isAgg51 w) (fun w => Tryz.sizeOf51 w) (fun x y => cmp3 (sampKey x) (sampKey y)) swoM 58 (enters_of Tryz.func58 (by kernel_rfl) rfl)
    (fun x y w => byMoment_calls x.device x.metric y.device y.metric x.at_ x.value y.at_ y.value w) h hn).mono fun e w' ⟨he, ⟨Y, hp, hs, hO⟩, hk⟩ => ⟨he, ⟨Y, hp, hs.imp fun hab => by rwa [cmp3_neg] at hab, hO⟩, hk⟩

def SortedSa (b : List Samp) : Prop := b.Pairwise fun a c => lt3 (sampKey a) (sampKey c)

theorem sortedSa_one (b : List Samp) : SortedSa (b.take 1) := by
  unfold SortedSa
  cases b with
  | nil => exact List.Pairwise.nil
  | cons a b => exact List.pairwise_singleton _ _

theorem sortedSa_step {b : List Samp} {k : Nat} {x y : Samp} (hx : b[k + 1]? = some x) (hy : b[k]? = some y) (h : SortedSa (b.take (k + 1))) (hl : lt3 (sampKey y) (sampKey x)) : SortedSa (b.take (k + 1 + 1)) := by
  have e1 : b.take (k + 1 + 1) = b.take (k + 1) ++ [x] := by rw [List.take_add_one, hx]; rfl
  have e2 : b.take (k + 1) = b.take k ++ [y] := by rw [List.take_add_one, hy]; rfl
  unfold SortedSa at *
  rw [e1]
  refine List.pairwise_append.2 ⟨h, List.pairwise_singleton _ _, fun a ha c hc => ?_⟩
  rw [List.mem_singleton] at hc
  subst hc
  rw [e2] at ha h
  rcases List.mem_append.1 ha with h1 | h1
  · exact lt3_trans ((List.pairwise_append.1 h).2.2 a h1 y (List.mem_singleton.2 rfl)) hl
  · rw [List.mem_singleton] at h1
    subst h1
    exact hl

/-- What Merge leaves: a fault, or the samples of both, in order. -/
def MPost (w : World) (l m : List Samp) (e : Ending) (w' : World) : Prop :=
  (∃ (ov : Value) (x : Int), e = .returned (.tuple #[ov, .int .i64 x]) ∧ (x = 0 → ∃ b : List Samp, ReadsK w' 4 ov (b.map encSa) ∧ SortedSa b ∧ ∀ s, s ∈ b ↔ s ∈ l ∨ s ∈ m)) ∧ Below w.heap.size w w'

set_option maxHeartbeats 4000000 in
set_option maxRecDepth 100000 in
theorem merge_calls {w : World} {v1 v2 : Value} {l m : List Samp} (h1 : ReadsK w 4 v1 (l.map encSa)) (h2 : ReadsK w 4 v2 (m.map encSa)) (hz1 : SizedSa l) (hz2 : SizedSa m) (hl : l.length ≤ 5000) (hm : m.length ≤ 5000) (hne : 0 < m.length) :
    Calls Tryz.prog 29 #[v1, v2] w (MPost w l m) := by
  have H1 := Lib.hid h1
  have H2 := Lib.hid h2
  have Z1 := Lib.hid hz1
  have Z2 := Lib.hid hz2
  have HL := Lib.hid hl
  have HM := Lib.hid hm
  have HNE := Lib.hid hne
  obtain ⟨A1, c1, rfl, _⟩ := h1
  obtain ⟨A2, c2, rfl, _⟩ := h2
  rw [List.length_map] at H1 H2 ⊢
  rw [List.length_map]
  clear hz1 hz2 hl hm hne
  have C1 := Lib.hid (checkSamples_calls l (.slice A1 l.length c1) w H1.out Z1.out)
  obtain ⟨p, hp⟩ : ∃ p, chkS l = p := ⟨_, rfl⟩
  obtain ⟨q, hq⟩ : ∃ q, chkS m = q := ⟨_, rfl⟩
  rw [hp] at C1
  have HP := Lib.hid hp
  have HQ := Lib.hid hq
  clear hp hq
  go_enter Tryz.func29, Tryz.ntmps29
  go_wp2_with fail
  refine C1.out.mono ?_
  rintro e w2 ⟨rfl, hg2⟩
  have C2 := Lib.hid (checkSamples_calls m (.slice A2 m.length c2) w2 (hg2.reads H2.out) Z2.out)
  rw [HQ.out] at C2
  have G2 := Lib.hid hg2
  clear hg2 C1
  go_wp2_with fail
  refine C2.out.mono ?_
  rintro e w3 ⟨rfl, hg3⟩
  have G3 := Lib.hid (G2.out.trans hg3)
  have B3 := Blk.new w3 47 #[.int .i64 p, .int .i64 q]
  have F3 := Lib.hid (first_calls [p, q] w3.heap.size 0 2 (w3.alloc (.cells #[.int .i64 p, .int .i64 q] 47)) (by simp) (fun i hi => by
    match i, hi with
    | 0, _ => exact B3.cell 0
    | 1, _ => exact B3.cell 1))
  have G4 := Lib.hid (G3.out.alloc (.cells #[.int .i64 p, .int .i64 q] 47))
  clear hg3 G2 C2 B3
  go_wp2_with fail
  refine F3.out.mono ?_
  rintro e w4 ⟨rfl, rfl⟩
  obtain ⟨r, hr⟩ : ∃ r, orI [p, q] = r := ⟨_, rfl⟩
  rw [hr]
  clear hr F3
  generalize w3.alloc (.cells #[.int .i64 p, .int .i64 q] 47) = w4 at *
  by_cases hr0 : r = 0
  · subst hr0
    have G5 := Lib.hid (G4.out.alloc (.cells #[.slice A1 l.length c1, .slice A2 m.length c2] 23))
    have B5 := Blk.new w4 23 #[.slice A1 l.length c1, .slice A2 m.length c2]
    have HC := Lib.hid (concat56_calls (q := w4.heap.size) (c := 2) (B5.cell 0) (B5.cell 1) (G5.out.reads H1.out) (G5.out.reads H2.out) (by have := HL.out; have := HM.out; omega))
    go_wp2_with fail
    refine HC.out.mono ?_
    rintro e w6 ⟨⟨ov, rfl, hO⟩, hB⟩
    have B6 := Lib.hid (Below.then G5.out.below hB)
    have hl6 : (l ++ m).length ≤ 10000 := by have := HL.out; have := HM.out; rw [List.length_append]; omega
    have h06 : 0 < (l ++ m).length := by have := HNE.out; rw [List.length_append]; omega
    have O6 := Lib.hid hO
    clear hO hB HC B5
    go_wp2_with fail
    refine (sortM_calls O6.out (by omega)).mono ?_
    rintro e w7 ⟨rfl, ⟨Y, hp, hso, hO⟩, hK⟩
    have hlen := hp.length_eq
    rw [← hlen] at hO
    have hl7 : Y.length ≤ 10000 := by omega
    have h07 : 0 < Y.length := by omega
    obtain ⟨g, off, cap, hv, hcap, hgb, hgl⟩ := hO.form h07
    subst hv
    have O7 := Lib.hid hO
    have HSO := Lib.hid hso
    have HPE := Lib.hid hp
    have hbase : w.heap.size ≤ (w4.alloc (.cells #[.slice A1 l.length c1, .slice A2 m.length c2] 23)).heap.size := G5.out.below.size
    have B7 := Lib.hid (B6.out.trans ((hK.mono fun x (hx : x < w.heap.size) => ⟨Nat.lt_of_lt_of_le hx B6.out.size, fun e => by simp [Value.ownBlock] at e; omega⟩).below))
    clear hp hso hO hK O6 hlen
    go_wp2_with fail
    refine (compactSa_calls O7.out (by omega) h07).mono ?_
    rintro e w8 ⟨N, rfl, hN, hO, hK⟩
    have B8 := Lib.hid (B7.out.trans ((hK.mono fun x (hx : x < w.heap.size) => ⟨Nat.lt_of_lt_of_le hx B7.out.size, by omega⟩).below))
    obtain ⟨b, hb⟩ : ∃ b, comp Y = b := ⟨_, rfl⟩
    rw [hb] at hN hO
    have HBM : Hid (∀ s, s ∈ b ↔ s ∈ l ∨ s ∈ m) := Lib.hid fun s => by rw [← hb, comp_mem, HPE.out.mem_iff, List.mem_append]
    have HBS : Hid (b.Pairwise fun a c => ¬ lt3 (sampKey c) (sampKey a)) := Lib.hid (by rw [← hb]; exact List.Pairwise.sublist (compFrom_sub none Y) HSO.out)
    have hNb : N ≤ 10000 := by rw [hN, ← hb]; exact Nat.le_trans (compFrom_sub none Y).length_le hl7
    have HN := Lib.hid hN.symm
    have O8 := Lib.hid hO
    clear hO hK hN hb O7 HSO HPE B7
    go_wp2_with fail
    have hle1 : 1 ≤ N := by
      have h1 := HN.out
      obtain ⟨y0, hy0⟩ : ∃ y, y ∈ l ++ m := ⟨_, List.getElem_mem (l := l ++ m) (n := 0) h06⟩
      have h2 : y0 ∈ b := (HBM.out y0).2 (List.mem_append.1 hy0)
      have h3 := List.length_pos_of_mem h2
      omega
    go_loopw [8] (fun i wr => ∃ k : Nat, k + 1 ≤ N ∧ i = .int .i64 ((k : Int) + 1) ∧ SortedSa (b.take (k + 1)) ∧ Own wr w4.heap.size 51 4 (.slice (some ⟨g, off, none⟩) N cap) N (flatE encSa b) ∧ Below w.heap.size w wr) (fun i _ => N + 1 - (intOf i).toNat)
    case atStart => exact ⟨0, hle1, rfl, sortedSa_one b, O8.out.lower (by simp), B8.out⟩
    case round =>
      obtain ⟨k, hk, rfl, hP, hO, hB⟩ := hrel
      have HPW := Lib.hid hP
      have HOr := Lib.hid hO
      have HBr := Lib.hid hB
      clear hP hO hB O8 B8
      by_cases hlt : k + 1 < N
      · obtain ⟨x, hx⟩ : ∃ x, b[k + 1]? = some x := ⟨b[k + 1]'(by rw [HN.out]; exact hlt), List.getElem?_eq_getElem _⟩
        obtain ⟨y, hy⟩ : ∃ y, b[k]? = some y := ⟨b[k]'(by rw [HN.out]; omega), List.getElem?_eq_getElem _⟩
        have HJ : Hid (∃ j : Int, (k : Int) + 1 = j) := Lib.hid ⟨_, rfl⟩
        obtain ⟨j, hj⟩ := HJ.out
        rw [hj]
        have hd : j < (N : Int) := by omega
        have x1 : IntKind.i64.wrap (j + 1) = j + 1 := IntWalk.i64_in _ (by omega)
        have x2 : IntKind.i64.wrap (j - 1) = (k : Int) := by rw [IntWalk.i64_in _ (by omega)]; omega
        have htj : j.toNat = k + 1 := by omega
        have h0j : 0 ≤ j := by omega
        have hbj : 0 ≤ j ∧ j < (N : Int) := by omega
        have hbk : 0 ≤ (k : Int) ∧ (k : Int) < (N : Int) := by omega
        have a0 : wr.cell? ⟨g, off + (k + 1) * 4, none⟩ = some (.string x.device) := by exact HOr.out.cell _ _ (flatE_get encSa_len _ _ _ hx 0 _ rfl)
        have a1 : wr.cell? ⟨g, off + (k + 1) * 4 + 1, none⟩ = some (.string x.metric) := by rw [Nat.add_assoc]; exact HOr.out.cell _ _ (flatE_get encSa_len _ _ _ hx 1 _ rfl)
        have a2 : wr.cell? ⟨g, off + (k + 1) * 4 + 2, none⟩ = some (.int .i64 x.at_) := by rw [Nat.add_assoc]; exact HOr.out.cell _ _ (flatE_get encSa_len _ _ _ hx 2 _ rfl)
        have a3 : wr.cell? ⟨g, off + (k + 1) * 4 + 3, none⟩ = some (.int .i64 x.value) := by rw [Nat.add_assoc]; exact HOr.out.cell _ _ (flatE_get encSa_len _ _ _ hx 3 _ rfl)
        have b0 : wr.cell? ⟨g, off + k * 4, none⟩ = some (.string y.device) := by exact HOr.out.cell _ _ (flatE_get encSa_len _ _ _ hy 0 _ rfl)
        have b1 : wr.cell? ⟨g, off + k * 4 + 1, none⟩ = some (.string y.metric) := by rw [Nat.add_assoc]; exact HOr.out.cell _ _ (flatE_get encSa_len _ _ _ hy 1 _ rfl)
        have b2 : wr.cell? ⟨g, off + k * 4 + 2, none⟩ = some (.int .i64 y.at_) := by rw [Nat.add_assoc]; exact HOr.out.cell _ _ (flatE_get encSa_len _ _ _ hy 2 _ rfl)
        have b3 : wr.cell? ⟨g, off + k * 4 + 3, none⟩ = some (.int .i64 y.value) := by rw [Nat.add_assoc]; exact HOr.out.cell _ _ (flatE_get encSa_len _ _ _ hy 3 _ rfl)
        have hnlt : ¬ lt3 (sampKey x) (sampKey y) := by
          obtain ⟨q1, rfl⟩ := List.getElem?_eq_some_iff.1 hx
          obtain ⟨q2, rfl⟩ := List.getElem?_eq_some_iff.1 hy
          exact List.pairwise_iff_getElem.1 HBS.out k (k + 1) q2 q1 (by omega)
        have HX := Lib.hid hx
        have HY := Lib.hid hy
        have HJJ := Lib.hid hj
        have HNL := Lib.hid hnlt
        clear hx hy hj HJ hnlt
        by_cases hcz : cmp3 (sampKey y) (sampKey x) = 0
        · have hcb : (cmp3 (y.at_, y.device, y.metric) (x.at_, x.device, x.metric) == 0) = true := by simpa [sampKey] using hcz
          clear hcz
          go_wp2_with fail
          go_still_tail 9, (by kernel_rfl)
          go_wp2_with (go_at_call 58; refine (byMoment_calls _ _ _ _ _ _ _ _ _).mono ?_; rintro e w9 ⟨rfl, hg9⟩; have HG9 := Lib.hid hg9; clear hg9)
          go_ret2
          exact ⟨⟨_, _, rfl, fun h => by cases h⟩, Below.then HBr.out ((Grows.refl wr).drew.trans HG9.out).below⟩
        · have hcb : (cmp3 (y.at_, y.device, y.metric) (x.at_, x.device, x.metric) == 0) = false := by simpa [sampKey] using hcz
          have HLT : Hid (lt3 (sampKey y) (sampKey x)) := Lib.hid (by
            by_cases h1 : lt3 (sampKey y) (sampKey x)
            · exact h1
            · have := lt3_tri _ _ h1 HNL.out
              exact absurd (by rw [this]; exact (cmp3_zero _ _).2 rfl) hcz)
          clear hcz
          go_wp2_with fail
          go_still_tail 9, (by kernel_rfl)
          go_wp2_with (go_at_call 58; refine (byMoment_calls _ _ _ _ _ _ _ _ _).mono ?_; rintro e w9 ⟨rfl, hg9⟩; have HG9 := Lib.hid hg9; clear hg9)
          have hKK : Keeps (· < wr.heap.size) wr w9 := Keeps.of_grows ((Grows.refl wr).drew.trans HG9.out) fun _ h => h
          exact ⟨⟨k + 1, by omega, by rw [← HJJ.out]; go_num, sortedSa_step HX.out HY.out HPW.out HLT.out, HOr.out.keeps hKK fun g hg => (HOr.out.lt g hg).2, Below.then HBr.out hKK.below⟩, by have := HJJ.out; simp [intOf]; omega⟩
      · have hkN : k + 1 = N := by omega
        have hd : ¬ (k : Int) + 1 < (N : Int) := by omega
        have hfull : b.take (k + 1) = b := by rw [hkN, ← HN.out]; exact List.take_length
        rw [hfull] at HPW
        by_cases hbig : 5000 < N
        · have hb5 : (5000 : Int) < (N : Int) := by omega
          go_wp2_with fail
          go_ret2
          exact ⟨⟨_, _, rfl, fun h => by cases h⟩, HBr.out⟩
        · have hb5 : ¬ (5000 : Int) < (N : Int) := by omega
          have HRD : Hid (ReadsK wr 4 (.slice (some ⟨g, off, none⟩) N cap) (b.map encSa)) := Lib.hid (by have := HOr.out; rw [← HN.out] at this ⊢; exact this.reads encSa_len)
          go_wp2_with fail
          go_ret2
          exact ⟨⟨_, _, rfl, fun _ => ⟨b, HRD.out, HPW.out, HBM.out⟩⟩, HBr.out⟩
  · have hb : (r == 0) = false := by simp [hr0]
    go_wp2_with fail
    go_ret2
    exact ⟨⟨_, _, rfl, fun h => absurd h hr0⟩, G4.out.below⟩
end Go.Proofs.YteandmolnbcmmaaGreatDoor

namespace Go.Proofs.YteandmolnbcmmaaGreatDoor
open Go.RowKit Go.Sort

theorem spareM_size : spareM.size ≤ maxLen := by unfold maxLen; decide

set_option maxHeartbeats 4000000 in
set_option maxRecDepth 100000 in
theorem spare_calls {w : World} {rv sv : Value} {rs : List Rule} {l : List Samp} {f t a : Int} {d : ByteArray} (hr : ReadsK w 10 rv (rs.map encR)) (hs : ReadsK w 4 sv (l.map encSa)) (hzr : SizedR rs) (hzs : SizedSa l) (hzd : d.size ≤ maxLen) :
    Calls Tryz.prog 6 #[rv, sv, .agg #[.int .i64 f, .int .i64 t], .int .i64 a, .string d] w (Yes w) := by
  have HG := Lib.hid ((Grows.refl w).alloc (.cells #[.int .i64 f, .int .i64 t] 25))
  have W1 := Lib.hid (Blk.new w 25 #[.int .i64 f, .int .i64 t])
  have HR := Lib.hid (HG.out.reads hr)
  have HS := Lib.hid (HG.out.reads hs)
  have HZ := Lib.hid hzr
  have HY := Lib.hid hzs
  have HZD := Lib.hid hzd
  have HW := Lib.hid (wSpells_calls (f := f) (t := t) HR.out HS.out hzr hzs)
  clear hr hs hzr hzs hzd
  go_enter Tryz.func6, Tryz.ntmps6
  go_wp2_with fail
  refine HW.out.mono ?_
  rintro e w3 ⟨⟨ov, rfl, hO⟩, hB⟩
  have B4 := Lib.hid (Below.then HG.out.below hB)
  have K4 := Lib.hid (Keeps.of_below hB)
  by_cases hf : faultOf rs l (f, t) = 0
  · rw [decide_eq_true hf]
    rw [WPost.some_ hf] at hO
    have O4 := Lib.hid hO
    obtain ⟨k1, k2, k3⟩ := faultOf_ok hf
    have HC1 := Lib.hid k1
    have HC3 := Lib.hid k3
    have HGR := Lib.hid (chkR_ok k1)
    have HGL := Lib.hid (chkS_ok k2)
    clear hO hB k1 k2 k3 hf
    go_wp2_with fail
    refine (facts_calls _).mono ?_
    rintro e w4 ⟨rfl, hb⟩
    have B5 := Lib.hid (Below.then B4.out hb)
    have K5 := Lib.hid (K4.out.trans ((Keeps.of_below hb).mono fun k hk => Nat.lt_of_lt_of_le hk K4.out.size))
    have O5 := Lib.hid (O4.out.keeps (Keeps.of_below hb) fun g hg => (O4.out.lt g hg).2)
    have X5 := Lib.hid (O5.out.reads encSp_len)
    have hXl := spells_len (w := (f, t)) HGR.out HGL.out
    have W5 := Lib.hid (K5.out.blk W1.out W1.out.lt)
    have HS5 := Lib.hid (K5.out.reads (fun _ h => h) HS.out)
    have HR5 := Lib.hid (K5.out.reads (fun _ h => h) HR.out)
    have hrl := HGR.out.len
    clear hb O4 B4 K4 HS HR W1 HW K5 O5 HG
    have G5 := Lib.hid ((Grows.refl w4).alloc (.cells #[.string spareM] 9))
    have M5 := Lib.hid (Blk.new w4 9 #[.string spareM])
    have HCR := Lib.hid (containsR_calls (M5.out.cell 0) (G5.out.reads HR5.out) (by omega))
    unfold spareM at HCR G5 M5
    go_wp2_with fail
    refine HCR.out.mono ?_
    rintro e w5 ⟨⟨z, rfl, hz⟩, hg5⟩
    have HZZ := Lib.hid hz
    have G6 := Lib.hid (G5.out.trans hg5)
    have c6 := hg5.cell (M5.out.cell 0)
    have HB6 := Lib.hid (Below.then B5.out G6.out.below)
    clear hz hg5 HCR
    cases z
    · have G7 := Lib.hid (G6.out.alloc (.cells #[.string d, .string spareM, .int .i64 a, .int .i64 7] 51))
      have M7 := Blk.new w5 51 #[.string d, .string spareM, .int .i64 a, .int .i64 7]
      have HR7 := Lib.hid (G7.out.reads HR5.out)
      have HS7 := Lib.hid (G7.out.reads HS5.out)
      have HX7 := Lib.hid (G7.out.reads X5.out)
      have W7 := Lib.hid ((Keeps.of_grows (F := (· < w4.heap.size)) G7.out (fun _ h => h)).blk W5.out W5.out.lt)
      have HMM : Hid (ReadsK (w5.alloc (.cells #[.string d, .string spareM, .int .i64 a, .int .i64 7] 51)) 4 (.slice (some ⟨w5.heap.size, 0, none⟩) 1 1) ([(⟨d, spareM, a, 7⟩ : Samp)].map encSa)) := Lib.hid ⟨_, _, rfl, Nat.le_refl _, fun _ => ⟨_, _, rfl, fun i x hi => by
        match i, hi with
        | 0, hi =>
          simp at hi
          subst hi
          intro j u hj
          have := M7.cell j
          match j, hj with
          | 0, hj => cases hj; exact this
          | 1, hj => cases hj; exact this
          | 2, hj => cases hj; exact this
          | 3, hj => cases hj; exact this
        | i + 1, hi => simp at hi⟩⟩
      have HME := Lib.hid (merge_calls HS7.out HMM.out HY.out (fun x hx => by
        rw [List.mem_singleton] at hx
        subst hx
        exact ⟨HZD.out, spareM_size⟩) HGL.out.len (by simp) (by simp))
      have hlen : ([(⟨d, spareM, a, 7⟩ : Samp)]).length = 1 := rfl
      unfold spareM at HME G7 HMM
      go_wp2_with fail
      refine HME.out.mono ?_
      rintro e w8 ⟨⟨ov2, x, rfl, hx⟩, hB8⟩
      have B8 := Lib.hid (Below.then (Below.then B5.out G7.out.below) hB8)
      have HX := Lib.hid hx
      by_cases hx0 : x = 0
      · subst hx0
        obtain ⟨b, hrb, hpb, hmb⟩ := HX.out rfl
        obtain ⟨A2, c2, hv2, _⟩ := id hrb
        subst hv2
        rw [List.length_map] at hrb ⊢
        have K8 := Keeps.of_below hB8
        have W8 := W7.out.below hB8 W7.out.lt
        have e0 := W8.cell 0
        have e1 := W8.cell 1
        have HR8 := K8.reads (fun _ h => h) HR7.out
        have HX8 := K8.reads (fun _ h => h) HX7.out
        have hlaw := law_spare (w := (f, t)) (x := (⟨d, spareM, a, 7⟩ : Samp)) HC1.out HGL.out HC3.out hpb (fun s => by rw [hmb s, List.mem_singleton]; rfl) (fun r hr e => by
          have := HZZ.out.2 ⟨r, hr, e⟩
          cases this)
        have HA := Lib.hid (wAlike_calls (f := f) (t := t) HX8 HR8 hrb HZ.out (fun s hs => by
          rcases (hmb s).1 hs with h | h
          · exact HY.out s h
          · rw [List.mem_singleton] at h
            subst h
            exact ⟨HZD.out, spareM_size⟩) hlaw (by omega))
        clear hrb hx HX hB8 hpb hmb K8 W8 HR8 HX8 hlaw HME HMM HR7 HS7 HX7 W7 M7 G7
        go_wp2_with fail
        refine HA.out.mono ?_
        rintro e w12 ⟨rfl, hb⟩
        have B12 := Lib.hid (Below.then B8.out hb)
        clear hb
        go_wp2_with fail
        go_ret
        exact ⟨rfl, B12.out⟩
      · have hxb : (x == 0) = false := by simp [hx0]
        clear hx HX hB8 HME HMM HR7 HS7 HX7 W7 M7 G7
        go_wp2_with fail
        go_ret
        exact ⟨rfl, B8.out⟩
    · go_wp2_with fail
      go_ret
      exact ⟨rfl, HB6.out⟩
  · rw [decide_eq_false hf]
    rw [WPost.none_ hf] at hO
    obtain ⟨A2, c2, hv2, _⟩ := hO.slice
    subst hv2
    clear hO hB
    go_wp2_with fail
    refine (facts_calls _).mono ?_
    rintro e w4 ⟨rfl, hb⟩
    have B5 := Lib.hid (Below.then B4.out hb)
    clear hb
    go_wp2_with fail
    go_ret
    exact ⟨rfl, B5.out⟩

end Go.Proofs.YteandmolnbcmmaaGreatDoor
