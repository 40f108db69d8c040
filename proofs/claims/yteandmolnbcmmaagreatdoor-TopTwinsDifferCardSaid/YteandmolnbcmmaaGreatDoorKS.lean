/- Walk: rule.whole. No condition beyond what each theorem states. -/
import Derived.Test.YteandmolnbcmmaaGreatDoorKR

namespace Go.Proofs.YteandmolnbcmmaaGreatDoor
open Go.RowKit Go.Sort

theorem encSa_len (s : Samp) : (encSa s).length = 4 := rfl

theorem Keeps.reads {F : Nat → Prop} {w w' : World} (h : Keeps F w w') {k : Nat} {v : Value} {xs : List (List Value)} (hF : ∀ b, b < w.heap.size → F b) (hc : ReadsK w k v xs) : ReadsK w' k v xs := by
  obtain ⟨A, c, e, hl, hx⟩ := hc
  refine ⟨A, c, e, hl, fun hne => ?_⟩
  obtain ⟨b, o, hA, hr⟩ := hx hne
  refine ⟨b, o, hA, fun i x hi => ?_⟩
  intro j u hj
  have hcell := hr i x hi j u hj
  rw [World.cell?_of_block (w := w) (h.block b (hF b (World.block_lt_of_cell? w _ hcell)))]
  exact hcell

theorem devs_len (m : ByteArray) (l : List Samp) (n : Nat) (hn : l.length = n) (hl : n ≤ 5000) : (devs m l).length ≤ 5000 := by
  unfold devs sortS
  refine Nat.le_trans (dedupS_length _) ?_
  rw [List.length_mergeSort, List.length_map]
  exact Nat.le_trans (List.length_filter_le _ _) (by omega)

theorem devs_size {m : ByteArray} {l : List Samp} (hz : SizedSa l) : ∀ d ∈ devs m l, d.size ≤ maxLen := by
  intro d hd
  unfold devs at hd
  rw [sortS_mem, List.mem_map] at hd
  obtain ⟨s, hs, rfl⟩ := hd
  exact (hz s (List.mem_filter.1 hs).1).1

theorem wholeT_len {r : Rule} {l : List Samp} (hr : GoodR r) (hl : GoodL l) (ds : List ByteArray) (k : Nat) (hk : ds.length ≤ k) : (wholeT r l ds).length ≤ k * 10001 := by
  induction ds generalizing k with
  | nil => simp [wholeT]
  | cons d ds ih =>
    cases k with
    | zero => simp at hk
    | succ k =>
      have h1 := ih k (by simpa using hk)
      have h2 := spansOf_length hr (seen r.metric d l) (seen_sorted hl.order _ _) (seen_good hl.each _ _)
      have h3 : (seen r.metric d l).length ≤ 5000 := by
        unfold seen; rw [List.length_map]; exact Nat.le_trans (List.length_filter_le _ _) hl.len
      unfold wholeT at *
      rw [List.flatMap_cons, List.length_append, List.length_map]
      omega

set_option maxHeartbeats 4000000 in
set_option maxRecDepth 100000 in
theorem whole_calls {w : World} {v : Value} {rb ro : Nat} {r : Rule} {l : List Samp} (hr : GoodR r) (hc : Cells w rb ro (encR r)) (hrb : rb < w.heap.size) (hl : ReadsK w 4 v (l.map encSa)) (hg : GoodL l) (hz : SizedSa l) :
    Calls Tryz.prog 62 #[.pointer (some ⟨rb, ro, none⟩), v] w fun e w' => (∃ ov, e = .returned ov ∧ Own w' w.heap.size 34 4 ov (whole r l).length (flatE encSp (whole r l))) ∧ Below w.heap.size w w' := by
  obtain ⟨i0, hi0, hz0, hz1, hz2⟩ := info_parts info156
  obtain ⟨i1, hi1, hy0, hy1, hy2⟩ := info_parts info34
  have HL := Lib.hid hl
  obtain ⟨A, c, rfl, hcap, hrow⟩ := hl
  rw [List.length_map] at hcap HL ⊢
  have HRow := Lib.hid hrow
  have HC := Lib.hid hc
  have HR := Lib.hid hr
  have HG := Lib.hid hg
  have HZ := Lib.hid hz
  have hlen := hg.len
  have KA := Lib.hid ((Keeps.refl (· < w.heap.size) w).alloc (fun _ h => h) (.map #[] 0))
  have MA : Hid (GroupsF (w.alloc (.map #[] 0)) (w.heap.size + 1) w.heap.size r.metric [] (fun _ => none)) := Lib.hid ⟨MapIs.made _ _ _, Nat.lt_succ_self _, fun d _ => .inl ⟨rfl, rfl⟩, fun _ _ _ _ _ _ _ h => by cases h⟩
  clear hrow hc hr hg hz
  obtain ⟨n, hnn⟩ : ∃ n, l.length = n := ⟨_, rfl⟩
  rw [hnn] at hlen hcap HL ⊢
  have HN := Lib.hid hnn
  clear hnn
  have hmm := @run_makeMap Tryz.prog
  go_enter Tryz.func62, Tryz.ntmps62
  go_upto_block 0 with fail
  go_cut [16] (fun _ wx => ∃ f, GroupsF wx (w.heap.size + 1) w.heap.size r.metric l f ∧ Keeps (· < w.heap.size) w wx)
  case first =>
    go_wp2_with fail
    go_loopw [16] (fun i wr => ∃ (k : Nat) (f : ByteArray → Option Value), k ≤ n ∧ i = .int .i64 k ∧ GroupsF wr (w.heap.size + 1) w.heap.size r.metric (l.take k) f ∧ Keeps (· < w.heap.size) w wr) (fun i _ => n - (intOf i).toNat)
    case atStart => exact ⟨0, _, Nat.zero_le _, rfl, MA.out, KA.out⟩
    case round =>
      obtain ⟨k, f, hk, rfl, hM, hK⟩ := hrel
      have HM := Lib.hid hM
      have HK := Lib.hid hK
      clear hM hK KA MA
      by_cases hlt : k < n
      · obtain ⟨s, hs⟩ : ∃ s, l[k]? = some s := ⟨l[k]'(by rw [HN.out]; exact hlt), List.getElem?_eq_getElem _⟩
        obtain ⟨b, o, rfl, hrow⟩ := HRow.out (by intro e; rw [List.map_eq_nil_iff] at e; rw [e] at hs; simp at hs)
        have hcs := hrow k (encSa s) (by rw [List.getElem?_map, hs]; rfl)
        have d0 : w.cell? ⟨b, o + k * 4, none⟩ = some (.string s.device) := hcs 0 _ rfl
        have d1 : w.cell? ⟨b, o + k * 4 + 1, none⟩ = some (.string s.metric) := hcs 1 _ rfl
        have d2 : w.cell? ⟨b, o + k * 4 + 2, none⟩ = some (.int .i64 s.at_) := hcs 2 _ rfl
        have d3 : w.cell? ⟨b, o + k * 4 + 3, none⟩ = some (.int .i64 s.value) := hcs 3 _ rfl
        have hbl := World.block_lt_of_cell? w _ d0
        replace d0 := HK.out.cell hbl d0
        replace d1 := HK.out.cell hbl d1
        replace d2 := HK.out.cell hbl d2
        replace d3 := HK.out.cell hbl d3
        have hd : (k : Int) < (n : Int) := by omega
        have x1 : IntKind.i64.wrap ((k : Int) + 1) = (k : Int) + 1 := IntWalk.i64_in _ (by omega)
        have htk : l.take (k + 1) = l.take k ++ [s] := by rw [List.take_add_one, hs]; rfl
        have HTK := Lib.hid htk
        have hds := (HZ.out s (List.mem_of_getElem? hs)).1
        have hlk : (l.take k).length = k := by rw [List.length_take, HN.out]; omega
        have HLK := Lib.hid hlk
        have HDS := Lib.hid hds
        clear hrow hcs hs htk hlk hds
        go_upto_region 5 with fail
        have P0 : Blk (wr.alloc (.cells #[.string s.device, .string s.metric, .int .i64 s.at_, .int .i64 s.value] 51)) wr.heap.size 51 #[.string s.device, .string s.metric, .int .i64 s.at_, .int .i64 s.value] := Blk.new _ _ _
        have K0 := HK.out.alloc (fun k h => Nat.lt_of_lt_of_le h HK.out.size) (.cells #[.string s.device, .string s.metric, .int .i64 s.at_, .int .i64 s.value] 51)
        have M0 := HM.out.same (w' := wr.alloc (.cells #[.string s.device, .string s.metric, .int .i64 s.at_, .int .i64 s.value] 51)) fun k h => Below.heap_alloc wr _ k h
        obtain ⟨w1, hw1⟩ : ∃ W, wr.alloc (.cells #[.string s.device, .string s.metric, .int .i64 s.at_, .int .i64 s.value] 51) = W := ⟨_, rfl⟩
        have hbS : w.heap.size < wr.heap.size := HM.out.map.lt
        obtain ⟨S0, hS0⟩ : ∃ S, wr.heap.size = S := ⟨_, rfl⟩
        rw [hw1, hS0] at P0
        rw [hw1] at K0 M0
        rw [hS0] at hbS
        rw [hw1, hS0]
        clear hw1 hS0 d0 d1 d2 d3 HM HK
        have p0 : w1.cell? ⟨S0, 0, none⟩ = some (.string s.device) := P0.cell 0
        have p1 : w1.cell? ⟨S0, 1, none⟩ = some (.string s.metric) := P0.cell 1
        have p2 : w1.cell? ⟨S0, 2, none⟩ = some (.int .i64 s.at_) := P0.cell 2
        have p3 : w1.cell? ⟨S0, 3, none⟩ = some (.int .i64 s.value) := P0.cell 3
        have r1 : w1.cell? ⟨rb, ro + 1, none⟩ = some (.string r.metric) := K0.cell hrb (HC.out 1 _ rfl)
        have lS := P0.lt
        replace P0 := Lib.hid P0
        replace K0 := Lib.hid K0
        replace M0 := Lib.hid M0
        by_cases hm : s.metric = r.metric
        · go_quiet (fail)
          go_wp2_with fail
          have P2 := P0.out.drewN nq
          have K2 := K0.out.drewN nq
          have M2 := M0.out.same (w' := w1.drewN nq) fun _ _ => rfl
          replace lS : S0 < (w1.drewN nq).heap.size := lS
          clear p0 p1 p2 p3 r1 P0 K0 M0
          generalize w1.drewN nq = w2 at *
          have p0 : w2.cell? ⟨S0, 0, none⟩ = some (.string s.device) := P2.cell 0
          have p2 : w2.cell? ⟨S0, 2, none⟩ = some (.int .i64 s.at_) := P2.cell 2
          have p3 : w2.cell? ⟨S0, 3, none⟩ = some (.int .i64 s.value) := P2.cell 3
          obtain ⟨u, hu⟩ : ∃ u, (f s.device).getD (.slice none 0 0) = u := ⟨_, rfl⟩
          have hown := M2.at_ s.device HDS.out
          have lk1 : (Instr.lookup 153 (.map (some w.heap.size)) (.string s.device) false).run Tryz.prog w2.drew = .ok u w2.drew := by
            rw [← hu]; exact (M2.same (w' := w2.drew) fun _ _ => rfl).look s.device HDS.out
          have lk2 : (Instr.lookup 153 (.map (some w.heap.size)) (.string s.device) false).run Tryz.prog (w2.alloc (.cells #[.int .i64 s.at_, .int .i64 s.value] 156)).drew = .ok u (w2.alloc (.cells #[.int .i64 s.at_, .int .i64 s.value] 156)).drew := by
            rw [← hu]; exact (M2.same (w' := (w2.alloc (.cells #[.int .i64 s.at_, .int .i64 s.value] 156)).drew) fun k h => Below.heap_alloc w2 _ k h).look s.device HDS.out
          have M3 := M2.same (w' := (w2.alloc (.cells #[.int .i64 s.at_, .int .i64 s.value] 156)).drew) fun k h => Below.heap_alloc w2 _ k h
          rw [hu] at hown
          have hbl2 := M2.map.lt
          have hSne : S0 ≠ w.heap.size := by omega
          have nS : u.ownBlock ≠ some S0 := hown.ne_blk P2 (by decide)
          have hsl : (seen r.metric s.device (l.take k)).length ≤ k := by
            unfold seen; rw [List.length_map]; exact Nat.le_trans (List.length_filter_le _ _) (by rw [HLK.out]; omega)
          have hsn : seen r.metric s.device (l.take k ++ [s]) = seen r.metric s.device (l.take k) ++ [(s.at_, s.value)] := by rw [seen_snoc, if_pos ⟨hm, rfl⟩]
          have hub : ∀ g, u.ownBlock = some g → w.heap.size + 1 ≤ g := fun g hg => (hown.lt g hg).1
          replace P2 := Lib.hid P2
          replace K2 := Lib.hid K2
          replace M2 := Lib.hid M2
          replace M3 := Lib.hid M3
          replace hown := Lib.hid hown
          replace hu := Lib.hid hu
          replace hsn := Lib.hid hsn
          replace hub := Lib.hid hub
          go_region_held3 (fun w' => w'.cell? ⟨S0, 0, none⟩ = some (.string s.device) ∧ w'.cell? ⟨S0, 2, none⟩ = some (.int .i64 s.at_) ∧ w'.cell? ⟨S0, 3, none⟩ = some (.int .i64 s.value))
            (first
              | go_keep
              | (go_split_ands
                 refine ⟨?_, ?_, ?_⟩
                 · (rw [hgrow.cell_far _ (by simp; omega) (Ne.symm nS)]; assumption)
                 · (rw [hgrow.cell_far _ (by simp; omega) (Ne.symm nS)]; assumption)
                 · (rw [hgrow.cell_far _ (by simp; omega) (Ne.symm nS)]; assumption))
              | (go_split_ands
                 refine ⟨?_, ?_, ?_⟩
                 · (exact hK5.cell hSne (by assumption))
                 · (exact hK5.cell hSne (by assumption))
                 · (exact hK5.cell hSne (by assumption))))
            ((refine step_append_Own (by rfl) _ _ _ (by rfl) (w.heap.size + 1) 156 i0 _ 2 16 u154 hi0 hz0 hz1 hz2 rfl (by omega) u _ _ (by rfl) ((hown.out.alloc _).drew)
                ⟨w2.heap.size, 0, none⟩ 1 1 [.int .i64 s.at_, .int .i64 s.value] (by rfl) (by rfl) (World.news_of_block (cs := #[.int .i64 s.at_, .int .i64 s.value]) (t := 156) (fr := (0, 0)) (heap_alloc_new w2 _)) (by simp [Value.oneCell'])
                (by unfold maxLen; omega) (by omega) (by simp; omega) ?_; intro v' w4 hown4 hgrow hfr; obtain ⟨w5, hrun5, hM5, hK5⟩ := M3.out.store (v' := v') s HDS.out (by rw [HLK.out]; omega) (by rw [hu.out]; exact hgrow) (by rw [hsn.out, flat_snoc, List.length_append]; exact hown4) (by rw [hu.out]; exact hfr)))
          all_goals
            go_wp2_with fail
            go_roundw
            case rel =>
              refine ⟨k + 1, _, by omega, by go_num, by rw [HTK.out]; exact hM5, ?_⟩
              have K3 := ((K2.out.alloc (fun k h => Nat.lt_of_lt_of_le h K2.out.size) (.cells #[.int .i64 s.at_, .int .i64 s.value] 156)).drew).trans ((Keeps.refl _ _).grown hgrow (fun k h => Nat.lt_of_lt_of_le h (by have := K2.out.size; simp; omega)) (fun g e h => by have := hub.out g e; omega))
              exact K3.trans (hK5.mono fun k h => by omega)
            case measure => simp [intOf]; omega
        · have hbm : (s.metric.toList == r.metric.toList) = false := eqS_false hm
          go_quiet (fail)
          go_wp2_with fail
          go_roundw
          case rel => exact ⟨k + 1, f, by omega, by go_num, by rw [HTK.out]; exact ((M0.out.same (w' := w1.drewN nq) fun _ _ => rfl).skip s hm), K0.out.drewN _⟩
          case measure => simp [intOf]; omega
      · have hkn : k = n := by omega
        subst hkn
        have hd : ¬ (k : Int) < (k : Int) := by omega
        have hlt : l.take k = l := by rw [← HN.out]; exact List.take_length
        go_wp2_with fail
        go_meet
        exact ⟨f, by rw [← hlt]; exact HM.out, HK.out⟩
  case rest =>
  obtain ⟨f, hM, hK⟩ := hcut
  clear KA MA
  have r1 : wc.cell? ⟨rb, ro + 1, none⟩ = some (.string r.metric) := hK.cell hrb (HC.out 1 _ rfl)
  have HM := Lib.hid hM
  have HK := Lib.hid hK
  have HL2 : Hid (ReadsK wc 4 (.slice A n c) (l.map encSa)) := Lib.hid (HK.out.reads (fun _ h => h) HL.out)
  clear hM hK
  go_wp2_with fail
  refine (devices_calls (m := r.metric) HL2.out (by rw [HN.out]; omega)).mono ?_
  rintro e w1 ⟨⟨dv, rfl, hD⟩, hB⟩
  have HM1 := Lib.hid (HM.out.same fun k h => hB.block k h)
  have HK1 := Lib.hid (HK.out.trans (Keeps.mono (F := (· < wc.heap.size)) ⟨hB.os, hB.tape, hB.output, hB.size, hB.block⟩ fun k h => Nat.lt_of_lt_of_le h HK.out.size))
  obtain ⟨ds, hds⟩ : ∃ ds, devs r.metric l = ds := ⟨_, rfl⟩
  rw [hds] at hD
  have hdl : ds.length ≤ 5000 := by rw [← hds]; exact devs_len r.metric l n HN.out hlen
  have HDz : Hid (∀ d ∈ ds, d.size ≤ maxLen) := Lib.hid fun d hd => by rw [← hds] at hd; exact devs_size HZ.out d hd
  have hDo : Own w1 w.heap.size 9 1 dv ds.length (ds.map Value.string) := ⟨hD.1, hD.2.imp id fun ⟨g, off, cap, cur, h1, h2, h3⟩ => ⟨g, off, cap, cur, h1, Nat.le_trans HK.out.size h2, h3⟩⟩
  have HD := Lib.hid hDo
  replace hds := Lib.hid hds
  clear hB hD r1 HL2 HM HK
  obtain ⟨DA, DC, hdv, hdc⟩ := hDo.slice
  rw [hdv] at HD ⊢
  clear hdv hDo
  obtain ⟨dn, hdn⟩ : ∃ dn, ds.length = dn := ⟨_, rfl⟩
  have WS0 : Hid (WS w w1 r.metric l f (.slice DA dn DC) ds (.slice none 0 0) []) := Lib.hid ⟨Own.nil _ _ _ _, HM1.out, by rw [← hdn]; exact HD.out, HK1.out⟩
  rw [hdn] at hdl ⊢
  have HDN := Lib.hid hdn
  clear HM1 HD HK1 hdc hdn
  go_wp2_with fail
  go_loopw [8, 49] (fun v i wr => ∃ k : Nat, k ≤ dn ∧ i = .int .i64 k ∧ WS w wr r.metric l f (.slice DA dn DC) ds v (wholeT r l (ds.take k))) (fun _ i _ => dn - (intOf i).toNat)
  case atStart => exact ⟨0, Nat.zero_le _, rfl, WS0.out⟩
  case round =>
    obtain ⟨k, hk, rfl, hW⟩ := hrel
    have HW := Lib.hid hW
    clear hW WS0
    by_cases hlt : k < dn
    · obtain ⟨d, hd⟩ : ∃ d, ds[k]? = some d := ⟨ds[k]'(by rw [HDN.out]; exact hlt), List.getElem?_eq_getElem _⟩
      have hdev := HW.out.dev
      rw [HDN.out] at hdev
      obtain ⟨dg, doff, dcap, hde, _⟩ := hdev.form (by omega)
      cases hde
      have dc : wr.cell? ⟨dg, doff + k, none⟩ = some (.string d) := hdev.cell k _ (by rw [List.getElem?_map, hd]; rfl)
      have hds2 := HDz.out d (List.mem_of_getElem? hd)
      obtain ⟨u, hu⟩ : ∃ u, (f d).getD (.slice none 0 0) = u := ⟨_, rfl⟩
      have lk1 := HW.out.grp.look d hds2
      have hown := HW.out.grp.at_ d hds2
      rw [hu] at lk1 hown
      have hrd : ReadsK wr 2 u ((seen r.metric d l).map encSm) := Own.reads (enc := encSm) (fun _ => rfl) hown
      have HRd := Lib.hid hrd
      have hlt2 : (k : Int) < (dn : Int) := by omega
      have HDd := Lib.hid hd
      clear hown hrd hdev hd hu
      go_wp2_with fail
      have hss := seen_sorted HG.out.order r.metric d
      have hsg := seen_good HG.out.each r.metric d
      have hsl : (seen r.metric d l).length ≤ 5000 := by
        unfold seen; rw [List.length_map]; exact Nat.le_trans (List.length_filter_le _ _) HG.out.len
      refine (spansOf_calls HR.out (HW.out.kp.cells hrb HC.out) (Nat.lt_of_lt_of_le hrb HW.out.kp.size) HRd.out hsg hss (by omega)).mono ?_
      rintro e w2 ⟨⟨sv, rfl, hS⟩, hB⟩
      have hspl := spansOf_length HR.out _ hss hsg
      obtain ⟨sp, hsp⟩ : ∃ sp, spansOf r (seen r.metric d l) = sp := ⟨_, rfl⟩
      rw [hsp] at hS hspl
      obtain ⟨sn, hsn⟩ : ∃ sn, sp.length = sn := ⟨_, rfl⟩
      rw [hsn] at hS hspl
      have HW2 := Lib.hid (HW.out.below hB)
      have hWl : (wholeT r l (ds.take k)).length ≤ k * 10001 := wholeT_len HR.out HG.out _ k (by rw [List.length_take]; omega)
      have hkb : k * 10001 ≤ 50005000 := by omega
      have HS := Lib.hid (show Own w2 (w.heap.size + 1) 161 2 sv sn (flat sp) from ⟨hS.1, hS.2.imp id fun ⟨g, off, cap, cur, h1, h2, h3⟩ => ⟨g, off, cap, cur, h1, by have := HW.out.size; omega, h3⟩⟩)
      obtain ⟨SA, SC, hsv, _⟩ := hS.slice
      subst hsv
      replace hsp := Lib.hid hsp
      replace hsn := Lib.hid hsn
      clear hS hB hss hsg HW HRd lk1 dc
      go_wp2_with fail
      obtain ⟨W2, hW2⟩ : ∃ W, wholeT r l (ds.take k) = W := ⟨_, rfl⟩
      rw [hW2] at hWl HW2
      replace hW2 := Lib.hid hW2
      obtain ⟨wo, rfl⟩ : ∃ wo : World, wo = wr := ⟨_, rfl⟩
      go_loopw [8, 59] (fun v j wx => ∃ q : Nat, q ≤ sn ∧ j = .int .i64 q ∧ WS w wx r.metric l f (.slice (some ⟨dg, doff, none⟩) dn DC) ds v (W2 ++ (sp.take q).map (mkSp d r.key)) ∧ Own wx (w.heap.size + 1) 161 2 (.slice SA sn SC) sn (flat sp)) (fun _ j _ => sn - (intOf j).toNat)
      case atStart => exact ⟨0, Nat.zero_le _, rfl, by simpa using HW2.out, HS.out⟩
      case round =>
        obtain ⟨q, hq, rfl, hWx, hSx⟩ := hrel
        have HWx := Lib.hid hWx
        have HSx := Lib.hid hSx
        clear HW2 HS
        by_cases hqs : q < sn
        · obtain ⟨s, hs⟩ : ∃ s, sp[q]? = some s := ⟨sp[q]'(by rw [hsn.out]; exact hqs), List.getElem?_eq_getElem _⟩
          obtain ⟨sg, soff, scap, hse, _⟩ := hSx.form (by omega)
          cases hse
          obtain ⟨e0, e1⟩ := hSx.at_ hs
          have r0 : wr.cell? ⟨rb, ro, none⟩ = some (.string r.key) := hWx.kp.cell hrb (by simpa using HC.out 0 _ rfl)
          have hq2 : (q : Int) < (sn : Int) := by omega
          have x1 : IntKind.i64.wrap ((q : Int) + 1) = (q : Int) + 1 := IntWalk.i64_in _ (by omega)
          have htk : sp.take (q + 1) = sp.take q ++ [s] := by rw [List.take_add_one, hs]; rfl
          have HTK := Lib.hid htk
          have hql : (sp.take q).length = q := by rw [List.length_take, hsn.out]; omega
          have HQL := Lib.hid hql
          clear hWx hSx hs htk hql
          go_wp2_with fail
          have P0 : Blk (wr.alloc (.cells #[.int .i64 s.1, .int .i64 s.2] 161)) wr.heap.size 161 #[.int .i64 s.1, .int .i64 s.2] := Blk.new _ _ _
          have W0 := HWx.out.alloc (.cells #[.int .i64 s.1, .int .i64 s.2] 161)
          have T0 := HSx.out.alloc (.cells #[.int .i64 s.1, .int .i64 s.2] 161)
          replace r0 : (wr.alloc (.cells #[.int .i64 s.1, .int .i64 s.2] 161)).cell? ⟨rb, ro, none⟩ = some (.string r.key) := cell_alloc_old r0 _
          obtain ⟨w3, hw3⟩ : ∃ W, wr.alloc (.cells #[.int .i64 s.1, .int .i64 s.2] 161) = W := ⟨_, rfl⟩
          obtain ⟨S1, hS1⟩ : ∃ S, wr.heap.size = S := ⟨_, rfl⟩
          rw [hw3, hS1] at P0
          rw [hw3] at W0 T0 r0
          rw [hw3, hS1]
          clear hw3 hS1 e0 e1 HWx HSx
          have p0 : w3.cell? ⟨S1, 0, none⟩ = some (.int .i64 s.1) := P0.cell 0
          have p1 : w3.cell? ⟨S1, 1, none⟩ = some (.int .i64 s.2) := P0.cell 1
          have lS : S1 < w3.heap.size := P0.lt
          have lr : rb < w3.heap.size := Nat.lt_of_lt_of_le hrb W0.kp.size
          have lw := W0.size
          have nS : u8.ownBlock ≠ some S1 := W0.out.ne_blk P0 (by decide)
          have nR : u8.ownBlock ≠ some rb := fun e => by have := (W0.out.lt rb e).1; omega
          have hX : (W2 ++ (sp.take q).map (mkSp d r.key)).length ≤ 60000000 := by rw [List.length_append, List.length_map, HQL.out]; omega
          obtain ⟨X, hXX⟩ : ∃ X, W2 ++ (sp.take q).map (mkSp d r.key) = X := ⟨_, rfl⟩
          rw [hXX] at W0 hX
          have hXn : W2 ++ (sp.take (q + 1)).map (mkSp d r.key) = X ++ [mkSp d r.key s] := by rw [HTK.out, List.map_append, ← List.append_assoc, hXX]; rfl
          replace hXn := Lib.hid hXn
          replace P0 := Lib.hid P0
          replace W0 := Lib.hid W0
          replace T0 := Lib.hid T0
          clear hXX
          go_region_held3 (fun w' => w'.cell? ⟨rb, ro, none⟩ = some (.string r.key) ∧ w'.cell? ⟨S1, 0, none⟩ = some (.int .i64 s.1) ∧ w'.cell? ⟨S1, 1, none⟩ = some (.int .i64 s.2))
            (first
              | go_keep
              | (go_split_ands
                 refine ⟨?_, ?_, ?_⟩
                 · (rw [hgrow.cell_far _ (by simp; omega) (Ne.symm nR)]; assumption)
                 · (rw [hgrow.cell_far _ (by simp; omega) (Ne.symm nS)]; assumption)
                 · (rw [hgrow.cell_far _ (by simp; omega) (Ne.symm nS)]; assumption)))
            ((refine step_append_Own (by rfl) _ _ _ (by rfl) (w.heap.size + 1) 34 i1 _ 4 48 under26 hi1 hy0 hy1 hy2 rfl (by omega) u8 _ _ (by rfl) ((W0.out.out.alloc _).drew)
                ⟨w3.heap.size, 0, none⟩ 1 1 [.string d, .string r.key, .int .i64 s.1, .int .i64 s.2] (by rfl) (by rfl) (World.news_of_block (cs := #[.string d, .string r.key, .int .i64 s.1, .int .i64 s.2]) (t := 34) (fr := (0, 0)) (heap_alloc_new w3 _)) (by simp [Value.oneCell'])
                (by unfold maxLen; omega) (by omega) (by simp; omega) ?_; intro v' w4 hown4 hgrow hfr))
          all_goals
            go_wp2_with fail
            go_roundw
            case rel =>
              refine ⟨q + 1, by omega, by go_num, ?_, ?_⟩
              · rw [hXn.out]
                exact ((W0.out.alloc _).drew).app hgrow (by rw [flatE, List.flatMap_append, List.length_append]; exact hown4)
              · exact ((T0.out.alloc _).drew).same fun g hg => hgrow.block g (((T0.out.alloc _).drew).lt g hg).2 fun e => by
                  obtain ⟨cs, hc⟩ := T0.out.blk hg
                  exact W0.out.out.ne_blk hc (by decide) e.symm
            case measure => simp [intOf]; omega
        · have hqn : q = sn := by omega
          subst hqn
          have hd : ¬ (q : Int) < (q : Int) := by omega
          have x1 : IntKind.i64.wrap ((k : Int) + 1) = (k : Int) + 1 := IntWalk.i64_in _ (by omega)
          go_wp2_with fail
          go_roundw
          case rel =>
            refine ⟨k + 1, by omega, by go_num, ?_⟩
            have hT : wholeT r l (ds.take (k + 1)) = W2 ++ (sp.take q).map (mkSp d r.key) := by
              rw [show ds.take (k + 1) = ds.take k ++ [d] by rw [List.take_add_one, HDd.out]; rfl, wholeT_snoc, hW2.out, hsp.out, show sp.take q = sp by rw [← hsn.out]; exact List.take_length]
            rw [hT]
            exact HWx.out
          case measure => simp [intOf]; omega
    · have hkn : k = dn := by omega
      subst hkn
      have hd : ¬ (k : Int) < (k : Int) := by omega
      have hlt : ds.take k = ds := by rw [← HDN.out]; exact List.take_length
      go_wp2_with fail
      go_ret
      have hO := HW.out.out
      rw [hlt] at hO
      have hw : whole r l = wholeT r l ds := by rw [← hds.out]; rfl
      rw [hw]
      exact ⟨⟨_, rfl, ⟨hO.1, hO.2.imp id fun ⟨g, off, cap, cur, h1, h2, h3⟩ => ⟨g, off, cap, cur, h1, Nat.le_trans (Nat.le_succ _) h2, h3⟩⟩⟩, HW.out.kp.below⟩

end Go.Proofs.YteandmolnbcmmaaGreatDoor
