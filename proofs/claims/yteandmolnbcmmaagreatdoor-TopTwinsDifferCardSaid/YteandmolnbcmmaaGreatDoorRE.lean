/- Walk: rule.sweep, with the closure of rule.Quorum, over edges that come in pairs. Walk: rule.sweep, with the closure of rule.Differ, over edges that come in pairs. No condition beyond what each theorem states. -/
import Derived.Test.YteandmolnbcmmaaGreatDoorRD

namespace Go.Proofs.YteandmolnbcmmaaGreatDoor
open Go.RowKit Go.Sort

set_option maxHeartbeats 16000000 in
set_option maxRecDepth 100000 in
theorem sweepQ_calls {w : World} {lv : Value} {nb : Nat} {Ls : List (List Spell)} {S : ByteArray → List Span} (h : LsAt w lv Ls) (hL : Ls.length = 2) (hC : ∀ C ∈ Ls, C.length ≤ 100000000) (hd : ∀ C ∈ Ls, ∀ s ∈ C, s.device.size ≤ maxLen) (hnb : w.cell? ⟨nb, 0, none⟩ = some (.int .i64 2)) 
    (hS : ∀ d E, d.size ≤ maxLen → E.Perm (edL 0 Ls d) → SortedE E → Paired (S d) E ∧ TSorted (S d)) (hB : ∀ D : List ByteArray, D.Nodup → (D.flatMap fun d => (S d).map (mkE d)).length ≤ 1000000000) :
    Calls Tryz.prog 63 #[lv, .func (.func 67) #[] #[.pointer (some ⟨nb, 0, none⟩)]] w (SwPost w Ls S true) := by
  obtain ⟨i1, hi1, hy0, hy1, hy2⟩ := info_parts info34
  have HE := Lib.hid (edgesOf_calls h (by omega) hC hd)
  have HS := Lib.hid hS
  have HB := Lib.hid hB
  have HEL : Hid (∀ d, (edL 0 Ls d).length ≤ 2 * (2 * 100000000)) := Lib.hid fun d => by have := edL_le d hC; rwa [hL] at this
  have HNB := Lib.hid hnb
  obtain ⟨lb, lo, lc, rfl, hlc, _⟩ := h
  rw [hL] at hlc HE ⊢
  clear hC hd hS hB hL hnb
  have hmk := make2
  go_enter Tryz.func63, Tryz.ntmps63
  go_wp2_with fail
  refine HE.out.mono ?_
  rintro e w1 ⟨n, G, f, rfl, hG, hGE, hB1⟩
  have HG := Lib.hid hG
  have HGE := Lib.hid hGE
  have HB1 := Lib.hid hB1
  clear hG hGE hB1 HE
  go_wp2_with (at_range; refine wpList_rangeS rfl _ 162 rfl under162 rfl HG.out.map ?_; intro ob hrg)
  go_frame
  have HG2 := Lib.hid (HG.out.same (w' := w1.alloc ob) fun k h => Below.heap_alloc w1 _ k h)
  have HB2 := Lib.hid (Below.then HB1.out ((Below.refl _ w1).alloc (Nat.le_refl _) ob))
  have hw2 : (w1.alloc ob).heap.size = w1.heap.size + 1 := by simp
  have hbl : w.heap.size < w1.heap.size := HG.out.map.lt
  obtain ⟨w2, hww⟩ : ∃ W, w1.alloc ob = W := ⟨_, rfl⟩
  rw [hww] at hrg HG2 HB2 hw2 ⊢
  obtain ⟨r, hr⟩ : ∃ r, w1.heap.size = r := ⟨_, rfl⟩
  rw [hr] at hrg hw2 hbl ⊢
  have HRG := Lib.hid hrg
  have HRG0 := Lib.hid hrg
  have HW2 := Lib.hid hw2
  have HNB2 : Hid (∀ W, Keeps (fun k => k < w2.heap.size ∧ k ≠ r) w2 W → W.cell? ⟨nb, 0, none⟩ = some (.int .i64 2)) := Lib.hid fun W hK => hK.cell ⟨by have := World.block_lt_of_cell? w _ HNB.out; dsimp only at this; omega, by have := World.block_lt_of_cell? w _ HNB.out; dsimp only at this; omega⟩ ((Keeps.of_below HB2.out).cell (World.block_lt_of_cell? w _ HNB.out) HNB.out)
  clear hrg hww hr hw2 HG HB1
  go_loopw [5] (fun v wr => ∃ (D : List ByteArray) (X : List Spell), RangeIs Tryz.prog 9 wr w.heap.size r n f D ∧ Own wr w2.heap.size 34 4 v X.length (flatE encSp X) ∧ X = (D.flatMap fun d => (S d).map (mkE d)) ∧ Keeps (fun k => k < w2.heap.size ∧ k ≠ r) w2 wr) (fun _ wr => wr.rangeLeft w.heap.size r)
  case atStart => exact ⟨[], [], HRG.out, Own.nil _ _ _ _, rfl, Keeps.refl _ _⟩
  case round =>
    obtain ⟨D, X, hR, hO, hX, hK⟩ := hrel
    have HR := Lib.hid hR
    have HO := Lib.hid hO
    have HX := Lib.hid hX
    have HK := Lib.hid hK
    have HXL : Hid (X.length ≤ 1000000000) := Lib.hid (by rw [hX]; exact HB.out D hR.nodup)
    clear hR hO hX hK HRG
    go_wp2_with (at_next; refine wpList_nextS rfl _ rfl under9 rfl HR.out ?_ ?_)
    · intro hall
      have HALL := Lib.hid hall
      clear hall
      go_wp2_with fail
      refine (sort18_calls HO.out (by have := HXL.out; omega)).mono ?_
      rintro e w4 ⟨rfl, ⟨Y, hp, hs, hO4⟩, hK4⟩
      have hlen := hp.length_eq
      rw [← hlen] at hO4
      have HP := Lib.hid hp
      have HSO := Lib.hid hs
      have O4 := Lib.hid hO4
      have hbr := HW2.out
      have K4 : Hid (Keeps (· < w.heap.size) w2 w4) := Lib.hid ((HK.out.mono fun k hk => ⟨by omega, by omega⟩).trans (hK4.mono fun k (hk : k < w.heap.size) => ⟨Nat.lt_of_lt_of_le (by omega) HK.out.size, fun e => by have := (HO.out.lt k e.symm).1; omega⟩))
      clear hp hs hO4 hK4 hlen
      go_wp2_with fail
      go_ret
      refine ⟨_, D, Y, rfl, O4.out.lower (by omega), HR.out.nodup, fun d hds hne => ?_, ?_, HSO.out, HB2.out.trans K4.out.below⟩
      · rcases HG2.out.val d hds with ⟨_, h2⟩ | ⟨v, h1, _⟩
        · have := (HGE.out d hds).1
          rw [h2] at this
          exact absurd this.symm.eq_nil hne
        · exact HALL.out d v hds h1
      · rw [HX.out] at HP
        simpa using HP.out
    · intro d vd w3 hds hfd hdn hrg3 hlt3 hk3 hs3 hen
      obtain ⟨hpair, htim⟩ := HS.out d (G d) hds (HGE.out d hds).1 (HGE.out d hds).2
      have hOd := HG2.out.at_ d hds
      rw [hfd] at hOd
      replace hOd : Own w2 (w.heap.size + 1) 166 3 vd (G d).length (flatE encEd (G d)) := hOd
      have K3 := Lib.hid (HK.out.trans (hk3.mono fun k (hk : k < w2.heap.size ∧ k ≠ r) => hk.2))
      have O3 := Lib.hid (HO.out.same (w' := w3) fun g hg => hk3.block g fun e => HR.out.ne_own HO.out (by rw [hg, e]))
      have R3 := Lib.hid hrg3
      have HDS := Lib.hid hds
      have HFD := Lib.hid hfd
      have HDN : Hid (D ++ [d]).Nodup := Lib.hid hrg3.nodup
      have HLT3 := Lib.hid hlt3
      obtain ⟨E, hE⟩ : ∃ E, G d = E := ⟨_, rfl⟩
      obtain ⟨T, hT⟩ : ∃ T, S d = T := ⟨_, rfl⟩
      rw [hE] at hpair hOd
      rw [hT] at hpair htim
      have hEl := hpair.length
      obtain ⟨A, c, hvd, hcap⟩ := hOd.slice
      subst hvd
      obtain ⟨M, hM⟩ : ∃ M, T.length = M := ⟨_, rfl⟩
      rw [hM] at hEl
      obtain ⟨N, hN⟩ : ∃ N, 4 * M = N := ⟨_, rfl⟩
      rw [hN] at hEl
      have HRO : Hid (∀ g, (Value.slice A E.length c).ownBlock = some g → g ≠ r) := Lib.hid fun g hg e => HRG0.out.ne_own hOd (by rw [hg, e])
      rw [hEl] at hOd hcap hen HRO ⊢
      have hTl : (timesT T).length = 2 * M := by rw [timesT_length, hM]
      have hNb : N ≤ 1000000000000 := by
        have h1 := (HGE.out d HDS.out).1.length_eq
        rw [hE, hEl] at h1
        have h2 := HEL.out d
        omega
      have HPAIR := Lib.hid hpair
      have HTIM := Lib.hid htim
      have HOD := Lib.hid hOd
      have HT := Lib.hid hT
      have HTL := Lib.hid hTl
      have HMM := Lib.hid hM
      have hfar : w2.heap.size ≤ w3.heap.size := K3.out.size
      have hrl := HW2.out
      have SW0 := Lib.hid (SW.mk (w2 := w2) (wr := w3.alloc (.cells #[.int .i64 0, .int .i64 0] 3)) (b := w.heap.size) (r := r) (n := n) (tb := w3.heap.size) (x := 0) (y := 0) (f := f) (D := D ++ [d]) (X := X)
        (O3.out.alloc _) (Blk.new _ _ _) hfar (R3.out.same (Below.heap_alloc w3 _ _ R3.out.map.lt) (Below.heap_alloc w3 _ _ R3.out.lt)) (by omega) (by omega) (K3.out.alloc (fun k hk => Nat.lt_of_lt_of_le hk.1 K3.out.size) _))
      have SL0 : Hid ((w3.alloc (.cells #[.int .i64 0, .int .i64 0] 3)).rangeLeft w.heap.size r = w3.rangeLeft w.heap.size r) := Lib.hid (rangeLeft_same (Below.heap_alloc w3 _ _ R3.out.map.lt) (Below.heap_alloc w3 _ _ R3.out.lt))
      clear hpair htim hOd hT hTl hEl hM hE hds hfd hdn hrg3 hlt3 hk3 hs3 K3 O3 R3 HK HO HR
      go_wp2_with fail
      obtain ⟨tb, htb⟩ : ∃ tb, w3.heap.size = tb := ⟨_, rfl⟩
      obtain ⟨wa, hwa⟩ : ∃ W, w3.alloc (.cells #[.int .i64 0, .int .i64 0] 3) = W := ⟨_, rfl⟩
      rw [hwa, htb] at SW0
      rw [hwa] at SL0
      rw [hwa, htb]
      clear hfar hrl hwa htb hen hmk
      go_loopw [5, 9, 10] (fun v la i W => ∃ (vv : Value) (q i' : Nat) (l' : Int) (X' : List Spell), vv = v ∧ q ≤ 2 * M ∧ i' = 2 * q ∧ i = .int .i64 (i' : Int) ∧ la = .int .i64 l' ∧ ((q = 0 ∧ l' = -1) ∨ (0 < q ∧ l' = (X'.length : Int) - 1 ∧ 0 < X'.length)) ∧ X' = X ++ (T.take ((q + 1) / 2)).map (mkE d) ∧ SW w2 W w.heap.size r n tb ((q % 2 : Nat) : Int) ((q % 2 : Nat) : Int) f (D ++ [d]) v X' ∧ W.rangeLeft w.heap.size r = w3.rangeLeft w.heap.size r) (fun _ _ i _ => N + 1 - (intOf i).toNat)
      case atStart => exact ⟨_, 0, 0, _, X, rfl, Nat.zero_le _, rfl, rfl, rfl, .inl ⟨rfl, rfl⟩, (List.append_nil _).symm, SW0.out, SL0.out⟩
      case round =>
        obtain ⟨vv, q, i', l', X', rfl, hq, hi', rfl, rfl, hla, hX', hW, hL⟩ := hrel
        obtain ⟨A5, c5, hv5, _⟩ := hW.out.slice
        subst hv5
        have HLA := Lib.hid hla
        have HX' := Lib.hid hX'
        have HW := Lib.hid hW
        have HL := Lib.hid hL
        have HI := Lib.hid hi'
        clear hla hX' hW hL SW0 SL0 hi'
        by_cases hlt : q < 2 * M
        · obtain ⟨t, ht⟩ : ∃ t, (timesT T)[q]? = some t := ⟨(timesT T)[q]'(by rw [HTL.out]; exact hlt), List.getElem?_eq_getElem _⟩
          obtain ⟨k, hk, hee⟩ := two_at HPAIR.out HI.out ht
          obtain ⟨x, hx⟩ : ∃ x : Int, ((q % 2 : Nat) : Int) = x := ⟨_, rfl⟩
          obtain ⟨cc, hc⟩ : ∃ cc : Int, (if q % 2 = 0 then 1 else -1) = cc := ⟨_, rfl⟩
          rw [hc] at hee
          rw [hx] at HW
          have HXC : Hid ((q % 2 = 0 ∧ x = 0 ∧ cc = 1) ∨ (q % 2 = 1 ∧ x = 1 ∧ cc = -1)) := Lib.hid (by
            rcases Nat.mod_two_eq_zero_or_one q with h | h
            · left; rw [h] at hx hc; exact ⟨h, hx.symm, hc.symm⟩
            · right; rw [h] at hx hc; exact ⟨h, hx.symm, hc.symm⟩)
          obtain ⟨g, off, cap', hA, _, hgb, hgl⟩ := HOD.out.form (by omega)
          cases hA
          have HEC := Lib.hid (edgesAt HOD.out (HRO.out g rfl))
          have HEE := Lib.hid hee
          have HK := Lib.hid hk
          have HTQ := Lib.hid ht
          have hd : (i' : Int) < (N : Int) := by have := HI.out; omega
          have a0 := (HEC.out wr HW.out.kp i' _ (hee 0 (by omega))).1
          clear hx hc hee hk ht
          go_wp2_with fail
          clear a0
          go_loopw [10] (fun i W => ∃ (j i3 : Nat) (u0 u1 : Int), j ≤ 2 ∧ i3 = i' + j ∧ i = .int .i64 (i3 : Int) ∧ ST j k x cc u0 u1 ∧ SW w2 W w.heap.size r n tb u0 u1 f (D ++ [d]) (.slice A5 X'.length c5) X' ∧ W.rangeLeft w.heap.size r = w3.rangeLeft w.heap.size r) (fun i _ => N + 1 - (intOf i).toNat)
          case atStart => exact ⟨0, i', x, x, by omega, rfl, rfl, .inl ⟨rfl, rfl, rfl⟩, HW.out, HL.out⟩
          case round =>
            obtain ⟨j, i3, u0, u1, hj, hi3, rfl, hST, hW, hL⟩ := hrel
            clear HW HL
            have HW := Lib.hid hW
            have HL := Lib.hid hL
            have HST := Lib.hid hST
            obtain ⟨hb1, hb2, hb3, hb4⟩ := hST.bound (by rcases HXC.out with h | h <;> omega) (by rcases HXC.out with h | h <;> omega)
            have th0 : wr.cell? ⟨tb, 0, none⟩ = some (.int .i64 u0) := hW.th.cell 0
            have th1 : wr.cell? ⟨tb, 1, none⟩ = some (.int .i64 u1) := hW.th.cell 1
            have HI3 := Lib.hid hi3
            clear hW hL hST hi3
            by_cases hj2 : j < 2
            · have hd3 : (i3 : Int) < (N : Int) := by have := HI.out; have := HI3.out; omega
              have x1 : IntKind.i64.wrap ((i3 : Int) + 1) = (i3 : Int) + 1 := IntWalk.i64_in _ (by omega)
              have hcc : cc = 1 ∨ cc = -1 := by rcases HXC.out with h | h <;> omega
              have he := HEE.out j hj2
              rw [← HI3.out] at he
              obtain ⟨a0, a1, a2⟩ := HEC.out wr HW.out.kp i3 _ he
              dsimp only at a0 a1 a2
              rcases HST.out.next hj2 HK.out with ⟨hk0, hn⟩ | ⟨hk0, hn⟩
              · rw [hk0] at a1
                have HN := Lib.hid hn
                have x2 : IntKind.i64.wrap (u0 + cc) = u0 + cc := IntWalk.i64_in _ (by omega)
                have f0 : wr.frozen? ⟨tb, 0, none⟩ = false := HW.out.th.frozen 0
                clear hn he hk0
                go_wp2_with fail
                go_region
                go_wp2_with fail
                exact ⟨⟨j + 1, i3 + 1, u0 + cc, u1, by omega, by have := HI3.out; omega, by go_num, HN.out, (HW.out.put0 _).drew, (left_set _ (fun e => by have := HW.out.blt; have := HW.out.far; have e' : w.heap.size = tb := e; omega) (fun e => by have := HW.out.rlt; have := HW.out.far; have e' : r = tb := e; omega)).trans HL.out⟩, by simp [intOf]; omega⟩
              · rw [hk0] at a1
                have HN := Lib.hid hn
                have x2 : IntKind.i64.wrap (u1 + cc) = u1 + cc := IntWalk.i64_in _ (by omega)
                have f0 : wr.frozen? ⟨tb, 1, none⟩ = false := HW.out.th.frozen 1
                clear hn he hk0
                go_wp2_with fail
                go_region
                go_wp2_with fail
                exact ⟨⟨j + 1, i3 + 1, u0, u1 + cc, by omega, by have := HI3.out; omega, by go_num, HN.out, (HW.out.put1 _).drew, (left_set _ (fun e => by have := HW.out.blt; have := HW.out.far; have e' : w.heap.size = tb := e; omega) (fun e => by have := HW.out.rlt; have := HW.out.far; have e' : r = tb := e; omega)).trans HL.out⟩, by simp [intOf]; omega⟩
            · have hj' : j = 2 := by omega
              subst hj'
              obtain ⟨rfl, rfl⟩ := HST.out.done
              clear HST hb1 hb2 hb3 hb4
              by_cases hnx : q + 1 < 2 * M
              · obtain ⟨t', ht'⟩ : ∃ t', (timesT T)[q + 1]? = some t' := ⟨(timesT T)[q + 1]'(by rw [HTL.out]; exact hnx), List.getElem?_eq_getElem _⟩
                obtain ⟨k', _, hee'⟩ := two_at HPAIR.out (q := q + 1) (i' := i3) (by have := HI.out; have := HI3.out; omega) ht'
                have htt : t < t' := times_lt HTIM.out HTQ.out ht'
                have hnt : ¬ t' = t := by omega
                have HEE' := Lib.hid (hee' 0 (by omega))
                have a0 := (HEC.out wr HW.out.kp i3 _ HEE'.out).1
                have hd3 : (i3 : Int) < (N : Int) := by have := HI.out; have := HI3.out; omega
                have hiN : ¬ (i3 : Int) = (N : Int) := by omega
                have HTQ' := Lib.hid ht'
                clear hee' ht' htt
                rcases HXC.out with ⟨hp, rfl, rfl⟩ | ⟨hp, rfl, rfl⟩
                · have t0 : wr.cell? ⟨tb, 0, none⟩ = some (.int .i64 1) := th0
                  have t1 : wr.cell? ⟨tb, 1, none⟩ = some (.int .i64 1) := th1
                  have HQ := Lib.hid (quorumC1_calls t0 t1 (HNB2.out wr HW.out.kp))
                  clear th0 th1 t0 t1
                  go_wp2_with fail
                  refine HQ.out.mono ?_
                  rintro e w9 ⟨rfl, hg9⟩
                  have HW9 := Lib.hid (HW.out.grows hg9)
                  have HL9 := Lib.hid ((HW.out.left (Keeps.of_grows hg9 fun _ h => h)).trans HL.out)
                  clear hg9 HQ a0
                  obtain ⟨m, hm⟩ : ∃ m, q = 2 * m := ⟨q / 2, by omega⟩
                  obtain ⟨s, hs⟩ : ∃ s, T[m]? = some s := ⟨T[m]'(by rw [HMM.out]; omega), List.getElem?_eq_getElem _⟩
                  have hs12 := timesT_even hs
                  rw [← hm, HTQ.out, HTQ'.out] at hs12
                  obtain ⟨hs1, hs2⟩ := hs12
                  have e1 : t = s.1 := Option.some.inj hs1
                  have e2 : t' = s.2 := Option.some.inj hs2
                  have HXN : Hid (X' ++ [mkE d s] = X ++ (T.take ((q + 1 + 1) / 2)).map (mkE d)) := Lib.hid (by
                    rw [HX'.out, show (q + 1) / 2 = m by omega, show (q + 1 + 1) / 2 = m + 1 by omega, List.take_add_one, hs, List.map_append, ← List.append_assoc]
                    rfl)
                  have HMK : Hid (encSp (mkE d s) = [.string d, .string ⟨#[]⟩, .int .i64 t, .int .i64 t']) := Lib.hid (by rw [e1, e2]; rfl)
                  have HM := Lib.hid hm
                  have HS12 := Lib.hid e1
                  have hXb : X'.length ≤ 1000000000000 := by rw [HX'.out, List.length_append, List.length_map, List.length_take]; have := HXL.out; have := HMM.out; omega
                  have a0 := (HEC.out w9 HW9.out.kp i3 _ HEE'.out).1
                  dsimp only at a0
                  have hxq : (((q + 1) % 2 : Nat) : Int) = (0 : Int) + 1 := by omega
                  have HXQ := Lib.hid hxq
                  clear hs hs1 hs2 e1 e2 hm hxq
                  rcases HLA.out with ⟨hq0, hl⟩ | ⟨hq0, hl, hXp⟩
                  · subst hl
                    go_wp2_with (at_builtin; refine wpList_append_Own _ (by rfl) _ _ _ (by rfl) w2.heap.size 34 i1 _ 4 48 under26 hi1 hy0 hy1 hy2 rfl (by omega) _ _ _ (by rfl) (HW9.out.out.alloc _) ⟨w9.heap.size, 0, none⟩ 1 1 [.string d, .string ⟨#[]⟩, .int .i64 t, .int .i64 t'] (by rfl) (by rfl) (World.news_of_block (cs := #[.string d, .string ⟨#[]⟩, .int .i64 t, .int .i64 t']) (t := 34) (fr := (0, 0)) (heap_alloc_new w9 _)) (by simp [Value.oneCell']) (by unfold maxLen; omega) (by omega) (by have := HW9.out.kp.size; simp; omega) ?_; intro v' w10 hown10 hgrow hfr)
                    have HW10 : Hid (SW w2 w10 w.heap.size r n tb (0 + 1) (0 + 1) f (D ++ [d]) v' (X' ++ [mkE d s])) := Lib.hid ((HW9.out.alloc _).app hgrow (by rw [flatE, List.flatMap_append, List.length_append, List.flatMap_cons, List.flatMap_nil, List.append_nil, HMK.out]; exact hown10))
                    have HL10 : Hid (w10.rangeLeft w.heap.size r = w3.rangeLeft w.heap.size r) := Lib.hid (((HW9.out.alloc _).left_app hgrow).trans ((HW9.out.left ((Keeps.refl _ w9).alloc (fun _ h => h) _)).trans HL9.out))
                    clear hown10 hgrow hfr
                    go_wp2_with fail
                    exact ⟨⟨_, q + 1, i3, _, X' ++ [mkE d s], rfl, by omega, by have := HI.out; have := HI3.out; omega, rfl, rfl, .inr ⟨by omega, by rw [List.length_append, List.length_singleton]; omega, by simp⟩, HXN.out, by rw [HXQ.out]; exact HW10.out, HL10.out⟩, by have := HI3.out; simp [intOf]; omega⟩
                  · obtain ⟨og, oo, oc, hov, _⟩ := HW9.out.out.form hXp
                    cases hov
                    obtain ⟨m1, hm1⟩ : ∃ m1, m = m1 + 1 := ⟨m - 1, by have := HM.out; omega⟩
                    obtain ⟨s0, hs0⟩ : ∃ s0, T[m1]? = some s0 := ⟨T[m1]'(by have := HMM.out; have := HM.out; omega), List.getElem?_eq_getElem _⟩
                    have hlast : X'[X'.length - 1]? = some (mkE d s0) := by
                      have e3 : X' = (X ++ (T.take m1).map (mkE d)) ++ [mkE d s0] := by
                        rw [HX'.out, show (q + 1) / 2 = m1 + 1 by have := HM.out; omega, List.take_add_one, hs0, List.map_append, ← List.append_assoc]
                        rfl
                      rw [e3, List.length_append, List.length_singleton, Nat.add_sub_cancel, List.getElem?_append_right (Nat.le_refl _), Nat.sub_self]
                      rfl
                    have hto : s0.2 < t := by
                      have h1 := (timesT_even hs0).2
                      exact times_lt (q := 2 * m1 + 1) HTIM.out h1 (by rw [show 2 * m1 + 1 + 1 = q by have := HM.out; omega]; exact HTQ.out)
                    obtain ⟨p, hpp⟩ : ∃ p, X'.length - 1 = p := ⟨_, rfl⟩
                    rw [hpp] at hlast
                    have hl2 : l' = (p : Int) := by omega
                    subst hl2
                    have hpl : p < X'.length := by omega
                    have hpi : (p : Int) < (X'.length : Int) := by omega
                    have hnto : ¬ s0.2 = t := by omega
                    have b0 : w9.cell? ⟨og, oo + p * 4 + 3, none⟩ = some (.int .i64 s0.2) := by rw [Nat.add_assoc]; exact HW9.out.out.cell _ _ (flatE_get encSp_len _ _ _ hlast 3 _ rfl)
                    clear hlast hs0 hm1 hto hl hXp hpp
                    go_wp2_with (at_builtin; refine wpList_append_Own _ (by rfl) _ _ _ (by rfl) w2.heap.size 34 i1 _ 4 48 under26 hi1 hy0 hy1 hy2 rfl (by omega) _ _ _ (by rfl) (HW9.out.out.alloc _) ⟨w9.heap.size, 0, none⟩ 1 1 [.string d, .string ⟨#[]⟩, .int .i64 t, .int .i64 t'] (by rfl) (by rfl) (World.news_of_block (cs := #[.string d, .string ⟨#[]⟩, .int .i64 t, .int .i64 t']) (t := 34) (fr := (0, 0)) (heap_alloc_new w9 _)) (by simp [Value.oneCell']) (by unfold maxLen; omega) (by omega) (by have := HW9.out.kp.size; simp; omega) ?_; intro v' w10 hown10 hgrow hfr)
                    have HW10 : Hid (SW w2 w10 w.heap.size r n tb (0 + 1) (0 + 1) f (D ++ [d]) v' (X' ++ [mkE d s])) := Lib.hid ((HW9.out.alloc _).app hgrow (by rw [flatE, List.flatMap_append, List.length_append, List.flatMap_cons, List.flatMap_nil, List.append_nil, HMK.out]; exact hown10))
                    have HL10 : Hid (w10.rangeLeft w.heap.size r = w3.rangeLeft w.heap.size r) := Lib.hid (((HW9.out.alloc _).left_app hgrow).trans ((HW9.out.left ((Keeps.refl _ w9).alloc (fun _ h => h) _)).trans HL9.out))
                    clear hown10 hgrow hfr
                    go_wp2_with fail
                    exact ⟨⟨_, q + 1, i3, _, X' ++ [mkE d s], rfl, by omega, by have := HI.out; have := HI3.out; omega, rfl, rfl, .inr ⟨by omega, by rw [List.length_append, List.length_singleton]; omega, by simp⟩, HXN.out, by rw [HXQ.out]; exact HW10.out, HL10.out⟩, by have := HI3.out; simp [intOf]; omega⟩
                · have t0 : wr.cell? ⟨tb, 0, none⟩ = some (.int .i64 0) := th0
                  have t1 : wr.cell? ⟨tb, 1, none⟩ = some (.int .i64 0) := th1
                  have HQ := Lib.hid (quorumC0_calls t0 t1 (HNB2.out wr HW.out.kp))
                  clear th0 th1 t0 t1
                  go_wp2_with fail
                  refine HQ.out.mono ?_
                  rintro e w9 ⟨rfl, hg9⟩
                  have HW9 := Lib.hid (HW.out.grows hg9)
                  have HL9 := Lib.hid ((HW.out.left (Keeps.of_grows hg9 fun _ h => h)).trans HL.out)
                  clear hg9 HQ a0
                  go_wp2_with fail
                  have hxq : (((q + 1) % 2 : Nat) : Int) = (1 : Int) + -1 := by omega
                  exact ⟨⟨_, q + 1, i3, _, X', rfl, by omega, by have := HI.out; have := HI3.out; omega, rfl, rfl, .inr (by rcases HLA.out with ⟨h, _⟩ | ⟨_, h⟩ <;> first | exact absurd h (by omega) | exact ⟨by omega, h⟩), (by rw [HX'.out, show (q + 1 + 1) / 2 = (q + 1) / 2 by omega]), by rw [hxq]; exact HW9.out, HL9.out⟩, by have := HI3.out; simp [intOf]; omega⟩
              · have hd3 : ¬ (i3 : Int) < (N : Int) := by have := HI.out; have := HI3.out; omega
                rcases HXC.out with ⟨hp, rfl, rfl⟩ | ⟨hp, rfl, rfl⟩
                · omega
                · have t0 : wr.cell? ⟨tb, 0, none⟩ = some (.int .i64 0) := th0
                  have t1 : wr.cell? ⟨tb, 1, none⟩ = some (.int .i64 0) := th1
                  have HQ := Lib.hid (quorumC0_calls t0 t1 (HNB2.out wr HW.out.kp))
                  clear th0 th1 t0 t1
                  go_wp2_with fail
                  refine HQ.out.mono ?_
                  rintro e w9 ⟨rfl, hg9⟩
                  have HW9 := Lib.hid (HW.out.grows hg9)
                  have HL9 := Lib.hid ((HW.out.left (Keeps.of_grows hg9 fun _ h => h)).trans HL.out)
                  clear hg9 HQ
                  go_wp2_with fail
                  have hxq : (((q + 1) % 2 : Nat) : Int) = (1 : Int) + -1 := by omega
                  exact ⟨⟨_, q + 1, i3, _, X', rfl, by omega, by have := HI.out; have := HI3.out; omega, rfl, rfl, .inr (by rcases HLA.out with ⟨h, _⟩ | ⟨_, h⟩ <;> first | exact absurd h (by omega) | exact ⟨by omega, h⟩), (by rw [HX'.out, show (q + 1 + 1) / 2 = (q + 1) / 2 by omega]), by rw [hxq]; exact HW9.out, HL9.out⟩, by have := HI3.out; simp [intOf]; omega⟩
        · have hqM : q = 2 * M := by omega
          have hd : ¬ (i' : Int) < (N : Int) := by have := HI.out; omega
          go_wp2_with fail
          go_roundw
          case rel => exact ⟨D ++ [d], X', HW.out.rng, HW.out.out, (by rw [HX'.out, hqM, show (2 * M + 1) / 2 = M by omega, ← HMM.out, List.take_length, HX.out, ← HT.out, List.flatMap_append, List.flatMap_cons, List.flatMap_nil, List.append_nil]), HW.out.kp⟩
          case measure => have := HL.out; have := HLT3.out; omega

end Go.Proofs.YteandmolnbcmmaaGreatDoor

namespace Go.Proofs.YteandmolnbcmmaaGreatDoor
open Go.RowKit Go.Sort

set_option maxHeartbeats 16000000 in
set_option maxRecDepth 100000 in
theorem sweepD_calls {w : World} {lv : Value} {p1 p2 : Value} {Ls : List (List Spell)} {S : ByteArray → List Span} (h : LsAt w lv Ls) (hL : Ls.length = 2) (hC : ∀ C ∈ Ls, C.length ≤ 100000000) (hd : ∀ C ∈ Ls, ∀ s ∈ C, s.device.size ≤ maxLen) 
    (hS : ∀ d E, d.size ≤ maxLen → E.Perm (edL 0 Ls d) → SortedE E → Paired (S d) E ∧ TSorted (S d)) (hB : ∀ D : List ByteArray, D.Nodup → (D.flatMap fun d => (S d).map (mkE d)).length ≤ 1000000000) :
    Calls Tryz.prog 63 #[lv, .func (.func 64) #[] #[p1, p2]] w (SwPost w Ls S false) := by
  obtain ⟨i1, hi1, hy0, hy1, hy2⟩ := info_parts info34
  have HE := Lib.hid (edgesOf_calls h (by omega) hC hd)
  have HS := Lib.hid hS
  have HB := Lib.hid hB
  have HEL : Hid (∀ d, (edL 0 Ls d).length ≤ 2 * (2 * 100000000)) := Lib.hid fun d => by have := edL_le d hC; rwa [hL] at this
  obtain ⟨lb, lo, lc, rfl, hlc, _⟩ := h
  rw [hL] at hlc HE ⊢
  clear hC hd hS hB hL
  have hmk := make2
  go_enter Tryz.func63, Tryz.ntmps63
  go_wp2_with fail
  refine HE.out.mono ?_
  rintro e w1 ⟨n, G, f, rfl, hG, hGE, hB1⟩
  have HG := Lib.hid hG
  have HGE := Lib.hid hGE
  have HB1 := Lib.hid hB1
  clear hG hGE hB1 HE
  go_wp2_with (at_range; refine wpList_rangeS rfl _ 162 rfl under162 rfl HG.out.map ?_; intro ob hrg)
  go_frame
  have HG2 := Lib.hid (HG.out.same (w' := w1.alloc ob) fun k h => Below.heap_alloc w1 _ k h)
  have HB2 := Lib.hid (Below.then HB1.out ((Below.refl _ w1).alloc (Nat.le_refl _) ob))
  have hw2 : (w1.alloc ob).heap.size = w1.heap.size + 1 := by simp
  have hbl : w.heap.size < w1.heap.size := HG.out.map.lt
  obtain ⟨w2, hww⟩ : ∃ W, w1.alloc ob = W := ⟨_, rfl⟩
  rw [hww] at hrg HG2 HB2 hw2 ⊢
  obtain ⟨r, hr⟩ : ∃ r, w1.heap.size = r := ⟨_, rfl⟩
  rw [hr] at hrg hw2 hbl ⊢
  have HRG := Lib.hid hrg
  have HRG0 := Lib.hid hrg
  have HW2 := Lib.hid hw2
  clear hrg hww hr hw2 HG HB1
  go_loopw [5] (fun v wr => ∃ (D : List ByteArray) (X : List Spell), RangeIs Tryz.prog 9 wr w.heap.size r n f D ∧ Own wr w2.heap.size 34 4 v X.length (flatE encSp X) ∧ X = ([]) ∧ Keeps (fun k => k < w2.heap.size ∧ k ≠ r) w2 wr) (fun _ wr => wr.rangeLeft w.heap.size r)
  case atStart => exact ⟨[], [], HRG.out, Own.nil _ _ _ _, rfl, Keeps.refl _ _⟩
  case round =>
    obtain ⟨D, X, hR, hO, hX, hK⟩ := hrel
    have HR := Lib.hid hR
    have HO := Lib.hid hO
    have HX := Lib.hid hX
    have HK := Lib.hid hK
    have HXL : Hid (X.length ≤ 1000000000) := Lib.hid (by rw [hX]; simp)
    clear hR hO hX hK HRG
    go_wp2_with (at_next; refine wpList_nextS rfl _ rfl under9 rfl HR.out ?_ ?_)
    · intro hall
      have HALL := Lib.hid hall
      clear hall
      go_wp2_with fail
      refine (sort18_calls HO.out (by have := HXL.out; omega)).mono ?_
      rintro e w4 ⟨rfl, ⟨Y, hp, hs, hO4⟩, hK4⟩
      have hlen := hp.length_eq
      rw [← hlen] at hO4
      have HP := Lib.hid hp
      have HSO := Lib.hid hs
      have O4 := Lib.hid hO4
      have hbr := HW2.out
      have K4 : Hid (Keeps (· < w.heap.size) w2 w4) := Lib.hid ((HK.out.mono fun k hk => ⟨by omega, by omega⟩).trans (hK4.mono fun k (hk : k < w.heap.size) => ⟨Nat.lt_of_lt_of_le (by omega) HK.out.size, fun e => by have := (HO.out.lt k e.symm).1; omega⟩))
      clear hp hs hO4 hK4 hlen
      go_wp2_with fail
      go_ret
      refine ⟨_, D, Y, rfl, O4.out.lower (by omega), HR.out.nodup, fun d hds hne => ?_, ?_, HSO.out, HB2.out.trans K4.out.below⟩
      · rcases HG2.out.val d hds with ⟨_, h2⟩ | ⟨v, h1, _⟩
        · have := (HGE.out d hds).1
          rw [h2] at this
          exact absurd this.symm.eq_nil hne
        · exact HALL.out d v hds h1
      · rw [HX.out] at HP
        simpa using HP.out
    · intro d vd w3 hds hfd hdn hrg3 hlt3 hk3 hs3 hen
      obtain ⟨hpair, htim⟩ := HS.out d (G d) hds (HGE.out d hds).1 (HGE.out d hds).2
      have hOd := HG2.out.at_ d hds
      rw [hfd] at hOd
      replace hOd : Own w2 (w.heap.size + 1) 166 3 vd (G d).length (flatE encEd (G d)) := hOd
      have K3 := Lib.hid (HK.out.trans (hk3.mono fun k (hk : k < w2.heap.size ∧ k ≠ r) => hk.2))
      have O3 := Lib.hid (HO.out.same (w' := w3) fun g hg => hk3.block g fun e => HR.out.ne_own HO.out (by rw [hg, e]))
      have R3 := Lib.hid hrg3
      have HDS := Lib.hid hds
      have HFD := Lib.hid hfd
      have HDN : Hid (D ++ [d]).Nodup := Lib.hid hrg3.nodup
      have HLT3 := Lib.hid hlt3
      obtain ⟨E, hE⟩ : ∃ E, G d = E := ⟨_, rfl⟩
      obtain ⟨T, hT⟩ : ∃ T, S d = T := ⟨_, rfl⟩
      rw [hE] at hpair hOd
      rw [hT] at hpair htim
      have hEl := hpair.length
      obtain ⟨A, c, hvd, hcap⟩ := hOd.slice
      subst hvd
      obtain ⟨M, hM⟩ : ∃ M, T.length = M := ⟨_, rfl⟩
      rw [hM] at hEl
      obtain ⟨N, hN⟩ : ∃ N, 4 * M = N := ⟨_, rfl⟩
      rw [hN] at hEl
      have HRO : Hid (∀ g, (Value.slice A E.length c).ownBlock = some g → g ≠ r) := Lib.hid fun g hg e => HRG0.out.ne_own hOd (by rw [hg, e])
      rw [hEl] at hOd hcap hen HRO ⊢
      have hTl : (timesT T).length = 2 * M := by rw [timesT_length, hM]
      have hNb : N ≤ 1000000000000 := by
        have h1 := (HGE.out d HDS.out).1.length_eq
        rw [hE, hEl] at h1
        have h2 := HEL.out d
        omega
      have HPAIR := Lib.hid hpair
      have HTIM := Lib.hid htim
      have HOD := Lib.hid hOd
      have HT := Lib.hid hT
      have HTL := Lib.hid hTl
      have HMM := Lib.hid hM
      have hfar : w2.heap.size ≤ w3.heap.size := K3.out.size
      have hrl := HW2.out
      have SW0 := Lib.hid (SW.mk (w2 := w2) (wr := w3.alloc (.cells #[.int .i64 0, .int .i64 0] 3)) (b := w.heap.size) (r := r) (n := n) (tb := w3.heap.size) (x := 0) (y := 0) (f := f) (D := D ++ [d]) (X := X)
        (O3.out.alloc _) (Blk.new _ _ _) hfar (R3.out.same (Below.heap_alloc w3 _ _ R3.out.map.lt) (Below.heap_alloc w3 _ _ R3.out.lt)) (by omega) (by omega) (K3.out.alloc (fun k hk => Nat.lt_of_lt_of_le hk.1 K3.out.size) _))
      have SL0 : Hid ((w3.alloc (.cells #[.int .i64 0, .int .i64 0] 3)).rangeLeft w.heap.size r = w3.rangeLeft w.heap.size r) := Lib.hid (rangeLeft_same (Below.heap_alloc w3 _ _ R3.out.map.lt) (Below.heap_alloc w3 _ _ R3.out.lt))
      clear hpair htim hOd hT hTl hEl hM hE hds hfd hdn hrg3 hlt3 hk3 hs3 K3 O3 R3 HK HO HR
      go_wp2_with fail
      obtain ⟨tb, htb⟩ : ∃ tb, w3.heap.size = tb := ⟨_, rfl⟩
      obtain ⟨wa, hwa⟩ : ∃ W, w3.alloc (.cells #[.int .i64 0, .int .i64 0] 3) = W := ⟨_, rfl⟩
      rw [hwa, htb] at SW0
      rw [hwa] at SL0
      rw [hwa, htb]
      clear hfar hrl hwa htb hen hmk
      go_loopw [5, 9, 10] (fun v la i W => ∃ (vv : Value) (q i' : Nat) (l' : Int) (X' : List Spell), vv = v ∧ q ≤ 2 * M ∧ i' = 2 * q ∧ i = .int .i64 (i' : Int) ∧ la = .int .i64 l' ∧ l' = -1 ∧ X' = [] ∧ SW w2 W w.heap.size r n tb ((q % 2 : Nat) : Int) ((q % 2 : Nat) : Int) f (D ++ [d]) v X' ∧ W.rangeLeft w.heap.size r = w3.rangeLeft w.heap.size r) (fun _ _ i _ => N + 1 - (intOf i).toNat)
      case atStart => exact ⟨_, 0, 0, _, X, rfl, Nat.zero_le _, rfl, rfl, rfl, rfl, HX.out, SW0.out, SL0.out⟩
      case round =>
        obtain ⟨vv, q, i', l', X', rfl, hq, hi', rfl, rfl, hla, hX', hW, hL⟩ := hrel
        obtain ⟨A5, c5, hv5, _⟩ := hW.out.slice
        subst hv5
        have HLA := Lib.hid hla
        have HX' := Lib.hid hX'
        have HW := Lib.hid hW
        have HL := Lib.hid hL
        have HI := Lib.hid hi'
        clear hla hX' hW hL SW0 SL0 hi'
        by_cases hlt : q < 2 * M
        · obtain ⟨t, ht⟩ : ∃ t, (timesT T)[q]? = some t := ⟨(timesT T)[q]'(by rw [HTL.out]; exact hlt), List.getElem?_eq_getElem _⟩
          obtain ⟨k, hk, hee⟩ := two_at HPAIR.out HI.out ht
          obtain ⟨x, hx⟩ : ∃ x : Int, ((q % 2 : Nat) : Int) = x := ⟨_, rfl⟩
          obtain ⟨cc, hc⟩ : ∃ cc : Int, (if q % 2 = 0 then 1 else -1) = cc := ⟨_, rfl⟩
          rw [hc] at hee
          rw [hx] at HW
          have HXC : Hid ((q % 2 = 0 ∧ x = 0 ∧ cc = 1) ∨ (q % 2 = 1 ∧ x = 1 ∧ cc = -1)) := Lib.hid (by
            rcases Nat.mod_two_eq_zero_or_one q with h | h
            · left; rw [h] at hx hc; exact ⟨h, hx.symm, hc.symm⟩
            · right; rw [h] at hx hc; exact ⟨h, hx.symm, hc.symm⟩)
          obtain ⟨g, off, cap', hA, _, hgb, hgl⟩ := HOD.out.form (by omega)
          cases hA
          have HEC := Lib.hid (edgesAt HOD.out (HRO.out g rfl))
          have HEE := Lib.hid hee
          have HK := Lib.hid hk
          have HTQ := Lib.hid ht
          have hd : (i' : Int) < (N : Int) := by have := HI.out; omega
          have a0 := (HEC.out wr HW.out.kp i' _ (hee 0 (by omega))).1
          clear hx hc hee hk ht
          go_wp2_with fail
          clear a0
          go_loopw [10] (fun i W => ∃ (j i3 : Nat) (u0 u1 : Int), j ≤ 2 ∧ i3 = i' + j ∧ i = .int .i64 (i3 : Int) ∧ ST j k x cc u0 u1 ∧ SW w2 W w.heap.size r n tb u0 u1 f (D ++ [d]) (.slice A5 X'.length c5) X' ∧ W.rangeLeft w.heap.size r = w3.rangeLeft w.heap.size r) (fun i _ => N + 1 - (intOf i).toNat)
          case atStart => exact ⟨0, i', x, x, by omega, rfl, rfl, .inl ⟨rfl, rfl, rfl⟩, HW.out, HL.out⟩
          case round =>
            obtain ⟨j, i3, u0, u1, hj, hi3, rfl, hST, hW, hL⟩ := hrel
            clear HW HL
            have HW := Lib.hid hW
            have HL := Lib.hid hL
            have HST := Lib.hid hST
            obtain ⟨hb1, hb2, hb3, hb4⟩ := hST.bound (by rcases HXC.out with h | h <;> omega) (by rcases HXC.out with h | h <;> omega)
            have th0 : wr.cell? ⟨tb, 0, none⟩ = some (.int .i64 u0) := hW.th.cell 0
            have th1 : wr.cell? ⟨tb, 1, none⟩ = some (.int .i64 u1) := hW.th.cell 1
            have HI3 := Lib.hid hi3
            clear hW hL hST hi3
            by_cases hj2 : j < 2
            · have hd3 : (i3 : Int) < (N : Int) := by have := HI.out; have := HI3.out; omega
              have x1 : IntKind.i64.wrap ((i3 : Int) + 1) = (i3 : Int) + 1 := IntWalk.i64_in _ (by omega)
              have hcc : cc = 1 ∨ cc = -1 := by rcases HXC.out with h | h <;> omega
              have he := HEE.out j hj2
              rw [← HI3.out] at he
              obtain ⟨a0, a1, a2⟩ := HEC.out wr HW.out.kp i3 _ he
              dsimp only at a0 a1 a2
              rcases HST.out.next hj2 HK.out with ⟨hk0, hn⟩ | ⟨hk0, hn⟩
              · rw [hk0] at a1
                have HN := Lib.hid hn
                have x2 : IntKind.i64.wrap (u0 + cc) = u0 + cc := IntWalk.i64_in _ (by omega)
                have f0 : wr.frozen? ⟨tb, 0, none⟩ = false := HW.out.th.frozen 0
                clear hn he hk0
                go_wp2_with fail
                go_region
                go_wp2_with fail
                exact ⟨⟨j + 1, i3 + 1, u0 + cc, u1, by omega, by have := HI3.out; omega, by go_num, HN.out, (HW.out.put0 _).drew, (left_set _ (fun e => by have := HW.out.blt; have := HW.out.far; have e' : w.heap.size = tb := e; omega) (fun e => by have := HW.out.rlt; have := HW.out.far; have e' : r = tb := e; omega)).trans HL.out⟩, by simp [intOf]; omega⟩
              · rw [hk0] at a1
                have HN := Lib.hid hn
                have x2 : IntKind.i64.wrap (u1 + cc) = u1 + cc := IntWalk.i64_in _ (by omega)
                have f0 : wr.frozen? ⟨tb, 1, none⟩ = false := HW.out.th.frozen 1
                clear hn he hk0
                go_wp2_with fail
                go_region
                go_wp2_with fail
                exact ⟨⟨j + 1, i3 + 1, u0, u1 + cc, by omega, by have := HI3.out; omega, by go_num, HN.out, (HW.out.put1 _).drew, (left_set _ (fun e => by have := HW.out.blt; have := HW.out.far; have e' : w.heap.size = tb := e; omega) (fun e => by have := HW.out.rlt; have := HW.out.far; have e' : r = tb := e; omega)).trans HL.out⟩, by simp [intOf]; omega⟩
            · have hj' : j = 2 := by omega
              subst hj'
              obtain ⟨rfl, rfl⟩ := HST.out.done
              clear HST hb1 hb2 hb3 hb4
              by_cases hnx : q + 1 < 2 * M
              · obtain ⟨t', ht'⟩ : ∃ t', (timesT T)[q + 1]? = some t' := ⟨(timesT T)[q + 1]'(by rw [HTL.out]; exact hnx), List.getElem?_eq_getElem _⟩
                obtain ⟨k', _, hee'⟩ := two_at HPAIR.out (q := q + 1) (i' := i3) (by have := HI.out; have := HI3.out; omega) ht'
                have htt : t < t' := times_lt HTIM.out HTQ.out ht'
                have hnt : ¬ t' = t := by omega
                have HEE' := Lib.hid (hee' 0 (by omega))
                have a0 := (HEC.out wr HW.out.kp i3 _ HEE'.out).1
                have hd3 : (i3 : Int) < (N : Int) := by have := HI.out; have := HI3.out; omega
                have hiN : ¬ (i3 : Int) = (N : Int) := by omega
                have HTQ' := Lib.hid ht'
                clear hee' ht' htt
                rcases HXC.out with ⟨hp, rfl, rfl⟩ | ⟨hp, rfl, rfl⟩
                · have t0 : wr.cell? ⟨tb, 0, none⟩ = some (.int .i64 1) := th0
                  have t1 : wr.cell? ⟨tb, 1, none⟩ = some (.int .i64 1) := th1
                  have HQ := Lib.hid (differC_calls (p1 := p1) (p2 := p2) t0 t1)
                  clear th0 th1 t0 t1
                  go_wp2_with fail
                  refine HQ.out.mono ?_
                  rintro e w9 ⟨rfl, hg9⟩
                  have HW9 := Lib.hid (HW.out.grows hg9)
                  have HL9 := Lib.hid ((HW.out.left (Keeps.of_grows hg9 fun _ h => h)).trans HL.out)
                  clear hg9 HQ a0
                  go_wp2_with fail
                  have hxq : (((q + 1) % 2 : Nat) : Int) = (0 : Int) + 1 := by omega
                  exact ⟨⟨_, q + 1, i3, _, X', rfl, by omega, by have := HI.out; have := HI3.out; omega, rfl, rfl, HLA.out, HX'.out, by rw [hxq]; exact HW9.out, HL9.out⟩, by have := HI3.out; simp [intOf]; omega⟩
                · have t0 : wr.cell? ⟨tb, 0, none⟩ = some (.int .i64 0) := th0
                  have t1 : wr.cell? ⟨tb, 1, none⟩ = some (.int .i64 0) := th1
                  have HQ := Lib.hid (differC_calls (p1 := p1) (p2 := p2) t0 t1)
                  clear th0 th1 t0 t1
                  go_wp2_with fail
                  refine HQ.out.mono ?_
                  rintro e w9 ⟨rfl, hg9⟩
                  have HW9 := Lib.hid (HW.out.grows hg9)
                  have HL9 := Lib.hid ((HW.out.left (Keeps.of_grows hg9 fun _ h => h)).trans HL.out)
                  clear hg9 HQ a0
                  go_wp2_with fail
                  have hxq : (((q + 1) % 2 : Nat) : Int) = (1 : Int) + -1 := by omega
                  exact ⟨⟨_, q + 1, i3, _, X', rfl, by omega, by have := HI.out; have := HI3.out; omega, rfl, rfl, HLA.out, HX'.out, by rw [hxq]; exact HW9.out, HL9.out⟩, by have := HI3.out; simp [intOf]; omega⟩
              · have hd3 : ¬ (i3 : Int) < (N : Int) := by have := HI.out; have := HI3.out; omega
                rcases HXC.out with ⟨hp, rfl, rfl⟩ | ⟨hp, rfl, rfl⟩
                · omega
                · have t0 : wr.cell? ⟨tb, 0, none⟩ = some (.int .i64 0) := th0
                  have t1 : wr.cell? ⟨tb, 1, none⟩ = some (.int .i64 0) := th1
                  have HQ := Lib.hid (differC_calls (p1 := p1) (p2 := p2) t0 t1)
                  clear th0 th1 t0 t1
                  go_wp2_with fail
                  refine HQ.out.mono ?_
                  rintro e w9 ⟨rfl, hg9⟩
                  have HW9 := Lib.hid (HW.out.grows hg9)
                  have HL9 := Lib.hid ((HW.out.left (Keeps.of_grows hg9 fun _ h => h)).trans HL.out)
                  clear hg9 HQ
                  go_wp2_with fail
                  have hxq : (((q + 1) % 2 : Nat) : Int) = (1 : Int) + -1 := by omega
                  exact ⟨⟨_, q + 1, i3, _, X', rfl, by omega, by have := HI.out; have := HI3.out; omega, rfl, rfl, HLA.out, HX'.out, by rw [hxq]; exact HW9.out, HL9.out⟩, by have := HI3.out; simp [intOf]; omega⟩
        · have hqM : q = 2 * M := by omega
          have hd : ¬ (i' : Int) < (N : Int) := by have := HI.out; omega
          go_wp2_with fail
          go_roundw
          case rel => exact ⟨D ++ [d], X', HW.out.rng, HW.out.out, HX'.out, HW.out.kp⟩
          case measure => have := HL.out; have := HLT3.out; omega

end Go.Proofs.YteandmolnbcmmaaGreatDoor
