/- Walk: (*track).put. No condition beyond what each theorem states. -/
import Derived.Deep.RegionLaw
import Derived.Deep.DeepCutAuto
import Derived.Deep.CutBlock
import Derived.Test.YteandmolnbcmmaaGreatDoorKM

namespace Go.Proofs.YteandmolnbcmmaaGreatDoor
open Go.RowKit Go.Sort

theorem info156 : (Tryz.prog.info? 156).map (fun i => (i.zero, i.size, i.bytes)) = some (some (.agg #[.int .i64 0, .int .i64 0]), 2, 16) := by kernel_rfl
theorem u154 : Tryz.prog.underlying 154 = some (.slice 156) := by kernel_rfl

theorem run_cutV (g off cap n k : Nat) (w : World) (hk : k ≤ cap) : (Instr.slice 154 (.slice (some ⟨g, off, none⟩) n cap) none (some (.int .i64 (k : Int))) none).run Tryz.prog w = .ok (.slice (some ⟨g, off, none⟩) k cap) w := by
  rw [run_slice_h (P := Tryz.prog) w 154 _ _ _ (by kernel_rfl) .i64 k (by omega) (by omega)]
  have he : Tryz.prog.elem 154 = 156 := by kernel_rfl
  rw [he]
  have hs : (sizeOf 156).run Tryz.prog w = .ok 2 w := by go_simp
  rw [hs]
  simp [Result.andThen, sliced, Addr.add]

/-- A least list cut at k. -/
structure CutAt (M : List Sm) (s : Sm) (lt : Int → Int → Prop) (k : Nat) : Prop where
  le : k ≤ M.length
  drop : ∀ (j : Nat) x, k ≤ j → M[j]? = some x → ¬ lt x.2 s.2

theorem lmin_len (l : List Sm) : (lmin l).length ≤ l.length := by
  induction l with
  | nil => simp [lmin]
  | cons a l ih =>
    rw [lmin]
    cases h : lmin l with
    | nil => simp
    | cons b m =>
      rw [h] at ih
      dsimp only
      split <;> simp only [List.length_cons] at * <;> omega

theorem lmax_len (l : List Sm) : (lmax l).length ≤ l.length := by
  induction l with
  | nil => simp [lmax]
  | cons a l ih =>
    rw [lmax]
    cases h : lmax l with
    | nil => simp
    | cons b m =>
      rw [h] at ih
      dsimp only
      split <;> simp only [List.length_cons] at * <;> omega

theorem TkR.drewN' {w : World} {B T ob rb ro : Nat} {F : Nat → Prop} {r : Rule} {wv lv mv ov : Value} {x : Rest} {wl ll ml : List Sm} {out : List Span} (h : TkR w B F T ob rb ro r x wl ll ml out wv lv mv ov) (n : Nat) : TkR (w.drewN n) B F T ob rb ro r x wl ll ml out wv lv mv ov :=
  h.rest ((Keeps.refl _ w).drewN n) (h.blk.drewN n)

theorem CutAt.top (M : List Sm) (s : Sm) (lt : Int → Int → Prop) : CutAt M s lt M.length := ⟨Nat.le_refl _, fun j x hj hx => by rw [List.getElem?_eq_none hj] at hx; cases hx⟩
theorem CutAt.step {M : List Sm} {s y : Sm} {lt : Int → Int → Prop} {k : Nat} (h : CutAt M s lt (k + 1)) (hy : M[k]? = some y) (hn : ¬ lt y.2 s.2) : CutAt M s lt k :=
  ⟨by have := h.le; omega, fun j x hj hx => by
    rcases Nat.lt_or_ge k j with hlt | hge
    · exact h.drop j x hlt hx
    · have : j = k := by omega
      subst this
      rw [hy] at hx
      cases hx
      exact hn⟩

theorem flat_snoc (l : List Sm) (s : Sm) : flat (l ++ [s]) = flat l ++ [.int .i64 s.1, .int .i64 s.2] := by rw [flat_append]; rfl

set_option maxHeartbeats 4000000 in
set_option maxRecDepth 100000 in
theorem put_calls {w : World} {B T ob rb ro : Nat} {F : Nat → Prop} {r : Rule} {t : Tk} {wv lv mv ov : Value} (h : TkV w B F T ob rb ro r t wv lv mv ov) (hr : GoodR r) (hg : GoodS t.win) (hs : SortedS t.win) (hlen : t.win.length < 1000000) (s : Sm) (hs1 : 0 ≤ s.1 ∧ s.1 < END ∧ -MAXN ≤ s.2 ∧ s.2 ≤ MAXN) :
    Calls Tryz.prog 154 #[.pointer (some ⟨T, 0, none⟩), .agg #[.int .i64 s.1, .int .i64 s.2]] w fun e w' => e = .returned (.tuple #[]) ∧ TkAt w' B F T ob rb ro r (putS r s t) ∧ Keeps F w w' := by
  obtain ⟨i0, hi0, hz0, hz1, hz2⟩ := info_parts info156
  have H := Lib.hid h
  have HR := Lib.hid hr
  have HG := Lib.hid hg
  have HS := Lib.hid hs
  have O0 := Lib.hid (Blk.new w 156 #[.int .i64 s.1, .int .i64 s.2])
  have c1 : (w.alloc (.cells #[.int .i64 s.1, .int .i64 s.2] 156)).cell? ⟨w.heap.size, 0, none⟩ = some (.int .i64 s.1) := O0.out.cell 0
  obtain ⟨s1, s2, s3, s4⟩ := hs1
  unfold END at s2
  unfold MAXN at s3 s4
  have hTl := h.blk.lt
  clear h hr hg hs
  go_enter Tryz.func154, Tryz.ntmps154
  go_wp2_with fail
  refine (drop_calls (H.out.more _) HR.out HG.out HS.out (by omega) s.1).mono ?_
  rintro e w1 ⟨rfl, ⟨wv1, lv1, mv1, h1⟩, hk1⟩
  obtain ⟨D, hD⟩ : ∃ D, dropW r.long s.1 t.win = D := ⟨_, rfl⟩
  rw [hD] at h1
  have hDl : D.length < 1000000 := by rw [← hD]; exact Nat.lt_of_le_of_lt (dropW_length _ _ _) hlen
  have HDg : Hid (GoodS D) := Lib.hid (by rw [← hD]; exact dropW_good HG.out)
  replace hD := Lib.hid hD
  have O1 : Hid (Blk w1 w.heap.size 156 #[.int .i64 s.1, .int .i64 s.2]) := Lib.hid ((hk1.block _ (.inr rfl)).trans O0.out)
  have K1 : Hid (Keeps F w w1) := Lib.hid (((Keeps.refl F w).alloc H.out.fB _).trans (hk1.mono fun _ e => .inl e))
  have R1 : TkR w1 B (fun k => F k ∨ k = w.heap.size) T ob rb ro r ⟨sumV D, t.state, t.since, t.firing, t.began⟩ D (lmin D) (lmax D) t.out wv1 lv1 mv1 ov := h1.toR
  obtain ⟨S0, hS0⟩ : ∃ S0, w.heap.size = S0 := ⟨_, rfl⟩
  rw [hS0] at R1 O1 ⊢
  have hFr := Lib.hid H.out.fr
  have hF0 : Hid (¬ F S0) := Lib.hid fun e => Nat.lt_irrefl _ (hS0 ▸ H.out.fB _ e)
  replace hS0 := Lib.hid hS0
  clear c1 O0 hk1 h1 hlen H
  obtain ⟨F', hF'⟩ : ∃ F' : Nat → Prop, (fun k => F k ∨ k = S0) = F' := ⟨_, rfl⟩
  have hFS : Hid (F' S0) := Lib.hid (by rw [← hF']; exact .inr rfl)
  have hFF : Hid (∀ k, F k → F' k) := Lib.hid (by rw [← hF']; exact fun _ e => .inl e)
  rw [hF'] at R1
  clear hF'
  have c0 : w1.cell? ⟨T, 1, none⟩ = some wv1 := R1.blk.cell 1
  have f1 : w1.frozen? ⟨T, 1, none⟩ = false := R1.blk.frozen 1
  have o0 : w1.cell? ⟨S0, 0, none⟩ = some (.int .i64 s.1) := O1.out.cell 0
  have o1 : w1.cell? ⟨S0, 1, none⟩ = some (.int .i64 s.2) := O1.out.cell 1
  have hown := Lib.hid R1.ow
  replace R1 := Lib.hid R1
  go_wp2_with fail
  have n1 : wv1.ownBlock ≠ some T := R1.out.ow.ne_blk R1.out.blk (by decide)
  have lT := R1.out.blk.lt
  have hbse := R1.out.base
  go_cut [4] (fun _ wx => ∃ v', TkR wx B F' T ob rb ro r ⟨sumV D, t.state, t.since, t.firing, t.began⟩ (D ++ [s]) (lmin D) (lmax D) t.out v' lv1 mv1 ov ∧ Keeps F' w1 wx)
  case first =>
    go_region_law
      ((refine step_append_Own (by rfl) _ _ _ (by rfl) B 156 i0 _ 2 16 u154 hi0 hz0 hz1 hz2 rfl (by omega) wv1 D.length (flat D) (by rfl) (hown.out.same ?_)
          ⟨w1.heap.size, 0, none⟩ 1 1 [.int .i64 s.1, .int .i64 s.2] (by rfl) (by rfl) (World.news_of_block (cs := #[.int .i64 s.1, .int .i64 s.2]) (t := 156) (fr := (0, 0)) (heap_alloc_new w1 _)) (by simp [Value.oneCell'])
          (by unfold maxLen; omega) (by omega) (by simp; omega) ?_; (exact fun g hg => Below.heap_alloc w1 _ g (hown.out.lt g hg).2); intro v' w2 hown2 hgrow hfr; obtain ⟨vA, vC, hv', hvc⟩ := hown2.slice; rw [hv']; have hf2 : w2.frozen? ⟨T, 1, none⟩ = false := ((R1.out.blk.alloc _).drew.grown hgrow (Ne.symm n1)).frozen 1; have hc2 : w2.cell? ⟨T, 1, none⟩ = some wv1 := ((R1.out.blk.alloc _).drew.grown hgrow (Ne.symm n1)).cell 1))
    all_goals
      have R2 := R1.out.appW (l' := D ++ [s]) hgrow (by rw [flat_snoc, List.length_append]; exact hown2) hfr
      rw [hv'] at R2
      go_wp2_with fail
      go_meet
      exact ⟨_, R2⟩
  case rest =>
  obtain ⟨wv2, R2, k2⟩ := hcut
  clear c0 f1 o0 o1 hown n1 lT hbse
  have O2 := Lib.hid (k2.blk O1.out hFS.out)
  have K2 := Lib.hid (K1.out.trans (k2.mono hFF.out))
  clear O1 K1 k2 R1
  have c0 : wc.cell? ⟨T, 4, none⟩ = some (.int .i64 (sumV D)) := R2.blk.cell 4
  have f1 : wc.frozen? ⟨T, 4, none⟩ = false := R2.blk.frozen 4
  have o1 : wc.cell? ⟨S0, 1, none⟩ = some (.int .i64 s.2) := O2.out.cell 1
  have hb := sumV_bound D HDg.out
  have w1' : IntKind.i64.wrap (sumV D + s.2) = sumV D + s.2 := IntWalk.i64_in _ (by omega)
  have hne : ¬ T = S0 := fun e => R2.fT (e ▸ hFS.out)
  have hne2 : ¬ S0 = T := fun e => hne e.symm
  replace R2 := Lib.hid R2
  clear hb
  go_wp2_with fail
  go_region
  have R3 := R2.out.setSum (sumV D + s.2)
  have O3 := Lib.hid (R3.2.blk O2.out hFS.out)
  generalize (wc.setCell ⟨T, 4, none⟩ (.int .i64 (sumV D + s.2))).drew = w3 at *
  have K3 := Lib.hid (K2.out.trans (R3.2.mono hFF.out))
  replace R3 := Lib.hid R3.1
  clear c0 f1 o1 R2 O2 K2
  have c0 : w3.cell? ⟨T, 2, none⟩ = some lv1 := R3.out.blk.cell 2
  obtain ⟨A3, C3, hA3, _⟩ := R3.out.ol.slice
  rw [hA3] at c0
  replace hA3 := Lib.hid hA3
  go_upto_block 0 with fail
  go_cut [4] (fun _ wx => ∃ k v, TkR wx B F' T ob rb ro r ⟨sumV D + s.2, t.state, t.since, t.firing, t.began⟩ (D ++ [s]) ((lmin D).take k) (lmax D) t.out wv2 v mv1 ov ∧ Keeps F' w3 wx ∧ k ≤ (lmin D).length ∧ lmin (D ++ [s]) = (lmin D).take k ++ [s])
  case first =>
    clear c0
    have hMg : ∀ (x : Sm), x ∈ lmin D → -1000000000 ≤ x.2 ∧ x.2 ≤ 1000000000 := fun x hx => (HDg.out x (lmin_mem D x hx)).2.2
    replace hMg := Lib.hid hMg
    go_wp2_with fail
    go_loopw [4] (fun n wr => ∃ (k : Nat) (v : Value), n = .int .i64 k ∧ TkR wr B F' T ob rb ro r ⟨sumV D + s.2, t.state, t.since, t.firing, t.began⟩ (D ++ [s]) ((lmin D).take k) (lmax D) t.out wv2 v mv1 ov ∧ Keeps F' w3 wr ∧ CutAt (lmin D) s ltI k) (fun n _ => (intOf n).toNat)
    case atStart => exact ⟨_, lv1, rfl, by rw [List.take_length]; exact R3.out, Keeps.refl _ _, CutAt.top _ _ _⟩
    case round =>
      obtain ⟨k, v, rfl, hR, hK, hC⟩ := hrel
      have hlen : ((lmin D).take k).length = k := by rw [List.length_take]; have := hC.le; omega
      have hk1M : (lmin D).length ≤ D.length := lmin_len D
      have hkM := hC.le
      have c0 : wr.cell? ⟨T, 2, none⟩ = some v := hR.blk.cell 2
      have f1 : wr.frozen? ⟨T, 2, none⟩ = false := hR.blk.frozen 2
      have o1 : wr.cell? ⟨S0, 1, none⟩ = some (.int .i64 s.2) := (hK.blk O3.out hFS.out).cell 1
      have hO := hR.ol
      rw [hlen] at hO
      cases k with
      | zero =>
        obtain ⟨A, c, rfl, _⟩ := hO.slice
        have hR' := Lib.hid hR
        have hK' := Lib.hid hK
        have hC' := Lib.hid hC
        clear hR hK hC hO
        have hz : decide ((0:Int) < ((0 : Nat) : Int)) = false := rfl
        go_wp2_with fail
        go_quiet (fail)
        go_wp2_with fail
        go_meet
        exact ⟨0, _, hR'.out.drewN' _, hK'.out.drewN _, by omega, lmin_take D s 0 hC'.out.drop (.inl rfl)⟩
      | succ k =>
        obtain ⟨g, off, cap, rfl, hcap, _, _⟩ := hO.form (by omega)
        obtain ⟨y, hy⟩ : ∃ y, (lmin D)[k]? = some y := ⟨_, List.getElem?_eq_getElem (by omega)⟩
        obtain ⟨_, d1⟩ := hO.at_ (i := k) (s := y) (by rw [List.getElem?_take, if_pos (by omega)]; exact hy)
        have hym := hMg.out y (List.mem_of_getElem? hy)
        have hR' := Lib.hid hR
        have hK' := Lib.hid hK
        have hC' := Lib.hid hC
        have hO' := Lib.hid hO
        have hy' := Lib.hid hy
        have hz : decide ((0:Int) < ((k + 1 : Nat) : Int)) = true := decide_eq_true (by omega)
        have x1 : IntKind.i64.wrap (((k + 1 : Nat) : Int) - 1) = (k : Int) := by rw [IntWalk.i64_in _ (by omega)]; omega
        have x2 : IntKind.i64.wrap ((k : Int) + 1 - 1) = (k : Int) := by rw [IntWalk.i64_in _ (by omega)]; omega
        have x3 : (0 : Int) ≤ (k : Int) := by omega
        have x4 : (k : Int) < ((k + 1 : Nat) : Int) := by omega
        have x5 : ((k : Int)).toNat = k := by omega
        have hsl := fun wx => run_cutV g off cap (k + 1) k wx (by omega)
        clear hR hK hC hO hy
        by_cases hle : ltI y.2 s.2
        · have hnb : decide (s.2 ≤ y.2) = false := decide_eq_false (by unfold ltI at hle; omega)
          go_wp2_with fail
          go_quiet (fail)
          go_wp2_with fail
          go_meet
          exact ⟨k + 1, _, hR'.out.drewN' _, hK'.out.drewN _, by omega, lmin_take D s (k + 1) hC'.out.drop (.inr ⟨y, hy'.out, hle⟩)⟩
        · have hnb : decide (s.2 ≤ y.2) = true := decide_eq_true (by unfold ltI at hle; omega)
          go_wp2_with fail
          go_quiet (fail)
          go_wp2_with fail
          go_roundw
          case rel =>
            have hcut := hO'.out.cut (m := k) (by omega)
            rw [flat_take, List.take_take, Nat.min_eq_left (by omega)] at hcut
            have hl2 : ((lmin D).take k).length = k := by rw [List.length_take]; omega
            have hh := hR'.out.cutL (l' := (lmin D).take k) (v' := .slice (some ⟨g, off, none⟩) k cap) (by rw [hl2]; exact hcut) rfl nq
            exact ⟨k, _, by go_num, hh.1, hK'.out.trans hh.2, hC'.out.step hy'.out (by unfold ltI; omega)⟩
          case measure => simp [intOf]
  case rest =>
  obtain ⟨k, lv2, R4, k4, hkl, hlm⟩ := hcut
  have hLl : ((lmin D).take k).length ≤ D.length := by rw [List.length_take]; have := lmin_len D; omega
  obtain ⟨L, hL⟩ : ∃ L, (lmin D).take k = L := ⟨_, rfl⟩
  rw [hL] at R4 hlm hLl
  have O4 := Lib.hid (k4.blk O3.out hFS.out)
  have K4 := Lib.hid (K3.out.trans (k4.mono hFF.out))
  replace R4 := Lib.hid R4
  replace hlm := Lib.hid hlm
  clear k4 hkl R3 O3 K3 hL c0
  obtain ⟨w4, hw4⟩ : ∃ W, wc = W := ⟨_, rfl⟩
  rw [hw4] at R4 O4 K4 ⊢
  clear hw4
  have c0 : w4.cell? ⟨T, 2, none⟩ = some lv2 := R4.out.blk.cell 2
  have f1 : w4.frozen? ⟨T, 2, none⟩ = false := R4.out.blk.frozen 2
  have o0 : w4.cell? ⟨S0, 0, none⟩ = some (.int .i64 s.1) := O4.out.cell 0
  have o1 : w4.cell? ⟨S0, 1, none⟩ = some (.int .i64 s.2) := O4.out.cell 1
  have hown := Lib.hid R4.out.ol
  go_wp2_with fail
  have n1 : lv2.ownBlock ≠ some T := R4.out.ol.ne_blk R4.out.blk (by decide)
  have lT := R4.out.blk.lt
  have hbse := R4.out.base
  go_cut [5] (fun _ wx => ∃ v', TkR wx B F' T ob rb ro r ⟨sumV D + s.2, t.state, t.since, t.firing, t.began⟩ (D ++ [s]) (L ++ [s]) (lmax D) t.out wv2 v' mv1 ov ∧ Keeps F' w4 wx)
  case first =>
    go_region_law
      ((refine step_append_Own (by rfl) _ _ _ (by rfl) B 156 i0 _ 2 16 u154 hi0 hz0 hz1 hz2 rfl (by omega) lv2 L.length (flat L) (by rfl) (hown.out.same ?_)
          ⟨w4.heap.size, 0, none⟩ 1 1 [.int .i64 s.1, .int .i64 s.2] (by rfl) (by rfl) (World.news_of_block (cs := #[.int .i64 s.1, .int .i64 s.2]) (t := 156) (fr := (0, 0)) (heap_alloc_new w4 _)) (by simp [Value.oneCell'])
          (by unfold maxLen; omega) (by omega) (by simp; omega) ?_; (exact fun g hg => Below.heap_alloc w4 _ g (hown.out.lt g hg).2); intro v' w2 hown2 hgrow hfr; obtain ⟨vA, vC, hv', hvc⟩ := hown2.slice; rw [hv']; have hf2 : w2.frozen? ⟨T, 2, none⟩ = false := ((R4.out.blk.alloc _).drew.grown hgrow (Ne.symm n1)).frozen 2; have hc2 : w2.cell? ⟨T, 2, none⟩ = some lv2 := ((R4.out.blk.alloc _).drew.grown hgrow (Ne.symm n1)).cell 2))
    all_goals
      have R2 := R4.out.appL (l' := L ++ [s]) hgrow (by rw [flat_snoc, List.length_append]; exact hown2) hfr
      rw [hv'] at R2
      go_wp2_with fail
      go_meet
      exact ⟨_, R2⟩
  case rest =>
  obtain ⟨lv3, R5, k2⟩ := hcut
  clear c0 f1 o0 o1 hown n1 lT hbse
  have O5 := Lib.hid (k2.blk O4.out hFS.out)
  have K5 := Lib.hid (K4.out.trans (k2.mono hFF.out))
  replace R5 := Lib.hid R5
  clear O4 K4 k2 R4
  obtain ⟨wlv3, hwlv3⟩ : ∃ W, wc = W := ⟨_, rfl⟩
  rw [hwlv3] at R5 O5 K5 ⊢
  clear hwlv3
  have c0 : wlv3.cell? ⟨T, 3, none⟩ = some mv1 := R5.out.blk.cell 3
  obtain ⟨A5, C5, hA5, _⟩ := R5.out.om.slice
  rw [hA5] at c0
  replace hA5 := Lib.hid hA5
  go_upto_block 2 with fail
  go_cut [5] (fun _ wx => ∃ k v, TkR wx B F' T ob rb ro r ⟨sumV D + s.2, t.state, t.since, t.firing, t.began⟩ (D ++ [s]) (L ++ [s]) ((lmax D).take k) t.out wv2 lv3 v ov ∧ Keeps F' wlv3 wx ∧ k ≤ (lmax D).length ∧ lmax (D ++ [s]) = (lmax D).take k ++ [s])
  case first =>
    clear c0
    have hMg : ∀ (x : Sm), x ∈ lmax D → -1000000000 ≤ x.2 ∧ x.2 ≤ 1000000000 := fun x hx => (HDg.out x (lmax_mem D x hx)).2.2
    replace hMg := Lib.hid hMg
    go_wp2_with fail
    go_loopw [5] (fun n wr => ∃ (k : Nat) (v : Value), n = .int .i64 k ∧ TkR wr B F' T ob rb ro r ⟨sumV D + s.2, t.state, t.since, t.firing, t.began⟩ (D ++ [s]) (L ++ [s]) ((lmax D).take k) t.out wv2 lv3 v ov ∧ Keeps F' wlv3 wr ∧ CutAt (lmax D) s gtI k) (fun n _ => (intOf n).toNat)
    case atStart => exact ⟨_, mv1, rfl, by rw [List.take_length]; exact R5.out, Keeps.refl _ _, CutAt.top _ _ _⟩
    case round =>
      obtain ⟨k, v, rfl, hR, hK, hC⟩ := hrel
      have hlen : ((lmax D).take k).length = k := by rw [List.length_take]; have := hC.le; omega
      have hk1M : (lmax D).length ≤ D.length := lmax_len D
      have hkM := hC.le
      have c0 : wr.cell? ⟨T, 3, none⟩ = some v := hR.blk.cell 3
      have f1 : wr.frozen? ⟨T, 3, none⟩ = false := hR.blk.frozen 3
      have o1 : wr.cell? ⟨S0, 1, none⟩ = some (.int .i64 s.2) := (hK.blk O5.out hFS.out).cell 1
      have hO := hR.om
      rw [hlen] at hO
      cases k with
      | zero =>
        obtain ⟨A, c, rfl, _⟩ := hO.slice
        have hR' := Lib.hid hR
        have hK' := Lib.hid hK
        have hC' := Lib.hid hC
        clear hR hK hC hO
        have hz : decide ((0:Int) < ((0 : Nat) : Int)) = false := rfl
        go_wp2_with fail
        go_quiet (fail)
        go_wp2_with fail
        go_meet
        exact ⟨0, _, hR'.out.drewN' _, hK'.out.drewN _, by omega, lmax_take D s 0 hC'.out.drop (.inl rfl)⟩
      | succ k =>
        obtain ⟨g, off, cap, rfl, hcap, _, _⟩ := hO.form (by omega)
        obtain ⟨y, hy⟩ : ∃ y, (lmax D)[k]? = some y := ⟨_, List.getElem?_eq_getElem (by omega)⟩
        obtain ⟨_, d1⟩ := hO.at_ (i := k) (s := y) (by rw [List.getElem?_take, if_pos (by omega)]; exact hy)
        have hym := hMg.out y (List.mem_of_getElem? hy)
        have hR' := Lib.hid hR
        have hK' := Lib.hid hK
        have hC' := Lib.hid hC
        have hO' := Lib.hid hO
        have hy' := Lib.hid hy
        have hz : decide ((0:Int) < ((k + 1 : Nat) : Int)) = true := decide_eq_true (by omega)
        have x1 : IntKind.i64.wrap (((k + 1 : Nat) : Int) - 1) = (k : Int) := by rw [IntWalk.i64_in _ (by omega)]; omega
        have x2 : IntKind.i64.wrap ((k : Int) + 1 - 1) = (k : Int) := by rw [IntWalk.i64_in _ (by omega)]; omega
        have x3 : (0 : Int) ≤ (k : Int) := by omega
        have x4 : (k : Int) < ((k + 1 : Nat) : Int) := by omega
        have x5 : ((k : Int)).toNat = k := by omega
        have hsl := fun wx => run_cutV g off cap (k + 1) k wx (by omega)
        clear hR hK hC hO hy
        by_cases hle : gtI y.2 s.2
        · have hnb : decide (y.2 ≤ s.2) = false := decide_eq_false (by unfold gtI at hle; omega)
          go_wp2_with fail
          go_quiet (fail)
          go_wp2_with fail
          go_meet
          exact ⟨k + 1, _, hR'.out.drewN' _, hK'.out.drewN _, by omega, lmax_take D s (k + 1) hC'.out.drop (.inr ⟨y, hy'.out, hle⟩)⟩
        · have hnb : decide (y.2 ≤ s.2) = true := decide_eq_true (by unfold gtI at hle; omega)
          go_wp2_with fail
          go_quiet (fail)
          go_wp2_with fail
          go_roundw
          case rel =>
            have hcut := hO'.out.cut (m := k) (by omega)
            rw [flat_take, List.take_take, Nat.min_eq_left (by omega)] at hcut
            have hl2 : ((lmax D).take k).length = k := by rw [List.length_take]; omega
            have hh := hR'.out.cutM (l' := (lmax D).take k) (v' := .slice (some ⟨g, off, none⟩) k cap) (by rw [hl2]; exact hcut) rfl nq
            exact ⟨k, _, by go_num, hh.1, hK'.out.trans hh.2, hC'.out.step hy'.out (by unfold gtI; omega)⟩
          case measure => simp [intOf]
  case rest =>
  obtain ⟨k, mv2, R6, k6, hkl, hmx⟩ := hcut
  have hMl : ((lmax D).take k).length ≤ D.length := by rw [List.length_take]; have := lmax_len D; omega
  obtain ⟨M, hM⟩ : ∃ M, (lmax D).take k = M := ⟨_, rfl⟩
  rw [hM] at R6 hmx hMl
  have O6 := Lib.hid (k6.blk O5.out hFS.out)
  have K6 := Lib.hid (K5.out.trans (k6.mono hFF.out))
  replace R6 := Lib.hid R6
  replace hmx := Lib.hid hmx
  clear k6 hkl R5 O5 K5 hM c0
  obtain ⟨w6, hw6⟩ : ∃ W, wc = W := ⟨_, rfl⟩
  rw [hw6] at R6 O6 K6 ⊢
  clear hw6
  have c0 : w6.cell? ⟨T, 3, none⟩ = some mv2 := R6.out.blk.cell 3
  have f1 : w6.frozen? ⟨T, 3, none⟩ = false := R6.out.blk.frozen 3
  have o0 : w6.cell? ⟨S0, 0, none⟩ = some (.int .i64 s.1) := O6.out.cell 0
  have o1 : w6.cell? ⟨S0, 1, none⟩ = some (.int .i64 s.2) := O6.out.cell 1
  have hown := Lib.hid R6.out.om
  go_wp2_with fail
  have n1 : mv2.ownBlock ≠ some T := R6.out.om.ne_blk R6.out.blk (by decide)
  have lT := R6.out.blk.lt
  have hbse := R6.out.base
  go_cut [112] (fun _ wx => ∃ v', TkR wx B F' T ob rb ro r ⟨sumV D + s.2, t.state, t.since, t.firing, t.began⟩ (D ++ [s]) (L ++ [s]) (M ++ [s]) t.out wv2 lv3 v' ov ∧ Keeps F' w6 wx)
  case first =>
    go_region_law
      ((refine step_append_Own (by rfl) _ _ _ (by rfl) B 156 i0 _ 2 16 u154 hi0 hz0 hz1 hz2 rfl (by omega) mv2 M.length (flat M) (by rfl) (hown.out.same ?_)
          ⟨w6.heap.size, 0, none⟩ 1 1 [.int .i64 s.1, .int .i64 s.2] (by rfl) (by rfl) (World.news_of_block (cs := #[.int .i64 s.1, .int .i64 s.2]) (t := 156) (fr := (0, 0)) (heap_alloc_new w6 _)) (by simp [Value.oneCell'])
          (by unfold maxLen; omega) (by omega) (by simp; omega) ?_; (exact fun g hg => Below.heap_alloc w6 _ g (hown.out.lt g hg).2); intro v' w2 hown2 hgrow hfr; obtain ⟨vA, vC, hv', hvc⟩ := hown2.slice; rw [hv']; have hf2 : w2.frozen? ⟨T, 3, none⟩ = false := ((R6.out.blk.alloc _).drew.grown hgrow (Ne.symm n1)).frozen 3; have hc2 : w2.cell? ⟨T, 3, none⟩ = some mv2 := ((R6.out.blk.alloc _).drew.grown hgrow (Ne.symm n1)).cell 3))
    all_goals
      have R2 := R6.out.appM (l' := M ++ [s]) hgrow (by rw [flat_snoc, List.length_append]; exact hown2) hfr
      rw [hv'] at R2
      go_wp2_with fail
      go_meet
      exact ⟨_, R2⟩
  case rest =>
  obtain ⟨mv3, R7, k2⟩ := hcut
  clear c0 f1 o0 o1 hown n1 lT hbse
  have O7 := Lib.hid (k2.blk O6.out hFS.out)
  have K7 := Lib.hid (K6.out.trans (k2.mono hFF.out))
  replace R7 := Lib.hid R7
  clear O6 K6 k2 R6
  obtain ⟨wmv3, hwmv3⟩ : ∃ W, wc = W := ⟨_, rfl⟩
  rw [hwmv3] at R7 O7 K7 ⊢
  clear hwmv3
  have RV : TkV wmv3 B F' T ob rb ro r (t.with (D ++ [s])) wv2 lv3 mv3 ov := TkR.toV (t := t.with (D ++ [s])) (by
    rw [← hlm.out, ← hmx.out] at R7
    rw [show sumV (t.with (D ++ [s])).win = sumV D + s.2 from sumV_snoc' D s]
    exact R7.out)
  have o0 : wmv3.cell? ⟨S0, 0, none⟩ = some (.int .i64 s.1) := O7.out.cell 0
  replace RV := Lib.hid RV
  clear R7
  go_wp2_with fail
  refine (update_calls RV.out HR.out (by
    intro x hx
    rcases List.mem_append.1 hx with hx | hx
    · exact HDg.out x hx
    · simp at hx; subst hx; unfold END MAXN; omega) (by show (D ++ [s]).length ≤ _; simp; omega) s.1).mono ?_
  rintro e w8 ⟨rfl, R8, k8⟩
  have hu : putS r s t = upd r s.1 (t.with (D ++ [s])) := by rw [← hD.out]; rfl
  replace R8 : Hid (TkAt w8 B F T ob rb ro r (putS r s t)) := Lib.hid (by rw [hu]; exact ⟨_, _, _, _, R8.less hFF.out hFr.out⟩)
  have K8 := Lib.hid (K7.out.trans (k8.mono hFF.out))
  clear k8 hu RV K7 O7 o0
  go_wp2_with fail
  go_end0
  exact ⟨rfl, R8.out, K8.out⟩

end Go.Proofs.YteandmolnbcmmaaGreatDoor
