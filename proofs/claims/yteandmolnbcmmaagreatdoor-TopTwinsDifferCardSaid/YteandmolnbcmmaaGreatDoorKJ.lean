/- Walk: (*track).now. No condition beyond what each theorem states. -/
import Derived.Deep.DeepCutAuto
import Derived.Deep.CutBlock
import Derived.Test.YteandmolnbcmmaaGreatDoorKI

namespace Go.Proofs.YteandmolnbcmmaaGreatDoor
open Go.RowKit Go.Sort

theorem sumV_bound (l : List Sm) (h : GoodS l) : -(1000000000 * (l.length : Int)) ≤ sumV l ∧ sumV l ≤ 1000000000 * (l.length : Int) := by
  induction l with
  | nil => simp [sumV]
  | cons a l ih =>
    have := ih fun x hx => h x (by simp [hx])
    have ha := h a (by simp)
    unfold MAXN at ha
    rw [sumV]
    simp only [List.length_cons, Int.natCast_add]
    omega

theorem lastV_get (l : List Sm) (h : l ≠ []) : ∃ s, l[l.length - 1]? = some s ∧ lastV l = s.2 := by
  refine ⟨l.getLast h, ?_, ?_⟩
  · rw [← List.getLast?_eq_getElem?, List.getLast?_eq_some_getLast h]
  · unfold lastV
    have : l.reverse = l.getLast h :: l.dropLast.reverse := by
      conv => lhs; rw [← List.dropLast_concat_getLast h]
      simp
    rw [this]; rfl

theorem lmin_mem (l : List Sm) : ∀ x ∈ lmin l, x ∈ l := by
  induction l with
  | nil => simp [lmin]
  | cons a l ih =>
    intro x hx
    rw [lmin] at hx
    cases h : lmin l with
    | nil => rw [h] at hx; simp at hx; simp [hx]
    | cons b m =>
      rw [h] at hx ih
      dsimp only at hx
      split at hx
      · rcases List.mem_cons.1 hx with rfl | hx
        · simp
        · exact List.mem_cons_of_mem _ (ih x hx)
      · exact List.mem_cons_of_mem _ (ih x hx)

theorem lmax_mem (l : List Sm) : ∀ x ∈ lmax l, x ∈ l := by
  induction l with
  | nil => simp [lmax]
  | cons a l ih =>
    intro x hx
    rw [lmax] at hx
    cases h : lmax l with
    | nil => rw [h] at hx; simp at hx; simp [hx]
    | cons b m =>
      rw [h] at hx ih
      dsimp only at hx
      split at hx
      · rcases List.mem_cons.1 hx with rfl | hx
        · simp
        · exact List.mem_cons_of_mem _ (ih x hx)
      · exact List.mem_cons_of_mem _ (ih x hx)

/-- What is asked of a value, and by how much the limits are multiplied. -/
structure ValOk (v b : Int) : Prop where
  v : -1000000000000000 ≤ v ∧ v ≤ 1000000000000000
  b : 0 ≤ b ∧ b ≤ 1000000

theorem valueOf_ok (agg : Int) (l : List Sm) (hg : GoodS l) (hl : l.length ≤ 1000000) : ValOk (valueOf agg l).1 (valueOf agg l).2 := by
  have hs := sumV_bound l hg
  have h1 : ∀ m : List Sm, (∀ x ∈ m, x ∈ l) → -1000000000 ≤ firstV m ∧ firstV m ≤ 1000000000 := fun m hm => by
    cases m with
    | nil => simp [firstV]
    | cons a m => have := hg a (hm a (by simp)); unfold MAXN at this; simp only [firstV]; omega
  have hf := h1 l fun _ h => h
  have hla := h1 l.reverse fun _ h => by simpa using h
  have hmi := h1 (lmin l) (lmin_mem l)
  have hma := h1 (lmax l) (lmax_mem l)
  unfold valueOf lastV
  repeat' split
  all_goals exact ⟨by dsimp only; omega, by dsimp only; omega⟩

/-- The second half of now: where a value stands. -/
theorem standAt_of (r : Rule) (l : List Sm) (h : l ≠ [] ∨ r.agg = 5) : nowOf r l = standAt r.above (valueOf r.agg l).1 (r.on * (valueOf r.agg l).2) (r.off * (valueOf r.agg l).2) := by
  unfold nowOf
  rw [if_neg]
  rintro ⟨h1, h2⟩
  rcases h with h | h
  · exact h h1
  · exact h2 h

theorem mul_bound (a b : Int) (ha : -1000000000 ≤ a ∧ a ≤ 1000000000) (hb : 0 ≤ b ∧ b ≤ 1000000) : -1000000000000000 ≤ a * b ∧ a * b ≤ 1000000000000000 := by
  have h1 : a * b ≤ 1000000000 * b := Int.mul_le_mul_of_nonneg_right ha.2 hb.1
  have h2 : -1000000000 * b ≤ a * b := Int.mul_le_mul_of_nonneg_right ha.1 hb.1
  omega

set_option maxHeartbeats 4000000 in
set_option maxRecDepth 100000 in
theorem now_value (r : Rule) (l : List Sm) (T rb ro B : Nat) (wv lv mv : Value) (st si be : Int) (fi : Bool) (fn : Value) (w : World) (hr : GoodR r) (hg : GoodS l) (hb : Blk w T 253 (tkCells rb ro wv lv mv (sumV l) st si fi be fn)) (hc : Cells w rb ro (encR r))
    (hown : Own w B 156 2 wv l.length (flat l)) (hmin : Own w B 156 2 lv (lmin l).length (flat (lmin l))) (hmax : Own w B 156 2 mv (lmax l).length (flat (lmax l))) (hlen : l.length ≤ 1000000) (hne : l ≠ [] ∨ r.agg = 5) :
    Calls Tryz.prog 185 #[.pointer (some ⟨T, 0, none⟩)] w fun e w' => e = .returned (.int .i64 (nowOf r l)) ∧ ∃ n, w' = w.drewN n := by
  have c0 : w.cell? ⟨T, 0, none⟩ = some (.pointer (some ⟨rb, ro, none⟩)) := hb.cell 0
  have c1 : w.cell? ⟨T, 1, none⟩ = some wv := hb.cell 1
  have c2 : w.cell? ⟨T, 2, none⟩ = some lv := hb.cell 2
  have c3 : w.cell? ⟨T, 3, none⟩ = some mv := hb.cell 3
  have c4 : w.cell? ⟨T, 4, none⟩ = some (.int .i64 (sumV l)) := hb.cell 4
  have r2 : w.cell? ⟨rb, ro + 2, none⟩ = some (.int .i64 r.agg) := hc 2 _ rfl
  have r4 : w.cell? ⟨rb, ro + 4, none⟩ = some (.bool r.above) := hc 4 _ rfl
  have r5 : w.cell? ⟨rb, ro + 5, none⟩ = some (.int .i64 r.on) := hc 5 _ rfl
  have r6 : w.cell? ⟨rb, ro + 6, none⟩ = some (.int .i64 r.off) := hc 6 _ rfl
  have HN := Lib.hid (standAt_of r l hne)
  obtain ⟨⟨v1, v2⟩, ⟨b1, b2⟩⟩ := valueOf_ok r.agg l hg hlen
  have hon := mul_bound r.on (valueOf r.agg l).2 hr.on ⟨b1, b2⟩
  have hoff := mul_bound r.off (valueOf r.agg l).2 hr.off ⟨b1, b2⟩
  obtain ⟨V, hV⟩ : ∃ V, (valueOf r.agg l).1 = V := ⟨_, rfl⟩
  obtain ⟨Y, hY⟩ : ∃ Y, (valueOf r.agg l).2 = Y := ⟨_, rfl⟩
  rw [hV] at v1 v2
  rw [hY] at b1 b2 hon hoff
  have HV := Lib.hid hV
  have HY := Lib.hid hY
  obtain ⟨on1, on2⟩ := hon
  obtain ⟨off1, off2⟩ := hoff
  have x1 : IntKind.i64.wrap (r.on * Y) = r.on * Y := IntWalk.i64_in _ (by omega)
  have x2 : IntKind.i64.wrap (r.off * Y) = r.off * Y := IntWalk.i64_in _ (by omega)
  obtain ⟨wA, wC, rfl, hwc⟩ := hown.slice
  obtain ⟨lA, lC, rfl, hlc⟩ := hmin.slice
  obtain ⟨mA, mC, rfl, hmc⟩ := hmax.slice
  have ha := hr.agg
  have HO := Lib.hid hown
  have HI := Lib.hid hmin
  have HA := Lib.hid hmax
  have HG := Lib.hid hg
  clear hb hc hown hmin hmax hg hV hY hr
  have hcase : (l = [] ∧ r.agg = 5) ∨ (l ≠ [] ∧ (r.agg = 1 ∨ r.agg = 2 ∨ r.agg = 3 ∨ r.agg = 4 ∨ r.agg = 5 ∨ r.agg = 6)) := by
    by_cases hl : l = []
    · exact .inl ⟨hl, hne.resolve_left (fun h => h hl)⟩
    · exact .inr ⟨hl, by omega⟩
  clear hne ha
  have hz : decide ((l.length : Int) = 0) = decide ((l.length : Int) = 0) := rfl
  clear hz
  rcases hcase with ⟨hl, h5⟩ | ⟨hl, hag⟩
  · have hn0 : l.length = 0 := by rw [hl]; rfl
    rw [h5] at r2
    have HV0 : Hid (V = 0) := Lib.hid (by rw [← HV.out, h5, hl]; rfl)
    have HY0 : Hid (Y = 1) := Lib.hid (by rw [← HY.out, h5, hl]; rfl)
    rw [hn0] at c1
    clear hl
    go_enter Tryz.func185, Tryz.ntmps185
    go_upto_block 0 with fail
    go_cut [4, 5] (fun v4 v5 wx => v4 = Value.int .i64 V ∧ v5 = Value.int .i64 Y ∧ ∃ n, wx = w.drewN n)
    case first =>
      go_wp2_with fail
      go_meet
      exact ⟨by rw [HV0.out], by rw [HY0.out], 0, rfl⟩
    case rest =>
      obtain ⟨rfl, rfl, n, rfl⟩ := hcut
      clear c1 c2 c3 c4
      go_wp2_with fail
      go_quiet (fail)
      cases hab : r.above with
      | true =>
        rw [hab] at r4
        have HW : Hid (nowOf r l = if r.on * Y ≤ V then 1 else if V < r.off * Y then 2 else 0) := Lib.hid (by rw [HN.out, HV.out, HY.out]; unfold standAt; rw [if_pos hab])
        by_cases k1 : r.on * Y ≤ V
        · have HW2 : Hid (nowOf r l = 1) := Lib.hid (by rw [HW.out, if_pos k1])
          clear HW hab
          go_wp2_with fail
          go_ret
          exact ⟨ret_i64 HW2.out.symm, _, rfl⟩
        · by_cases k2 : V < r.off * Y
          · have HW2 : Hid (nowOf r l = 2) := Lib.hid (by rw [HW.out, if_neg k1, if_pos k2])
            clear HW hab
            go_wp2_with fail
            go_ret
            exact ⟨ret_i64 HW2.out.symm, _, rfl⟩
          · have HW2 : Hid (nowOf r l = 0) := Lib.hid (by rw [HW.out, if_neg k1, if_neg k2])
            clear HW hab
            go_wp2_with fail
            go_ret
            exact ⟨ret_i64 HW2.out.symm, _, rfl⟩
      | false =>
        rw [hab] at r4
        have HW : Hid (nowOf r l = if -(r.on * Y) ≤ -V then 1 else if -V < -(r.off * Y) then 2 else 0) := Lib.hid (by rw [HN.out, HV.out, HY.out]; unfold standAt; rw [if_neg (by rw [hab]; simp)])
        by_cases k1 : V ≤ r.on * Y
        · have HW2 : Hid (nowOf r l = 1) := Lib.hid (by rw [HW.out, if_pos (by omega)])
          have k3 : -(r.on * Y) ≤ -V := by omega
          clear HW hab
          go_wp2_with fail
          go_ret
          exact ⟨ret_i64 HW2.out.symm, _, rfl⟩
        · have k3 : ¬ -(r.on * Y) ≤ -V := by omega
          by_cases k2 : r.off * Y < V
          · have HW2 : Hid (nowOf r l = 2) := Lib.hid (by rw [HW.out, if_neg (by omega), if_pos (by omega)])
            have k4 : -V < -(r.off * Y) := by omega
            clear HW hab
            go_wp2_with fail
            go_ret
            exact ⟨ret_i64 HW2.out.symm, _, rfl⟩
          · have HW2 : Hid (nowOf r l = 0) := Lib.hid (by rw [HW.out, if_neg (by omega), if_neg (by omega)])
            have k4 : ¬ -V < -(r.off * Y) := by omega
            clear HW hab
            go_wp2_with fail
            go_ret
            exact ⟨ret_i64 HW2.out.symm, _, rfl⟩
  · have hn0 : 0 < l.length := List.length_pos_iff.2 hl
    have hb0 : ((l.length : Int) == 0) = false := by simp; exact hl
    go_enter Tryz.func185, Tryz.ntmps185
    go_upto_block 0 with fail
    go_cut [4, 5] (fun v4 v5 wx => v4 = Value.int .i64 V ∧ v5 = Value.int .i64 Y ∧ ∃ n, wx = w.drewN n)
    case first =>
      rcases hag with h | h | h | h | h | h
      all_goals rw [h] at r2
      · obtain ⟨s, hs, hls⟩ := lastV_get l hl
        have hVe : s.2 = V := by rw [← HV.out, h, ← hls]; rfl
        have hYe : Y = 1 := by rw [← HY.out, h]; rfl
        subst hYe
        obtain ⟨g, off, cap, he, _⟩ := HO.out.form hn0
        cases he
        obtain ⟨_, d1⟩ := HO.out.at_ hs
        rw [hVe] at d1
        have w3 : IntKind.i64.wrap ((l.length : Int) - 1) = (l.length : Int) - 1 := IntWalk.i64_in _ (by omega)
        have w4 : ((l.length : Int) - 1).toNat = l.length - 1 := by omega
        have w5 : (0 : Int) ≤ (l.length : Int) - 1 := by omega
        have w6 : (1 : Int) ≤ (l.length : Int) := by omega
        clear hs hls hVe
        go_wp2_with fail
        go_meet
        exact ⟨rfl, rfl, 0, rfl⟩
      · have hne2 := lmin_ne l hl
        have hpos : 0 < (lmin l).length := List.length_pos_iff.2 hne2
        obtain ⟨s, m, hsm⟩ : ∃ s m, lmin l = s :: m := by cases hx : lmin l with | nil => exact absurd hx hne2 | cons s m => exact ⟨s, m, rfl⟩
        have hVe : s.2 = V := by rw [← HV.out, h]; simp [valueOf, hsm, firstV]
        have hYe : Y = 1 := by rw [← HY.out, h]; rfl
        subst hYe
        obtain ⟨g, off, cap, he, _⟩ := HI.out.form hpos
        cases he
        obtain ⟨_, d1⟩ := HI.out.at_ (i := 0) (s := s) (by rw [hsm]; rfl)
        rw [hVe] at d1
        simp only [Nat.zero_mul, Nat.add_zero] at d1
        clear hsm hne2 hVe
        go_wp2_with fail
        go_meet
        exact ⟨rfl, rfl, 0, rfl⟩
      · have hne2 := lmax_ne l hl
        have hpos : 0 < (lmax l).length := List.length_pos_iff.2 hne2
        obtain ⟨s, m, hsm⟩ : ∃ s m, lmax l = s :: m := by cases hx : lmax l with | nil => exact absurd hx hne2 | cons s m => exact ⟨s, m, rfl⟩
        have hVe : s.2 = V := by rw [← HV.out, h]; simp [valueOf, hsm, firstV]
        have hYe : Y = 1 := by rw [← HY.out, h]; rfl
        subst hYe
        obtain ⟨g, off, cap, he, _⟩ := HA.out.form hpos
        cases he
        obtain ⟨_, d1⟩ := HA.out.at_ (i := 0) (s := s) (by rw [hsm]; rfl)
        rw [hVe] at d1
        simp only [Nat.zero_mul, Nat.add_zero] at d1
        clear hsm hne2 hVe
        go_wp2_with fail
        go_meet
        exact ⟨rfl, rfl, 0, rfl⟩
      · have hVe : sumV l = V := by rw [← HV.out, h]; rfl
        have HYe : Hid (Y = l.length) := Lib.hid (by rw [← HY.out, h]; rfl)
        rw [hVe] at c4
        clear hVe
        go_wp2_with fail
        go_meet
        exact ⟨rfl, by rw [HYe.out], 0, rfl⟩
      · have HVe : Hid (V = l.length) := Lib.hid (by rw [← HV.out, h]; rfl)
        have hYe : Y = 1 := by rw [← HY.out, h]; rfl
        subst hYe
        go_wp2_with fail
        go_meet
        exact ⟨by rw [HVe.out], rfl, 0, rfl⟩
      · obtain ⟨s, hs, hls⟩ := lastV_get l hl
        obtain ⟨s0, m0, hs0⟩ : ∃ s m, l = s :: m := by cases l with | nil => exact absurd rfl hl | cons s m => exact ⟨s, m, rfl⟩
        have HVe : Hid (s.2 - s0.2 = V) := Lib.hid (by rw [← HV.out, h]; simp only [valueOf]; simp [← hls, hs0, firstV])
        have hYe : Y = 1 := by rw [← HY.out, h]; rfl
        subst hYe
        obtain ⟨g, off, cap, he, _⟩ := HO.out.form hn0
        cases he
        obtain ⟨_, d1⟩ := HO.out.at_ hs
        obtain ⟨_, d2⟩ := HO.out.at_ (i := 0) (s := s0) (by rw [hs0]; rfl)
        simp only [Nat.zero_mul, Nat.add_zero] at d2
        have w3 : IntKind.i64.wrap ((l.length : Int) - 1) = (l.length : Int) - 1 := IntWalk.i64_in _ (by omega)
        have w4 : ((l.length : Int) - 1).toNat = l.length - 1 := by omega
        have w5 : (0 : Int) ≤ (l.length : Int) - 1 := by omega
        have w6 : (1 : Int) ≤ (l.length : Int) := by omega
        have w7 : (l.length : Int) - 1 < l.length := by omega
        have gs := HG.out s (List.mem_of_getElem? hs)
        have gs0 := HG.out s0 (by rw [hs0]; simp)
        unfold MAXN at gs gs0
        obtain ⟨_, _, p1, p2⟩ := gs
        obtain ⟨_, _, q1, q2⟩ := gs0
        have w8 : IntKind.i64.wrap (s.2 - s0.2) = s.2 - s0.2 := IntWalk.i64_in _ (by omega)
        clear hs hls hs0
        go_wp2_with fail
        go_quiet (fail)
        go_wp2_with fail
        go_meet
        exact ⟨by rw [← HVe.out], rfl, _, rfl⟩
    case rest =>
      obtain ⟨rfl, rfl, n, rfl⟩ := hcut
      clear c1 c2 c3 c4
      go_wp2_with fail
      go_quiet (fail)
      cases hab : r.above with
      | true =>
        rw [hab] at r4
        have HW : Hid (nowOf r l = if r.on * Y ≤ V then 1 else if V < r.off * Y then 2 else 0) := Lib.hid (by rw [HN.out, HV.out, HY.out]; unfold standAt; rw [if_pos hab])
        by_cases k1 : r.on * Y ≤ V
        · have HW2 : Hid (nowOf r l = 1) := Lib.hid (by rw [HW.out, if_pos k1])
          clear HW hab
          go_wp2_with fail
          go_ret
          exact ⟨ret_i64 HW2.out.symm, _, rfl⟩
        · by_cases k2 : V < r.off * Y
          · have HW2 : Hid (nowOf r l = 2) := Lib.hid (by rw [HW.out, if_neg k1, if_pos k2])
            clear HW hab
            go_wp2_with fail
            go_ret
            exact ⟨ret_i64 HW2.out.symm, _, rfl⟩
          · have HW2 : Hid (nowOf r l = 0) := Lib.hid (by rw [HW.out, if_neg k1, if_neg k2])
            clear HW hab
            go_wp2_with fail
            go_ret
            exact ⟨ret_i64 HW2.out.symm, _, rfl⟩
      | false =>
        rw [hab] at r4
        have HW : Hid (nowOf r l = if -(r.on * Y) ≤ -V then 1 else if -V < -(r.off * Y) then 2 else 0) := Lib.hid (by rw [HN.out, HV.out, HY.out]; unfold standAt; rw [if_neg (by rw [hab]; simp)])
        by_cases k1 : V ≤ r.on * Y
        · have HW2 : Hid (nowOf r l = 1) := Lib.hid (by rw [HW.out, if_pos (by omega)])
          have k3 : -(r.on * Y) ≤ -V := by omega
          clear HW hab
          go_wp2_with fail
          go_ret
          exact ⟨ret_i64 HW2.out.symm, _, rfl⟩
        · have k3 : ¬ -(r.on * Y) ≤ -V := by omega
          by_cases k2 : r.off * Y < V
          · have HW2 : Hid (nowOf r l = 2) := Lib.hid (by rw [HW.out, if_neg (by omega), if_pos (by omega)])
            have k4 : -V < -(r.off * Y) := by omega
            clear HW hab
            go_wp2_with fail
            go_ret
            exact ⟨ret_i64 HW2.out.symm, _, rfl⟩
          · have HW2 : Hid (nowOf r l = 0) := Lib.hid (by rw [HW.out, if_neg (by omega), if_neg (by omega)])
            have k4 : ¬ -V < -(r.off * Y) := by omega
            clear HW hab
            go_wp2_with fail
            go_ret
            exact ⟨ret_i64 HW2.out.symm, _, rfl⟩

end Go.Proofs.YteandmolnbcmmaaGreatDoor
