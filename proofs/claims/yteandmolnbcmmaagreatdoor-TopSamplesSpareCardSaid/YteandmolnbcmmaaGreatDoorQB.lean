/- Walk: slices.Compact of samples. No condition beyond what each theorem states. -/
import Derived.Test.YteandmolnbcmmaaGreatDoorQA
import Derived.Test.YteandmolnbcmmaaGreatDoorPB

namespace Go.Proofs.YteandmolnbcmmaaGreatDoor
open Go.RowKit Go.Sort

theorem eql51 (x y : Samp) (w : World) : (binOp .eql 51 (.agg #[.string x.device, .string x.metric, .int .i64 x.at_, .int .i64 x.value]) (.agg #[.string y.device, .string y.metric, .int .i64 y.at_, .int .i64 y.value])).run Tryz.prog w = .ok (.bool (saB x y)) w := by
  rw [run_eql_struct]
  simp [go_sem, Tryz.underlying51]
  unfold saB
  by_cases h1 : x.device.toList = y.device.toList <;> by_cases h2 : x.metric.toList = y.metric.toList <;> by_cases h3 : x.at_ = y.at_ <;> by_cases h4 : x.value = y.value <;> simp [h1, h2, h3, h4]

theorem comp_short {l : List Samp} (h : l.length < 2) : comp l = l := by
  match l, h with
  | [], _ => rfl
  | [x], _ => rfl

theorem saB_comm (x y : Samp) : saB x y = saB y x := by
  cases h : saB y x
  · cases h' : saB x y
    · rfl
    · rw [(saB_true x y).1 h'] at h
      have := (saB_true y y).2 rfl
      rw [this] at h; cases h
  · rw [(saB_true y x).1 h]
    exact (saB_true x x).2 rfl

theorem zero51 (w : World) : (zeroValue 51).run Tryz.prog w = .ok (.agg #[.string ByteArray.empty, .string ByteArray.empty, .int .i64 0, .int .i64 0]) w := by
  obtain ⟨i0, hi0, hz0, _, _⟩ := info_parts info51
  simp [zeroValue, typeInfo, hi0, hz0]

/-- One more element looked at. -/
theorem comp_take {L : List Samp} {k : Nat} {x y : Samp} (hx : L[k + 1]? = some x) (hy : L[k]? = some y) : comp (L.take (k + 2)) = comp (L.take (k + 1)) ++ (bif saB y x then [] else [x]) := by
  have h1 : L.take (k + 2) = L.take (k + 1) ++ [x] := by rw [List.take_add_one, hx]; rfl
  have h2 : (L.take (k + 1)).getLast? = some y := by rw [List.take_add_one, hy]; simp
  rw [h1, comp_snoc, h2]
  rfl

theorem put1S {w : World} {base g off n cap : Nat} {l : List Samp} {i : Nat} (hl : i < l.length) {a b : Samp} (j : Nat) (u : Value) (h : Own w base 51 4 (.slice (some ⟨g, off, none⟩) n cap) n (flatE encSa (l.set i a))) (hj : j < 4) (hb : encSa b = (encSa a).set j u) :
    Own (w.setCell ⟨g, off + i * 4 + j, none⟩ u) base 51 4 (.slice (some ⟨g, off, none⟩) n cap) n (flatE encSa (l.set i b)) := by
  have := h.setAt (i * 4 + j) u
  rw [flatE_set encSa_len (x := a) (by rw [List.getElem?_set_self hl]) hb hj, List.set_set] at this
  rw [Nat.add_assoc]
  exact this

theorem putSa {w : World} {base g off n cap : Nat} {l : List Samp} {i : Nat} {x : Samp} (hx : l[i]? = some x) (y : Samp) (h : Own w base 51 4 (.slice (some ⟨g, off, none⟩) n cap) n (flatE encSa l)) :
    Own ((((w.setCell ⟨g, off + i * 4, none⟩ (.string y.device)).setCell ⟨g, off + i * 4 + 1, none⟩ (.string y.metric)).setCell ⟨g, off + i * 4 + 2, none⟩ (.int .i64 y.at_)).setCell ⟨g, off + i * 4 + 3, none⟩ (.int .i64 y.value)) base 51 4 (.slice (some ⟨g, off, none⟩) n cap) n (flatE encSa (l.set i y)) := by
  have hl := List.getElem?_eq_some_iff.1 hx
  have h3 : l.set i x = l := by
    conv => lhs; rw [← hl.2]
    exact List.set_getElem_self hl.1
  rw [← h3] at h
  obtain ⟨x0, x1, x2, x3⟩ := x
  have a0 := put1S hl.1 (b := ⟨y.device, x1, x2, x3⟩) 0 (.string y.device) h (by omega) rfl
  have a1 := put1S hl.1 (b := ⟨y.device, y.metric, x2, x3⟩) 1 (.string y.metric) a0 (by omega) rfl
  have a2 := put1S hl.1 (b := ⟨y.device, y.metric, y.at_, x3⟩) 2 (.int .i64 y.at_) a1 (by omega) rfl
  exact put1S hl.1 (b := y) 3 (.int .i64 y.value) a2 (by omega) rfl

theorem mget {α : Type} {C L : List α} {i p : Nat} (hC : C.length = i) (hp : i ≤ p) : (C ++ L.drop i)[p]? = L[p]? := by
  rw [List.getElem?_append_right (by omega), List.getElem?_drop]
  congr 1
  omega

set_option maxHeartbeats 4000000 in
set_option maxRecDepth 100000 in
theorem compactSa_calls {w : World} {base g off cap : Nat} {L : List Samp} (h : Own w base 51 4 (.slice (some ⟨g, off, none⟩) L.length cap) L.length (flatE encSa L)) (hn : L.length ≤ 1000000000000) (h0 : 0 < L.length) :
    Calls Tryz.prog 59 #[.slice (some ⟨g, off, none⟩) L.length cap] w fun e w' =>
      ∃ m, e = .returned (.slice (some ⟨g, off, none⟩) m cap) ∧ m = (comp L).length ∧ Own w' base 51 4 (.slice (some ⟨g, off, none⟩) m cap) m (flatE encSa (comp L)) ∧ Keeps (fun b => b < w.heap.size ∧ b ≠ g) w w' := by
  have HO := Lib.hid h
  have hcap : L.length ≤ cap := by
    obtain ⟨_, _, c', hv, hc, _⟩ := h.form h0
    simp only [Value.slice.injEq, Option.some.injEq, Addr.mk.injEq] at hv
    obtain ⟨_, _, rfl⟩ := hv
    exact hc
  clear h
  obtain ⟨n, hnn⟩ : ∃ n, L.length = n := ⟨_, rfl⟩
  rw [hnn] at h0 hn hcap HO ⊢
  have HN := Lib.hid hnn
  clear hnn
  by_cases hs2 : n < 2
  · have hd2 : (n : Int) < 2 := by omega
    have HC : Hid (comp L = L) := Lib.hid (comp_short (by rw [HN.out]; exact hs2))
    rw [HC.out]
    go_enter Tryz.func59, Tryz.ntmps59
    go_wp2_with fail
    go_ret
    exact ⟨_, rfl, HN.out.symm, HO.out, Keeps.refl _ _⟩
  · have hd2 : ¬ (n : Int) < 2 := by omega
    go_enter Tryz.func59, Tryz.ntmps59
    go_wp2_with fail
    go_loopw [3] (fun i wr => ∃ k : Nat, k + 1 ≤ n ∧ i = .int .i64 ((k : Int) + 1) ∧ comp (L.take (k + 1)) = L.take (k + 1) ∧ Own wr base 51 4 (.slice (some ⟨g, off, none⟩) n cap) n (flatE encSa L) ∧ Keeps (fun b => b < w.heap.size ∧ b ≠ g) w wr) (fun i _ => n - (intOf i).toNat)
    case atStart => exact ⟨0, by omega, rfl, comp_short (by rw [List.length_take]; omega), HO.out, Keeps.refl _ _⟩
    case round =>
      obtain ⟨k, hk, rfl, hC, hO, hK⟩ := hrel
      have HC := Lib.hid hC
      have HOr := Lib.hid hO
      have HK := Lib.hid hK
      clear hC hO hK
      by_cases hlt : k + 1 < n
      · obtain ⟨x, hx⟩ : ∃ x, L[k + 1]? = some x := ⟨L[k + 1]'(by rw [HN.out]; exact hlt), List.getElem?_eq_getElem _⟩
        obtain ⟨y, hy⟩ : ∃ y, L[k]? = some y := ⟨L[k]'(by rw [HN.out]; omega), List.getElem?_eq_getElem _⟩
        have hd : (k : Int) + 1 < (n : Int) := by omega
        have x1 : IntKind.i64.wrap ((k : Int) + 1 + 1) = (k : Int) + 1 + 1 := IntWalk.i64_in _ (by omega)
        have x2 : IntKind.i64.wrap ((k : Int) + 1 - 1) = (k : Int) := by rw [IntWalk.i64_in _ (by omega)]; omega
        have a0 : wr.cell? ⟨g, off + (k + 1) * 4, none⟩ = some (.string x.device) := HOr.out.cell _ _ (flatE_get encSa_len _ _ _ hx 0 _ rfl)
        have a1 : wr.cell? ⟨g, off + (k + 1) * 4 + 1, none⟩ = some (.string x.metric) := by rw [Nat.add_assoc]; exact HOr.out.cell _ _ (flatE_get encSa_len _ _ _ hx 1 _ rfl)
        have a2 : wr.cell? ⟨g, off + (k + 1) * 4 + 2, none⟩ = some (.int .i64 x.at_) := by rw [Nat.add_assoc]; exact HOr.out.cell _ _ (flatE_get encSa_len _ _ _ hx 2 _ rfl)
        have a3 : wr.cell? ⟨g, off + (k + 1) * 4 + 3, none⟩ = some (.int .i64 x.value) := by rw [Nat.add_assoc]; exact HOr.out.cell _ _ (flatE_get encSa_len _ _ _ hx 3 _ rfl)
        have b0 : wr.cell? ⟨g, off + k * 4, none⟩ = some (.string y.device) := HOr.out.cell _ _ (flatE_get encSa_len _ _ _ hy 0 _ rfl)
        have b1 : wr.cell? ⟨g, off + k * 4 + 1, none⟩ = some (.string y.metric) := by rw [Nat.add_assoc]; exact HOr.out.cell _ _ (flatE_get encSa_len _ _ _ hy 1 _ rfl)
        have b2 : wr.cell? ⟨g, off + k * 4 + 2, none⟩ = some (.int .i64 y.at_) := by rw [Nat.add_assoc]; exact HOr.out.cell _ _ (flatE_get encSa_len _ _ _ hy 2 _ rfl)
        have b3 : wr.cell? ⟨g, off + k * 4 + 3, none⟩ = some (.int .i64 y.value) := by rw [Nat.add_assoc]; exact HOr.out.cell _ _ (flatE_get encSa_len _ _ _ hy 3 _ rfl)
        have hq := fun w => eql51 x y w
        have HT := Lib.hid (comp_take hx hy)
        have HX := Lib.hid hx
        clear hx hy
        go_wp2_with fail
        go_quiet (fail)
        have HO1 := Lib.hid (HOr.out.drewN nq)
        have HK1 := Lib.hid (HK.out.drewN nq)
        clear HOr HK a0 a1 a2 a3 b0 b1 b2 b3
        generalize wr.drewN nq = w1 at *
        obtain ⟨z, hz⟩ : ∃ z, saB x y = z := ⟨_, rfl⟩
        rw [hz]
        rw [saB_comm y x, hz] at HT
        clear hz
        cases z
        · go_wp2_with fail
          refine ⟨⟨k + 1, by omega, by go_num, ?_, HO1.out, HK1.out⟩, by simp [intOf]; omega⟩
          have := HT.out
          rw [HC.out] at this
          have h2 : L.take (k + 2) = L.take (k + 1) ++ [x] := by rw [List.take_add_one, HX.out]; rfl
          show comp (L.take (k + 2)) = L.take (k + 2)
          rw [this, h2]
          rfl
        · have hT : comp (L.take (k + 2)) = L.take (k + 1) := by have := HT.out; rw [HC.out] at this; simpa using this
          have HT2 := Lib.hid hT
          have hic : 0 ≤ (k : Int) + 1 ∧ (k : Int) + 1 ≤ (n : Int) := by omega
          have hne : ¬ cap = k + 1 := by omega
          have htn : ((k : Int) + 1).toNat = k + 1 := by omega
          clear hT HT HC
          go_wp2_with fail
          go_loopw [3, 5] (fun i v wr => ∃ q i' : Nat, q + 1 ≤ n - (k + 1) ∧ v = .int .i64 ((q : Int) + 1) ∧ i = .int .i64 (i' : Int) ∧ (comp (L.take (k + 1 + q + 1))).length = i' ∧ i' ≤ k + 1 + q ∧ Own wr base 51 4 (.slice (some ⟨g, off, none⟩) n cap) n (flatE encSa (comp (L.take (k + 1 + q + 1)) ++ L.drop i')) ∧ Keeps (fun b => b < w.heap.size ∧ b ≠ g) w wr) (fun _ v _ => n - (intOf v).toNat)
          case atStart =>
            refine ⟨0, k + 1, by omega, rfl, by go_num, ?_, by omega, ?_, HK1.out⟩
            · show (comp (L.take (k + 2))).length = k + 1
              rw [HT2.out, List.length_take, HN.out]; omega
            · show Own _ _ _ _ _ _ (flatE encSa (comp (L.take (k + 2)) ++ L.drop (k + 1)))
              rw [HT2.out, List.take_append_drop]
              exact HO1.out
          case round =>
            obtain ⟨q, i', hq1, rfl, rfl, hlen, hle, hO, hK⟩ := hrel
            have HO2 := Lib.hid hO
            have HK2 := Lib.hid hK
            have HLEN := Lib.hid hlen
            clear hO hK hlen
            by_cases hlq : q + 1 < n - (k + 1)
            · obtain ⟨x', hx⟩ : ∃ x, L[k + 1 + q + 1]? = some x := ⟨L[k + 1 + q + 1]'(by rw [HN.out]; omega), List.getElem?_eq_getElem _⟩
              obtain ⟨y', hy⟩ : ∃ y, L[k + 1 + q]? = some y := ⟨L[k + 1 + q]'(by rw [HN.out]; omega), List.getElem?_eq_getElem _⟩
              obtain ⟨m', hm⟩ : ∃ m, L[i']? = some m := ⟨L[i']'(by rw [HN.out]; omega), List.getElem?_eq_getElem _⟩
              have gx := (mget (i := i') HLEN.out (by omega)).trans hx
              have gy := (mget (i := i') HLEN.out (by omega)).trans hy
              have gm := (mget (i := i') HLEN.out (Nat.le_refl _)).trans hm
              have a0 : wr.cell? ⟨g, off + (k + 1) * 4 + (q + 1) * 4, none⟩ = some (.string x'.device) := by rw [show off + (k + 1) * 4 + (q + 1) * 4 = off + ((k + 1 + q + 1) * 4 + 0) by omega]; exact HO2.out.cell _ _ (flatE_get encSa_len _ _ _ gx 0 _ rfl)
              have a1 : wr.cell? ⟨g, off + (k + 1) * 4 + (q + 1) * 4 + 1, none⟩ = some (.string x'.metric) := by rw [show off + (k + 1) * 4 + (q + 1) * 4 + 1 = off + ((k + 1 + q + 1) * 4 + 1) by omega]; exact HO2.out.cell _ _ (flatE_get encSa_len _ _ _ gx 1 _ rfl)
              have a2 : wr.cell? ⟨g, off + (k + 1) * 4 + (q + 1) * 4 + 2, none⟩ = some (.int .i64 x'.at_) := by rw [show off + (k + 1) * 4 + (q + 1) * 4 + 2 = off + ((k + 1 + q + 1) * 4 + 2) by omega]; exact HO2.out.cell _ _ (flatE_get encSa_len _ _ _ gx 2 _ rfl)
              have a3 : wr.cell? ⟨g, off + (k + 1) * 4 + (q + 1) * 4 + 3, none⟩ = some (.int .i64 x'.value) := by rw [show off + (k + 1) * 4 + (q + 1) * 4 + 3 = off + ((k + 1 + q + 1) * 4 + 3) by omega]; exact HO2.out.cell _ _ (flatE_get encSa_len _ _ _ gx 3 _ rfl)
              have b0 : wr.cell? ⟨g, off + (k + 1) * 4 + q * 4, none⟩ = some (.string y'.device) := by rw [show off + (k + 1) * 4 + q * 4 = off + ((k + 1 + q) * 4 + 0) by omega]; exact HO2.out.cell _ _ (flatE_get encSa_len _ _ _ gy 0 _ rfl)
              have b1 : wr.cell? ⟨g, off + (k + 1) * 4 + q * 4 + 1, none⟩ = some (.string y'.metric) := by rw [show off + (k + 1) * 4 + q * 4 + 1 = off + ((k + 1 + q) * 4 + 1) by omega]; exact HO2.out.cell _ _ (flatE_get encSa_len _ _ _ gy 1 _ rfl)
              have b2 : wr.cell? ⟨g, off + (k + 1) * 4 + q * 4 + 2, none⟩ = some (.int .i64 y'.at_) := by rw [show off + (k + 1) * 4 + q * 4 + 2 = off + ((k + 1 + q) * 4 + 2) by omega]; exact HO2.out.cell _ _ (flatE_get encSa_len _ _ _ gy 2 _ rfl)
              have b3 : wr.cell? ⟨g, off + (k + 1) * 4 + q * 4 + 3, none⟩ = some (.int .i64 y'.value) := by rw [show off + (k + 1) * 4 + q * 4 + 3 = off + ((k + 1 + q) * 4 + 3) by omega]; exact HO2.out.cell _ _ (flatE_get encSa_len _ _ _ gy 3 _ rfl)
              have c0 : wr.cell? ⟨g, off + i' * 4, none⟩ = some (.string m'.device) := by rw [show off + i' * 4 = off + (i' * 4 + 0) by omega]; exact HO2.out.cell _ _ (flatE_get encSa_len _ _ _ gm 0 _ rfl)
              have c1 : wr.cell? ⟨g, off + i' * 4 + 1, none⟩ = some (.string m'.metric) := by rw [show off + i' * 4 + 1 = off + (i' * 4 + 1) by omega]; exact HO2.out.cell _ _ (flatE_get encSa_len _ _ _ gm 1 _ rfl)
              have c2 : wr.cell? ⟨g, off + i' * 4 + 2, none⟩ = some (.int .i64 m'.at_) := by rw [show off + i' * 4 + 2 = off + (i' * 4 + 2) by omega]; exact HO2.out.cell _ _ (flatE_get encSa_len _ _ _ gm 2 _ rfl)
              have c3 : wr.cell? ⟨g, off + i' * 4 + 3, none⟩ = some (.int .i64 m'.value) := by rw [show off + i' * 4 + 3 = off + (i' * 4 + 3) by omega]; exact HO2.out.cell _ _ (flatE_get encSa_len _ _ _ gm 3 _ rfl)
              have fz : ∀ o, wr.frozen? ⟨g, o, none⟩ = false := fun o => HO2.out.frozen o
              have hdq : (q : Int) + 1 < ((n - (k + 1) : Nat) : Int) := by omega
              have x3 : IntKind.i64.wrap ((q : Int) + 1 + 1) = (q : Int) + 1 + 1 := IntWalk.i64_in _ (by omega)
              have x4 : IntKind.i64.wrap ((q : Int) + 1 - 1) = (q : Int) := by rw [IntWalk.i64_in _ (by omega)]; omega
              have x5 : IntKind.i64.wrap ((i' : Int) + 1) = (i' : Int) + 1 := IntWalk.i64_in _ (by omega)
              have hin : (i' : Int) < (n : Int) := by omega
              have hq2 := fun w => neq51 x' y' w
              have HT3 := Lib.hid (comp_take hx hy)
              have HP := fun (w : World) => putSa (w := w) (base := base) (g := g) (off := off) (cap := cap) (n := n) gm x'
              have HPP := Lib.hid HP
              have HMS := Lib.hid (mid_set (x' := x') HLEN.out hm)
              clear hx hy hm gx gy gm HP
              obtain ⟨z, hz⟩ : ∃ z, saB x' y' = z := ⟨_, rfl⟩
              rw [saB_comm y' x', hz] at HT3
              rw [hz] at hq2
              clear hz
              cases z
              · go_wp2_with fail
                go_quiet (fail)
                go_wp2_with fail
                have hcm : comp (L.take (k + 1 + (q + 1) + 1)) = comp (L.take (k + 1 + q + 1)) ++ [x'] := HT3.out
                refine ⟨⟨q + 1, i' + 1, by omega, by go_num, by go_num, ?_, by omega, ?_, ?_⟩, by simp [intOf]; omega⟩
                · rw [hcm, List.length_append, HLEN.out]; rfl
                · have := HPP.out (wr.drewN nq) (HO2.out.drewN nq)
                  rw [HMS.out, ← hcm] at this
                  exact this
                · exact ((((HK2.out.drewN nq).setCell (by simp) _).setCell (by simp) _).setCell (by simp) _).setCell (by simp) _
              · go_wp2_with fail
                go_quiet (fail)
                go_wp2_with fail
                have hcm : comp (L.take (k + 1 + (q + 1) + 1)) = comp (L.take (k + 1 + q + 1)) := by
                  have := HT3.out
                  rw [show (bif true then ([] : List Samp) else [x']) = [] from rfl, List.append_nil] at this
                  exact this
                exact ⟨⟨q + 1, i', by omega, by go_num, rfl, by rw [hcm]; exact HLEN.out, by omega, by rw [hcm]; exact HO2.out.drewN nq, HK2.out.drewN nq⟩, by simp [intOf]; omega⟩
            · have hqn : k + 1 + q + 1 = n := by omega
              have hdq : ¬ (q : Int) + 1 < ((n - (k + 1) : Nat) : Int) := by omega
              have hfull : L.take (k + 1 + q + 1) = L := by rw [hqn, ← HN.out]; exact List.take_length
              rw [hfull] at HLEN HO2
              have hin : i' < n := by omega
              have hdi : 0 ≤ (i' : Int) ∧ (i' : Int) ≤ (n : Int) := by omega
              have hci : ¬ cap = i' := by omega
              have hicap : i' ≤ cap := by omega
              have hl2 := HO2.out.1
              have hclr := run_clear_agg (P := Tryz.prog) wr 23 51 0 _ Tryz.underlying23 zero51 (by simp [Value.cells, Value.oneCell']) g (off + i' * 4) (n - i') (cap - i') 4 rfl (by omega) (fun j hj => by
                have := HO2.out.cell (i' * 4 + j) _ (List.getElem?_eq_getElem (by rw [hl2]; omega))
                rw [← Nat.add_assoc] at this
                rw [this]
                rfl) (fun j hj => HO2.out.frozen _)
              clear hl2
              go_wp2_with fail
              go_ret
              have hz4 : (Builtin.zeroCells (Value.agg #[Value.string ByteArray.empty, Value.string ByteArray.empty, Value.int IntKind.i64 0, Value.int IntKind.i64 0]).cells (n - i')).toList.length = (n - i') * 4 := by simp [size_zeroCells, Value.cells]
              refine ⟨i', rfl, HLEN.out.symm, ?_, HK2.out.setCells (by simp) _ _⟩
              have hl1 := HO2.out.1
              have O3 := (HO2.out.setCells (Builtin.zeroCells (Value.agg #[Value.string ByteArray.empty, Value.string ByteArray.empty, Value.int IntKind.i64 0, Value.int IntKind.i64 0]).cells (n - i')).toList (i' * 4)).shrink (m := i') (by omega)
              rw [setL_eq _ _ _ (by rw [hl1, hz4]; omega), List.take_left' (by rw [List.length_take, hl1]; omega), flatE, List.flatMap_append, List.take_left' (by rw [flatE_length encSa_len, HLEN.out])] at O3
              exact O3
      · have hkn : k + 1 = n := by omega
        have hd : ¬ (k : Int) + 1 < (n : Int) := by omega
        have hfull : L.take (k + 1) = L := by rw [hkn, ← HN.out]; exact List.take_length
        rw [hfull] at HC
        go_wp2_with fail
        go_ret
        exact ⟨n, rfl, by rw [HC.out, HN.out], by rw [HC.out]; exact HOr.out, HK.out⟩
end Go.Proofs.YteandmolnbcmmaaGreatDoor
