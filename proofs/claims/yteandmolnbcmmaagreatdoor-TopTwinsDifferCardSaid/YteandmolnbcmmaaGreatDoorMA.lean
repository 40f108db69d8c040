/- A loop that turns each element of a slice of the call's own: the list after i rounds, and one cell stored. Walk: TopCountsAreBlind. No condition beyond what each theorem states. -/
import Derived.Test.YteandmolnbcmmaaGreatDoorKU
import Derived.Test.YteandmolnbcmmaaGreatDoorLB

namespace Go.Proofs.YteandmolnbcmmaaGreatDoor
open Go.RowKit Go.Sort

def updL {α : Type} (f : α → α) (i : Nat) (L : List α) : List α := (L.take i).map f ++ L.drop i

section
variable {α : Type} {f : α → α}
theorem updL_zero (L : List α) : updL f 0 L = L := by simp [updL]
theorem updL_all {n : Nat} {L : List α} (h : L.length = n) : updL f n L = L.map f := by
  subst h
  simp [updL]
theorem updL_len (i : Nat) (L : List α) : (updL f i L).length = L.length := by
  simp only [updL, List.length_append, List.length_map, List.length_take, List.length_drop]
  omega
theorem updL_get {i : Nat} {L : List α} {x : α} (h : L[i]? = some x) : (updL f i L)[i]? = some x := by
  have hl := (List.getElem?_eq_some_iff.1 h).1
  unfold updL
  rw [List.getElem?_append_right (by simp; omega), List.getElem?_drop]
  simp only [List.length_map, List.length_take]
  rw [show i + (i - min i L.length) = i by omega]
  exact h
theorem updL_set {i : Nat} {L : List α} {x : α} (h : L[i]? = some x) : (updL f i L).set i (f x) = updL f (i + 1) L := by
  have hl := (List.getElem?_eq_some_iff.1 h).1
  have hd : L.drop i = x :: L.drop (i + 1) := by
    rw [List.drop_eq_getElem_cons hl]
    congr 1
    exact (List.getElem?_eq_some_iff.1 h).2
  unfold updL
  rw [List.set_append_right _ _ (by simp; omega), hd, List.take_add_one, h]
  simp only [List.length_map, List.length_take, Option.toList_some, List.map_append, List.map_cons, List.map_nil, List.append_assoc]
  rw [show i - min i L.length = 0 by omega]
  rfl
end

theorem flatE_set {α : Type} {enc : α → List Value} {k : Nat} (hk : ∀ x, (enc x).length = k) : ∀ {l : List α} {i : Nat} {x x' : α} {j : Nat} {u : Value}, l[i]? = some x → enc x' = (enc x).set j u → j < k →
    (flatE enc l).set (i * k + j) u = flatE enc (l.set i x')
  | [], i, _, _, _, _, h, _, _ => by simp at h
  | a :: l, 0, x, x', j, u, h, hj, hjk => by
    have : a = x := by simpa using h
    subst this
    simp only [Nat.zero_mul, Nat.zero_add, flatE, List.flatMap_cons, List.set_cons_zero, hj]
    rw [List.set_append_left _ _ (by rw [hk]; exact hjk)]
  | a :: l, i + 1, x, x', j, u, h, hj, hjk => by
    have ih := flatE_set (enc := enc) hk (l := l) (i := i) (x := x) (x' := x') (j := j) (u := u) (by simpa using h) hj hjk
    simp only [flatE, List.flatMap_cons, List.set_cons_succ] at ih ⊢
    rw [List.set_append_right _ _ (by rw [hk, Nat.succ_mul]; omega), hk, show (i + 1) * k + j - k = i * k + j by rw [Nat.succ_mul]; omega, ih]

theorem Own.frozen {w : World} {base : Nat} {e : TypeId} {k n g off cap : Nat} {xs : List Value} (h : Own w base e k (.slice (some ⟨g, off, none⟩) n cap) n xs) (o : Nat) : w.frozen? ⟨g, o, none⟩ = false := by
  rcases h.2 with ⟨hv, _⟩ | ⟨g', off', cap', cur, hv, _, hgg, _⟩
  · cases hv
  · simp only [Value.slice.injEq, Option.some.injEq, Addr.mk.injEq] at hv
    obtain ⟨⟨rfl, _, _⟩, _, _⟩ := hv
    exact frozen_of_row w g o cur e hgg

/-- While the loop runs: after i rounds; F: what no round writes. -/
structure InP {α : Type} (enc : α → List Value) (f : α → α) (e : TypeId) (k base : Nat) (w0 wr : World) (v : Value) (L : List α) (i : Nat) : Prop where
  own : Own wr base e k v L.length (flatE enc (updL f i L))
  kp : Keeps (fun b => b < w0.heap.size ∧ some b ≠ v.ownBlock) w0 wr

section
variable {α : Type} {enc : α → List Value} {f : α → α} {e : TypeId} {k base : Nat} {w0 wr : World} {v : Value} {L : List α} {i : Nat}
theorem InP.start (h : Own w0 base e k v L.length (flatE enc L)) : InP enc f e k base w0 w0 v L 0 := ⟨by rw [updL_zero]; exact h, Keeps.refl _ _⟩
theorem InP.done (h : InP enc f e k base w0 wr v L i) (hi : L.length = i) : Own wr base e k v (L.map f).length (flatE enc (L.map f)) := by
  have := h.own
  rw [updL_all hi] at this
  rw [List.length_map]
  exact this
end
end Go.Proofs.YteandmolnbcmmaaGreatDoor

namespace Go.Proofs.YteandmolnbcmmaaGreatDoor
open Go.RowKit Go.Sort

def cntR (r : Rule) : Rule := { r with agg := 5 }

theorem sizedR_map {f : Rule → Rule} (hf : ∀ r, (f r).key = r.key ∧ (f r).metric = r.metric) {rs : List Rule} (h : SizedR rs) : SizedR (rs.map f) := by
  intro r hr
  obtain ⟨x, hx, rfl⟩ := List.mem_map.1 hr
  rw [(hf x).1, (hf x).2]
  exact h x hx

theorem InP.cnt {base : Nat} {w0 wr : World} {g off n cap : Nat} {L : List Rule} {i : Nat} {x : Rule} (hn : L.length = n) (h : InP encR cntR 31 10 base w0 wr (.slice (some ⟨g, off, none⟩) n cap) L i) (hx : L[i]? = some x) :
    InP encR cntR 31 10 base w0 (wr.setCell ⟨g, off + i * 10 + 2, none⟩ (.int .i64 5)) (.slice (some ⟨g, off, none⟩) n cap) L (i + 1) := by
  subst hn
  refine ⟨?_, h.kp.setCell (by simp [Value.ownBlock]) _⟩
  have := h.own.setAt (i * 10 + 2) (.int .i64 5)
  rw [flatE_set encR_len (updL_get hx) (x' := cntR x) (j := 2) (u := .int .i64 5) rfl (by omega), updL_set hx] at this
  rw [Nat.add_assoc]
  exact this

def blindG (a b v : Int) : Int := (wrap64 (wrap64 (v.tmod 1000 * a.tmod 1000) + b)).tmod 1000

def valS (G : Int → Int) (s : Samp) : Samp := { s with value := G s.value }

theorem InP.val {G : Int → Int} {base : Nat} {w0 wr : World} {g off n cap : Nat} {L : List Samp} {i : Nat} {x : Samp} (hn : L.length = n) (h : InP encSa (valS G) 51 4 base w0 wr (.slice (some ⟨g, off, none⟩) n cap) L i) (hx : L[i]? = some x) {u : Int} (hu : u = G x.value) :
    InP encSa (valS G) 51 4 base w0 (wr.setCell ⟨g, off + i * 4 + 3, none⟩ (.int .i64 u)) (.slice (some ⟨g, off, none⟩) n cap) L (i + 1) := by
  subst hn hu
  refine ⟨?_, h.kp.setCell (by simp [Value.ownBlock]) _⟩
  have := h.own.setAt (i * 4 + 3) (.int .i64 (G x.value))
  rw [flatE_set encSa_len (updL_get hx) (x' := valS G x) (j := 3) (u := .int .i64 (G x.value)) rfl (by omega), updL_set hx] at this
  rw [Nat.add_assoc]
  exact this

theorem sizedSa_val {G : Int → Int} {l : List Samp} (h : SizedSa l) : SizedSa (l.map (valS G)) := by
  intro r hr
  obtain ⟨x, hx, rfl⟩ := List.mem_map.1 hr
  exact h x hx

set_option maxHeartbeats 4000000 in
set_option maxRecDepth 100000 in
theorem blind_calls {w : World} {rv sv : Value} {rs : List Rule} {l : List Samp} {f t a b : Int} (hr : ReadsK w 10 rv (rs.map encR)) (hs : ReadsK w 4 sv (l.map encSa)) (hzr : SizedR rs) (hzs : SizedSa l) (hlen : rs.length * 96 ≤ 140737488355328) :
    Calls Tryz.prog 13 #[rv, sv, .agg #[.int .i64 f, .int .i64 t], .int .i64 a, .int .i64 b] w (Yes w) := by
  have HG := Lib.hid ((Grows.refl w).alloc (.cells #[.int .i64 f, .int .i64 t] 25))
  have W1 := Lib.hid (Blk.new w 25 #[.int .i64 f, .int .i64 t])
  have HR := Lib.hid (HG.out.reads hr)
  have HS := Lib.hid (HG.out.reads hs)
  have HZ := Lib.hid (sizedR_map (f := cntR) (fun r => ⟨rfl, rfl⟩) hzr)
  have HY := Lib.hid hzs
  have HL := Lib.hid hlen
  obtain ⟨n, hn⟩ : ∃ n, rs.length = n := ⟨_, rfl⟩
  have hn47 : n * 96 ≤ 140737488355328 := by omega
  have HN := Lib.hid hn
  clear hr hs hzr hzs hlen hn
  go_enter Tryz.func13, Tryz.ntmps13
  go_wp2_with fail
  refine (clone37_calls HR.out HL.out).mono ?_
  rintro e w2 ⟨⟨ov, rfl, hO⟩, hB⟩
  rw [HN.out, show (w.alloc (.cells #[.int .i64 f, .int .i64 t] 25)).heap.size = w.heap.size + 1 by simp] at hO
  obtain ⟨A, c, hv, hc⟩ := hO.slice
  subst hv
  have O2 := Lib.hid hO
  have B2 := Lib.hid (Below.then HG.out.below hB)
  have K2 := Lib.hid (Keeps.of_below hB)
  clear hO hB HR HL
  go_wp2_with fail
  go_loopw [21] (fun i wr => ∃ k : Nat, k ≤ n ∧ i = .int .i64 k ∧ InP encR cntR 31 10 (w.heap.size + 1) w2 wr (.slice A n c) rs k) (fun i _ => n - (intOf i).toNat)
  case atStart => exact ⟨0, Nat.zero_le _, rfl, InP.start (by rw [HN.out]; exact O2.out)⟩
  case round =>
    obtain ⟨k, hk, rfl, hW⟩ := hrel
    have HW := Lib.hid hW
    clear hW
    by_cases hlt : k < n
    · obtain ⟨r, hs⟩ : ∃ r, rs[k]? = some r := ⟨rs[k]'(by rw [HN.out]; exact hlt), List.getElem?_eq_getElem _⟩
      obtain ⟨g, off, cap, hv, hcap, hb, hgl⟩ := HW.out.own.form (by rw [HN.out]; omega)
      rw [HN.out] at hv
      simp only [Value.slice.injEq, true_and] at hv
      obtain ⟨rfl, rfl⟩ := hv
      have hd : (k : Int) < (n : Int) := by omega
      have x1 : IntKind.i64.wrap ((k : Int) + 1) = (k : Int) + 1 := IntWalk.i64_in _ (by omega)
      have d2 : wr.cell? ⟨g, off + k * 10 + 2, none⟩ = some (.int .i64 r.agg) := by rw [Nat.add_assoc]; exact (HN.out ▸ HW.out.own).cell _ _ (flatE_get encR_len _ _ _ (updL_get hs) 2 _ rfl)
      have HX := Lib.hid hs
      clear hs
      have f2 : wr.frozen? ⟨g, off + k * 10 + 2, none⟩ = false := Own.frozen (HN.out ▸ HW.out.own) _
      go_wp2_with fail
      exact ⟨⟨k + 1, by omega, by go_num, HW.out.cnt HN.out HX.out⟩, by simp [intOf]; omega⟩
    · have hkn : k = n := by omega
      subst hkn
      have hd : ¬ (k : Int) < (k : Int) := by omega
      obtain ⟨wq, rfl⟩ : ∃ x, x = wr := ⟨_, rfl⟩
      have sz1 : (w.alloc (.cells #[.int .i64 f, .int .i64 t] 25)).heap.size = w.heap.size + 1 := by simp
      have K3 : Hid (Keeps (· < w.heap.size + 1) (w.alloc (.cells #[.int .i64 f, .int .i64 t] 25)) wq) := Lib.hid (by
        have hk2 := K2.out
        rw [sz1] at hk2
        have hz := hk2.size
        rw [sz1] at hz
        refine hk2.trans (HW.out.kp.mono fun b hb => ⟨by omega, fun e => ?_⟩)
        have := (O2.out.lt b e.symm).1
        omega)
      have W3 := Lib.hid (K3.out.blk W1.out (by omega))
      have e0 := W3.out.cell 0
      have e1 := W3.out.cell 1
      have HS3 := Lib.hid (K3.out.reads (fun b hb => by rw [sz1] at hb; exact hb) HS.out)
      have HR3 := Lib.hid (HW.out.done HN.out |>.reads encR_len)
      have B3 := Lib.hid (HG.out.below.trans (K3.out.below.mono (Nat.le_succ _)))
      have HC := Lib.hid (wSpells_calls (f := f) (t := t) HR3.out HS3.out HZ.out HY.out)
      clear K2 B2 W1 HG HW O2
      obtain ⟨rs', hrs'⟩ : ∃ rs', rs.map cntR = rs' := ⟨_, rfl⟩
      rw [hrs'] at HR3 HZ HC
      have HRS := Lib.hid hrs'
      clear hrs'
      go_wp2_with fail
      refine HC.out.mono ?_
      rintro e w3 ⟨⟨ov, rfl, hO⟩, hB⟩
      have HSZ : Hid (w.heap.size + 1 ≤ wq.heap.size) := Lib.hid (by have := K3.out.size; rwa [sz1] at this)
      have B4 := Lib.hid (Below.then B3.out hB)
      have K4 := Lib.hid (Keeps.of_below hB)
      by_cases hf : faultOf rs' l (f, t) = 0
      · rw [decide_eq_true hf]
        rw [WPost.some_ hf] at hO
        have O4 := Lib.hid hO
        obtain ⟨k1, k2, k3⟩ := faultOf_ok hf
        have HC2 := Lib.hid k2
        have HC3 := Lib.hid k3
        have HGR := Lib.hid (chkR_ok k1)
        have HGL := Lib.hid (chkS_ok k2)
        clear hO hB k1 k2 k3 hf
        go_wp2_with fail
        refine (facts_calls _).mono ?_
        rintro e w4 ⟨rfl, hb⟩
        have B5 := Lib.hid (Below.then B4.out hb)
        have K5 := Lib.hid (K4.out.trans ((Keeps.of_below hb).mono fun k hk => Nat.lt_of_lt_of_le hk K4.out.size))
        have O5 := Lib.hid (O4.out.keeps (Keeps.of_below hb) fun g hg => (O4.out.lt g hg).2)
        have hl5 := HGL.out.len
        have W5 := Lib.hid (K5.out.blk W3.out W3.out.lt)
        have HS5 := Lib.hid (K5.out.reads (fun _ h => h) HS3.out)
        have HR5 := Lib.hid (K5.out.reads (fun _ h => h) HR3.out)
        have HCL := Lib.hid (clone35_calls HS5.out (by omega))
        clear hb O4 B4 K4 HS3 HR3 W3 e0 e1 HC
        go_wp2_with fail
        refine HCL.out.mono ?_
        rintro e w5 ⟨⟨ov2, rfl, hO⟩, hB⟩
        obtain ⟨A2, c2, hv2, hc2⟩ := hO.slice
        subst hv2
        obtain ⟨m, hm⟩ : ∃ m, l.length = m := ⟨_, rfl⟩
        rw [hm] at hO hl5 hc2 ⊢
        have HM := Lib.hid hm
        have O6 := Lib.hid hO
        have K6 := Lib.hid (Keeps.of_below hB)
        have X5 := Lib.hid (O5.out.reads encSp_len)
        have hXl := spells_len (w := (f, t)) HGR.out HGL.out
        clear hm hO hB K5 O5 HCL
        go_wp2_with fail
        go_loopw [52] (fun i wr => ∃ k : Nat, k ≤ m ∧ i = .int .i64 k ∧ InP encSa (valS (blindG a b)) 51 4 w4.heap.size w5 wr (.slice A2 m c2) l k) (fun i _ => m - (intOf i).toNat)
        case atStart => exact ⟨0, Nat.zero_le _, rfl, InP.start (by rw [HM.out]; exact O6.out)⟩
        case round =>
          obtain ⟨j, hj, rfl, hW⟩ := hrel
          have HW := Lib.hid hW
          clear hW
          by_cases hlt : j < m
          · obtain ⟨s, hs⟩ : ∃ s, l[j]? = some s := ⟨l[j]'(by rw [HM.out]; exact hlt), List.getElem?_eq_getElem _⟩
            obtain ⟨g, off, cap, hv, hcap, hb, hgl⟩ := HW.out.own.form (by rw [HM.out]; omega)
            rw [HM.out] at hv
            simp only [Value.slice.injEq, true_and] at hv
            obtain ⟨rfl, rfl⟩ := hv
            have hd : (j : Int) < (m : Int) := by omega
            have x1 : IntKind.i64.wrap ((j : Int) + 1) = (j : Int) + 1 := IntWalk.i64_in _ (by omega)
            have d2 : wr.cell? ⟨g, off + j * 4 + 3, none⟩ = some (.int .i64 s.value) := by rw [Nat.add_assoc]; exact (HM.out ▸ HW.out.own).cell _ _ (flatE_get encSa_len _ _ _ (updL_get hs) 3 _ rfl)
            have HX := Lib.hid hs
            clear hs
            have f2 : wr.frozen? ⟨g, off + j * 4 + 3, none⟩ = false := Own.frozen (HM.out ▸ HW.out.own) _
            go_wp2_with fail
            exact ⟨⟨j + 1, by omega, by go_num, HW.out.val HM.out HX.out rfl⟩, by simp [intOf]; omega⟩
          · have hjm : j = m := by omega
            subst hjm
            have hd : ¬ (j : Int) < (j : Int) := by omega
            have K7 : Hid (Keeps (· < w4.heap.size) w4 wr) := Lib.hid (K6.out.trans (HW.out.kp.mono fun b hb => ⟨Nat.lt_of_lt_of_le hb K6.out.size, fun e => by have := (O6.out.lt b e.symm).1; omega⟩))
            have W7 := Lib.hid (K7.out.blk W5.out W5.out.lt)
            have e0 := W7.out.cell 0
            have e1 := W7.out.cell 1
            have HR7 := Lib.hid (K7.out.reads (fun _ h => h) HR5.out)
            have X7 := Lib.hid (K7.out.reads (fun _ h => h) X5.out)
            have HS7 := Lib.hid (HW.out.done HM.out |>.reads encSa_len)
            have B7 := Lib.hid (Below.then B5.out K7.out.below)
            have HA := Lib.hid (wAlike_calls (f := f) (t := t) X7.out HR7.out HS7.out HZ.out (sizedSa_val HY.out) (law_blind HGR.out HGL.out HC3.out (fun r hr => by
              rw [← HRS.out] at hr
              obtain ⟨x, _, rfl⟩ := List.mem_map.1 hr
              rfl) (blindG a b)) (by omega))
            clear K7 W7 HR7 X7 HS7 HW K6
            go_wp2_with fail
            refine HA.out.mono ?_
            rintro e w8 ⟨rfl, hb⟩
            have B8 := Lib.hid (Below.then B7.out hb)
            clear hb
            go_wp2_with fail
            go_ret
            exact ⟨rfl, B8.out⟩
      · rw [decide_eq_false hf]
        rw [WPost.none_ hf] at hO
        obtain ⟨A2, c2, hv2, _⟩ := hO.slice
        subst hv2
        clear hO hB
        go_wp2_with fail
        refine (facts_calls _).mono ?_
        rintro e w4 ⟨rfl, hb⟩
        have B5 := Lib.hid (Below.then B4.out hb)
        clear hb
        go_wp2_with fail
        go_ret
        exact ⟨rfl, B5.out⟩

end Go.Proofs.YteandmolnbcmmaaGreatDoor
