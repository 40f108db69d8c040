/- One cell stored in a loop that turns an own slice, whatever its elements. Walk: TopDevicesNamed. No condition beyond what each theorem states. -/
import Derived.Test.YteandmolnbcmmaaGreatDoorMA

namespace Go.Proofs.YteandmolnbcmmaaGreatDoor
open Go.RowKit Go.Sort

section
variable {α : Type} {enc : α → List Value} {f : α → α} {e : TypeId} {k base : Nat} {w0 wr : World} {g off n cap : Nat} {L : List α} {i : Nat} {x : α}
theorem InP.step (hk : ∀ x, (enc x).length = k) (hn : L.length = n) (h : InP enc f e k base w0 wr (.slice (some ⟨g, off, none⟩) n cap) L i) (hx : L[i]? = some x) (j : Nat) (hj : j < k) {u : Value} (hu : enc (f x) = (enc x).set j u) :
    InP enc f e k base w0 (wr.setCell ⟨g, off + i * k + j, none⟩ u) (.slice (some ⟨g, off, none⟩) n cap) L (i + 1) := by
  subst hn
  refine ⟨?_, h.kp.setCell (by simp [Value.ownBlock]) _⟩
  have := h.own.setAt (i * k + j) u
  rw [flatE_set hk (updL_get hx) hu hj, updL_set hx] at this
  rw [Nat.add_assoc]
  exact this

theorem InP.step2 (hk : ∀ x, (enc x).length = k) (hn : L.length = n) (h : InP enc f e k base w0 wr (.slice (some ⟨g, off, none⟩) n cap) L i) (hx : L[i]? = some x) (y : α) (j j' : Nat) (hj : j < k) (hj' : j' < k) {u u' : Value} (hy : enc y = (enc x).set j u) (hu : enc (f x) = (enc y).set j' u') :
    InP enc f e k base w0 ((wr.setCell ⟨g, off + i * k + j, none⟩ u).setCell ⟨g, off + i * k + j', none⟩ u') (.slice (some ⟨g, off, none⟩) n cap) L (i + 1) := by
  subst hn
  refine ⟨?_, (h.kp.setCell (by simp [Value.ownBlock]) _).setCell (by simp [Value.ownBlock]) _⟩
  have := (h.own.setAt (i * k + j) u).setAt (i * k + j') u'
  have hl := (List.getElem?_eq_some_iff.1 (updL_get (f := f) hx)).1
  rw [flatE_set hk (updL_get hx) hy hj, flatE_set hk (x := y) (by rw [List.getElem?_set_self hl]) hu hj', List.set_set, updL_set hx] at this
  rw [Nat.add_assoc, Nat.add_assoc]
  exact this

theorem InP.drew {v : Value} (h : InP enc f e k base w0 wr v L i) : InP enc f e k base w0 wr.drew v L i := ⟨h.own.drew, h.kp.drew⟩

theorem InP.cell (hk : ∀ x, (enc x).length = k) (hn : L.length = n) (h : InP enc f e k base w0 wr (.slice (some ⟨g, off, none⟩) n cap) L i) (hx : L[i]? = some x) (j : Nat) {u : Value} (hu : (enc x)[j]? = some u) : wr.cell? ⟨g, off + i * k + j, none⟩ = some u := by
  subst hn
  rw [Nat.add_assoc]
  exact h.own.cell _ _ (flatE_get hk _ _ _ (updL_get hx) j _ hu)

theorem InP.frozen (hn : L.length = n) (h : InP enc f e k base w0 wr (.slice (some ⟨g, off, none⟩) n cap) L i) (o : Nat) : wr.frozen? ⟨g, o, none⟩ = false := by
  subst hn
  exact h.own.frozen o

theorem InP.form {A : Option Addr} (hn : L.length = n) (h : InP enc f e k base w0 wr (.slice A n cap) L i) (h0 : 0 < n) : ∃ g off, A = some ⟨g, off, none⟩ := by
  subst hn
  obtain ⟨g, off, cap', hv, _⟩ := h.own.form h0
  simp only [Value.slice.injEq, true_and] at hv
  exact ⟨g, off, hv.1⟩
end

theorem key_small {s : ByteArray} (h : keyB s = true) : s.size ≤ 40 := by
  obtain ⟨⟨l⟩⟩ := s
  unfold keyB at h
  cases l with
  | nil => exact Nat.zero_le _
  | cons c l =>
    simp only [keyL, Bool.and_eq_true, decide_eq_true_eq] at h
    exact h.1.1

theorem spells_keys {rs : List Rule} {l : List Samp} {w : Int × Int} (hr : GoodRs rs) (hl : GoodL l) {s : Spell} (h : s ∈ spells rs l w) : s.device.size ≤ 40 ∧ s.rule.size ≤ 40 := by
  unfold spells at h
  obtain ⟨r, hr', hu, hd⟩ := mem_raw ((sort3_perm spKey _).subset h)
  obtain ⟨x, hx, _, he⟩ := (mem_devs _ _ _).1 hd
  refine ⟨?_, ?_⟩
  · rw [← he]
    exact key_small (hl.each x hx).device
  · unfold unit at hu
    obtain ⟨y, _, hy⟩ := List.mem_map.1 hu
    have hk : s.rule = r.key := by rw [← hy]; rfl
    rw [hk]
    exact key_small (hr.each r hr').2.1

theorem cat_pre (c : UInt8) (s : ByteArray) : (⟨#[c]⟩ : ByteArray) ++ s = pre c s := by
  apply ByteArray.ext
  rw [ByteArray.data_append]
  apply Array.ext'
  simp [pre]

theorem pre_size (c : UInt8) (s : ByteArray) : (pre c s).size = s.size + 1 := by
  rw [← cat_pre, ByteArray.size_append]
  exact Nat.add_comm 1 s.size
end Go.Proofs.YteandmolnbcmmaaGreatDoor

namespace Go.Proofs.YteandmolnbcmmaaGreatDoor
open Go.RowKit Go.Sort

set_option maxHeartbeats 4000000 in
set_option maxRecDepth 100000 in
theorem devnamed_calls {w : World} {rv sv : Value} {rs : List Rule} {l : List Samp} {f t : Int} (hr : ReadsK w 10 rv (rs.map encR)) (hs : ReadsK w 4 sv (l.map encSa)) (hzr : SizedR rs) (hzs : SizedSa l) :
    Calls Tryz.prog 10 #[rv, sv, .agg #[.int .i64 f, .int .i64 t]] w (Yes w) := by
  have HG := Lib.hid ((Grows.refl w).alloc (.cells #[.int .i64 f, .int .i64 t] 25))
  have W1 := Lib.hid (Blk.new w 25 #[.int .i64 f, .int .i64 t])
  have HR := Lib.hid (HG.out.reads hr)
  have HS := Lib.hid (HG.out.reads hs)
  have HZ := Lib.hid hzr
  have HY := Lib.hid hzs
  have HW := Lib.hid (wSpells_calls (f := f) (t := t) HR.out HS.out hzr hzs)
  clear hr hs hzr hzs
  go_enter Tryz.func10, Tryz.ntmps10
  go_wp2_with fail
  refine HW.out.mono ?_
  rintro e w3 ⟨⟨ov, rfl, hO⟩, hB⟩
  have B4 := Lib.hid (Below.then HG.out.below hB)
  have K4 := Lib.hid (Keeps.of_below hB)
  by_cases hf : faultOf rs l (f, t) = 0
  · rw [decide_eq_true hf]
    rw [WPost.some_ hf] at hO
    have O4 := Lib.hid hO
    obtain ⟨k1, k2, k3⟩ := faultOf_ok hf
    have HC1 := Lib.hid k1
    have HC3 := Lib.hid k3
    have HGR := Lib.hid (chkR_ok k1)
    have HGL := Lib.hid (chkS_ok k2)
    clear hO hB k1 k2 k3 hf
    go_wp2_with fail
    refine (facts_calls _).mono ?_
    rintro e w4 ⟨rfl, hb⟩
    have B5 := Lib.hid (Below.then B4.out hb)
    have K5 := Lib.hid (K4.out.trans ((Keeps.of_below hb).mono fun k hk => Nat.lt_of_lt_of_le hk K4.out.size))
    have O5 := Lib.hid (O4.out.keeps (Keeps.of_below hb) fun g hg => (O4.out.lt g hg).2)
    have X5 := Lib.hid (O5.out.reads encSp_len)
    have hl5 := HGL.out.len
    have hXl := spells_len (w := (f, t)) HGR.out HGL.out
    have W5 := Lib.hid (K5.out.blk W1.out W1.out.lt)
    have HS5 := Lib.hid (K5.out.reads (fun _ h => h) HS.out)
    have HR5 := Lib.hid (K5.out.reads (fun _ h => h) HR.out)
    have HCL := Lib.hid (clone35_calls HS5.out (by omega))
    clear hb O4 B4 K4 HS HR W1 HW K5 O5 HG
    obtain ⟨X, hX⟩ : ∃ X, spells rs l (f, t) = X := ⟨_, rfl⟩
    rw [hX] at X5 hXl
    have HXX := Lib.hid hX
    clear hX
    go_wp2_with fail
    refine HCL.out.mono ?_
    rintro e w5 ⟨⟨ov2, rfl, hO⟩, hB⟩
    obtain ⟨A2, c2, hv2, hc2⟩ := hO.slice
    subst hv2
    obtain ⟨m, hm⟩ : ∃ m, l.length = m := ⟨_, rfl⟩
    rw [hm] at hO hl5 hc2 ⊢
    have HM := Lib.hid hm
    have O6 := Lib.hid hO
    have K6 := Lib.hid (Keeps.of_below hB)
    have X6 := Lib.hid (K6.out.reads (fun _ h => h) X5.out)
    have HCK := Lib.hid (clone36_calls X6.out (by omega))
    clear hm hO hB HCL
    go_wp2_with fail
    refine HCK.out.mono ?_
    rintro e w6 ⟨⟨ov3, rfl, hO⟩, hB⟩
    obtain ⟨A3, c3, hv3, hc3⟩ := hO.slice
    subst hv3
    obtain ⟨q, hq⟩ : ∃ q, X.length = q := ⟨_, rfl⟩
    rw [hq] at hO hXl hc3 ⊢
    have HQ := Lib.hid hq
    have P7 := Lib.hid hO
    have K7 := Lib.hid (K6.out.trans ((Keeps.of_below hB).mono fun k hk => Nat.lt_of_lt_of_le hk K6.out.size))
    have HS56 : Hid (w5.heap.size ≤ w6.heap.size) := Lib.hid (Keeps.of_below hB).size
    have O7 := Lib.hid (O6.out.keeps (Keeps.of_below hB) fun g hg => (O6.out.lt g hg).2)
    have HSZ : Hid (w4.heap.size ≤ w5.heap.size) := Lib.hid K6.out.size
    have HOB : Hid (∀ g, (Value.slice A2 m c2).ownBlock = some g → w4.heap.size ≤ g ∧ g < w5.heap.size) := Lib.hid O6.out.lt
    clear hq hO hB HCK X6 X5 K6 O6
    go_wp2_with fail
    go_loopw [38] (fun i wr => ∃ k : Nat, k ≤ m ∧ i = .int .i64 k ∧ InP encSa (renD (pre 113)) 51 4 w4.heap.size w6 wr (.slice A2 m c2) l k) (fun i _ => m - (intOf i).toNat)
    case atStart => exact ⟨0, Nat.zero_le _, rfl, InP.start (by rw [HM.out]; exact O7.out)⟩
    case round =>
      obtain ⟨j, hj, rfl, hW⟩ := hrel
      have HW := Lib.hid hW
      clear hW
      by_cases hlt : j < m
      · obtain ⟨s, hs⟩ : ∃ s, l[j]? = some s := ⟨l[j]'(by rw [HM.out]; exact hlt), List.getElem?_eq_getElem _⟩
        obtain ⟨g, off, rfl⟩ := HW.out.form HM.out (by omega)
        have hd : (j : Int) < (m : Int) := by omega
        have x1 : IntKind.i64.wrap ((j : Int) + 1) = (j : Int) + 1 := IntWalk.i64_in _ (by omega)
        have d2 : wr.cell? ⟨g, off + j * 4, none⟩ = some (.string s.device) := HW.out.cell encSa_len HM.out hs 0 rfl
        have hz : ¬ 9223372036854775807 < 1 + s.device.size := by have := key_small (HGL.out.each s (List.mem_of_getElem? hs)).device; omega
        have HX := Lib.hid hs
        clear hs
        have f2 : wr.frozen? ⟨g, off + j * 4, none⟩ = false := HW.out.frozen HM.out _
        go_wp2_with fail
        exact ⟨⟨j + 1, by omega, by go_num, HW.out.step encSa_len HM.out HX.out 0 (by omega) (by rw [cat_pre]; rfl)⟩, by simp [intOf]; omega⟩
      · have hjm : j = m := by omega
        subst hjm
        have hd : ¬ (j : Int) < (j : Int) := by omega
        obtain ⟨wq, rfl⟩ : ∃ x, x = wr := ⟨_, rfl⟩
        have K8 : Hid (Keeps (· < w4.heap.size) w4 wq) := Lib.hid (K7.out.trans (HW.out.kp.mono fun b hb => ⟨Nat.lt_of_lt_of_le hb K7.out.size, fun e => by have := (O7.out.lt b e.symm).1; omega⟩))
        have P8 := Lib.hid (P7.out.keeps HW.out.kp fun g hg => ⟨(P7.out.lt g hg).2, fun e => by have := (P7.out.lt g hg).1; have := (HOB.out g e.symm).2; omega⟩)
        have HSQ : Hid (w5.heap.size ≤ wq.heap.size) := Lib.hid (Nat.le_trans HS56.out HW.out.kp.size)
        have S8 := Lib.hid (HW.out.done HM.out)
        rw [List.length_map, HM.out] at S8
        clear HW K7 P7 O7
        go_wp2_with fail
        go_loopw [54] (fun i wr => ∃ k : Nat, k ≤ q ∧ i = .int .i64 k ∧ InP encSp (renSD (pre 113)) 34 4 w5.heap.size wq wr (.slice A3 q c3) X k) (fun i _ => q - (intOf i).toNat)
        case atStart => exact ⟨0, Nat.zero_le _, rfl, InP.start (by rw [HQ.out]; exact P8.out)⟩
        case round =>
          obtain ⟨i, hi, rfl, hW⟩ := hrel
          have HW := Lib.hid hW
          clear hW
          by_cases hlt : i < q
          · obtain ⟨s, hs⟩ : ∃ s, X[i]? = some s := ⟨X[i]'(by rw [HQ.out]; exact hlt), List.getElem?_eq_getElem _⟩
            obtain ⟨g, off, rfl⟩ := HW.out.form HQ.out (by omega)
            have hd : (i : Int) < (q : Int) := by omega
            have x1 : IntKind.i64.wrap ((i : Int) + 1) = (i : Int) + 1 := IntWalk.i64_in _ (by omega)
            have d2 : wr.cell? ⟨g, off + i * 4, none⟩ = some (.string s.device) := HW.out.cell encSp_len HQ.out hs 0 rfl
            have hz : ¬ 9223372036854775807 < 1 + s.device.size := by have := (spells_keys HGR.out HGL.out (HXX.out ▸ List.mem_of_getElem? hs)).1; omega
            have HX := Lib.hid hs
            clear hs
            have f2 : wr.frozen? ⟨g, off + i * 4, none⟩ = false := HW.out.frozen HQ.out _
            go_wp2_with fail
            exact ⟨⟨i + 1, by omega, by go_num, HW.out.step encSp_len HQ.out HX.out 0 (by omega) (by rw [cat_pre]; rfl)⟩, by simp [intOf]; omega⟩
          · have him : i = q := by omega
            subst him
            have hd : ¬ (i : Int) < (i : Int) := by omega
            have hkp : Keeps (· < w5.heap.size) wq wr := HW.out.kp.mono fun b hb => ⟨Nat.lt_of_lt_of_le hb HSQ.out, fun e => by have := (P8.out.lt b e.symm).1; omega⟩
            have K9 : Hid (Keeps (· < w4.heap.size) w4 wr) := Lib.hid (K8.out.trans (hkp.mono fun b hb => Nat.lt_of_lt_of_le hb HSZ.out))
            have W9 := Lib.hid (K9.out.blk W5.out W5.out.lt)
            have e0 := W9.out.cell 0
            have e1 := W9.out.cell 1
            have HR9 := Lib.hid (K9.out.reads (fun _ h => h) HR5.out)
            have S9 := Lib.hid (S8.out.keeps hkp fun g hg => (HOB.out g hg).2)
            have X9 := Lib.hid (HW.out.done HQ.out |>.reads encSp_len)
            have B9 := Lib.hid (Below.then B5.out K9.out.below)
            rw [← HM.out, ← List.length_map (f := renD (pre 113))] at S9
            have S10 := Lib.hid (S9.out.reads encSa_len)
            rw [List.length_map, HM.out] at S10
            have hlaw := law_devices_named (pre_lt 113) HGR.out HGL.out HC1.out HC3.out
            rw [HXX.out] at hlaw
            have HA := Lib.hid (wAlike_calls (f := f) (t := t) X9.out HR9.out S10.out HZ.out (fun x hx => by
              obtain ⟨y, hy, rfl⟩ := List.mem_map.1 hx
              have h1 := key_small (HGL.out.each y hy).device
              have h2 := key_small (HGL.out.each y hy).metric
              refine ⟨?_, ?_⟩
              · show (pre 113 y.device).size ≤ maxLen
                rw [pre_size]; unfold maxLen; omega
              · show y.metric.size ≤ maxLen
                unfold maxLen; omega) hlaw (by rw [List.length_map, HQ.out]; omega))
            clear hkp K9 W9 HR9 S9 X9 S10 hlaw HW P8 S8 K8 W5 HR5
            go_wp2_with fail
            refine HA.out.mono ?_
            rintro e w12 ⟨rfl, hb⟩
            have B12 := Lib.hid (Below.then B9.out hb)
            clear hb
            go_wp2_with fail
            go_ret
            exact ⟨rfl, B12.out⟩
  · rw [decide_eq_false hf]
    rw [WPost.none_ hf] at hO
    obtain ⟨A2, c2, hv2, _⟩ := hO.slice
    subst hv2
    clear hO hB
    go_wp2_with fail
    refine (facts_calls _).mono ?_
    rintro e w4 ⟨rfl, hb⟩
    have B5 := Lib.hid (Below.then B4.out hb)
    clear hb
    go_wp2_with fail
    go_ret
    exact ⟨rfl, B5.out⟩

end Go.Proofs.YteandmolnbcmmaaGreatDoor
