/- Walk: spansOf. Walk: rule.cut. What slices.Sort and slices.Compact leave of strings. No condition beyond what each theorem states. -/
import Derived.Lib.SlicesCompact
import Derived.Sort.EncStr
import Derived.Test.YteandmolnbcmmaaGreatDoorKO

namespace Go.Proofs.YteandmolnbcmmaaGreatDoor
open Go.RowKit Go.Sort

/-- Samples as rows. -/
def encSm (s : Sm) : List Value := [.int .i64 s.1, .int .i64 s.2]

set_option maxHeartbeats 4000000 in
set_option maxRecDepth 100000 in
theorem spansOf_calls {w : World} {rb ro : Nat} {r : Rule} {lv : Value} {l : List Sm} (hr : GoodR r) (hc : Cells w rb ro (encR r)) (hrb : rb < w.heap.size) (hl : ReadsK w 2 lv (l.map encSm)) (hg : GoodS l) (hs : SortedS l) (hn : l.length < 1000000) :
    Calls Tryz.prog 106 #[.pointer (some ⟨rb, ro, none⟩), lv] w fun e w' => (∃ ov, e = .returned ov ∧ Own w' w.heap.size 161 2 ov (spansOf r l).length (flat (spansOf r l))) ∧ Below w.heap.size w w' := by
  obtain ⟨A, c, rfl, hcap, hrow⟩ := hl
  rw [List.length_map] at hcap ⊢
  have HC := Lib.hid hc
  have HR := Lib.hid hr
  have HG := Lib.hid hg
  have HS := Lib.hid hs
  have HRow := Lib.hid hrow
  have KA := Lib.hid ((Keeps.refl (· < w.heap.size) w).alloc (fun _ h => h) (.cells #[.slice none 0 0] 158))
  have OA := Lib.hid (Blk.new w 158 #[.slice none 0 0])
  clear hc hr hg hs hrow
  obtain ⟨n, hnn⟩ : ∃ n, l.length = n := ⟨_, rfl⟩
  rw [hnn] at hn hcap ⊢
  have HN := Lib.hid hnn
  clear hnn
  go_enter Tryz.func106, Tryz.ntmps106
  go_wp2_with fail
  refine (newTrack_calls (F := (· < w.heap.size)) (B := w.heap.size) HR.out OA.out (Nat.lt_irrefl _) hrb (fun k h => Nat.lt_of_lt_of_le h (by simp)) (KA.out.cells hrb HC.out) (by simp)).mono ?_
  rintro e w1 ⟨rfl, hT, hK⟩
  have HT := Lib.hid hT
  have HK := Lib.hid (KA.out.trans hK)
  obtain ⟨T, hTt⟩ : ∃ T, (w.alloc (.cells #[.slice none 0 0] 158)).heap.size = T := ⟨_, rfl⟩
  rw [hTt] at HT ⊢
  clear hT hK KA OA hTt
  go_wp2_with fail
  go_loopw [14] (fun i wr => ∃ k : Nat, k ≤ n ∧ i = .int .i64 k ∧ TkAt wr w.heap.size (· < w.heap.size) T w.heap.size rb ro r (feed r (l.take k) (init r)) ∧ Keeps (· < w.heap.size) w wr) (fun i _ => n - (intOf i).toNat)
  case atStart => exact ⟨0, Nat.zero_le _, rfl, HT.out, HK.out⟩
  case round =>
    obtain ⟨k, hk, rfl, hT, hK⟩ := hrel
    have hinv := feed_inv HR.out (l.take k) (List.Pairwise.sublist (List.take_sublist _ _) HS.out) (fun s hs => HG.out s ((List.take_sublist _ _).subset hs))
    have hlk : (l.take k).length = k := by rw [List.length_take, HN.out]; omega
    rw [hlk] at hinv
    have HT2 := Lib.hid hT
    have HK2 := Lib.hid hK
    have HI := Lib.hid hinv.1
    have HW := Lib.hid hinv.2
    clear hT hK HT HK hinv
    by_cases hlt : k < n
    · obtain ⟨s, hs⟩ : ∃ s, l[k]? = some s := ⟨l[k]'(by rw [HN.out]; exact hlt), List.getElem?_eq_getElem _⟩
      obtain ⟨b, o, rfl, hrow⟩ := HRow.out (by intro e; rw [List.map_eq_nil_iff] at e; rw [e] at hs; simp at hs)
      have hcs := hrow k (encSm s) (by rw [List.getElem?_map, hs]; rfl)
      have d0 : w.cell? ⟨b, o + k * 2, none⟩ = some (.int .i64 s.1) := hcs 0 _ rfl
      have d1 : w.cell? ⟨b, o + k * 2 + 1, none⟩ = some (.int .i64 s.2) := hcs 1 _ rfl
      have hbl := World.block_lt_of_cell? w _ d0
      replace d0 := HK2.out.cell hbl d0
      replace d1 := HK2.out.cell hbl d1
      have hgs := HG.out s (List.mem_of_getElem? hs)
      have HS0 := Lib.hid hs
      have hd : (k : Int) < (n : Int) := by omega
      have x1 : IntKind.i64.wrap ((k : Int) + 1) = (k : Int) + 1 := IntWalk.i64_in _ (by omega)
      have O0 : Blk (wr.alloc (.cells #[.int .i64 s.1, .int .i64 s.2] 156)) wr.heap.size 156 #[.int .i64 s.1, .int .i64 s.2] := Blk.new _ _ _
      have o0 : (wr.alloc (.cells #[.int .i64 s.1, .int .i64 s.2] 156)).cell? ⟨wr.heap.size, 0, none⟩ = some (.int .i64 s.1) := O0.cell 0
      replace O0 := Lib.hid O0
      have HGs := Lib.hid hgs
      clear hrow hcs hs hgs hlk
      go_wp2_with fail
      obtain ⟨wv, lv, mv, ov, hV⟩ := HT2.out
      refine (advance_calls ⟨_, _, _, _, hV.more _⟩ HR.out HI.out (by omega) s.1).mono ?_
      rintro e w2 ⟨rfl, hT2, hK2⟩
      have o0' : w2.cell? ⟨wr.heap.size, 0, none⟩ = some (.int .i64 s.1) := (hK2.blk O0.out (.inr rfl)).cell 0
      have o1' : w2.cell? ⟨wr.heap.size, 1, none⟩ = some (.int .i64 s.2) := (hK2.blk O0.out (.inr rfl)).cell 1
      have HT3 := Lib.hid hT2
      have hFr := hV.fr
      have HK3 := Lib.hid ((HK2.out.alloc (fun k h => Nat.lt_of_lt_of_le h HK2.out.size) _).trans (hK2.mono fun _ h => .inl h))
      clear hT2 hK2 hV o0 HT2
      go_wp2_with fail
      obtain ⟨wv, lv, mv, ov, hV⟩ := HT3.out
      have hai := adv_inv (before := s.1) HR.out HI.out
      refine (put_calls hV HR.out hai.good hai.sorted (Nat.lt_of_le_of_lt hai.few (by omega)) s HGs.out).mono ?_
      rintro e w3 ⟨rfl, ⟨wv', lv', mv', ov', hV3⟩, hK3⟩
      have HT4 := Lib.hid hV3
      have HK4 := Lib.hid (HK3.out.trans (hK3.mono fun _ h => .inl h))
      clear hV hV3 hK3 hai o0' o1' HT3
      go_wp2_with fail
      go_roundw
      case rel =>
        refine ⟨k + 1, by omega, by go_num, ?_, HK4.out⟩
        have ht : l.take (k + 1) = l.take k ++ [s] := by rw [List.take_add_one, HS0.out]; rfl
        rw [ht, feed_snoc]
        exact ⟨_, _, _, _, HT4.out.less (fun _ h => .inl h) hFr⟩
      case measure => simp [intOf]; omega
    · have hkn : k = n := by omega
      subst hkn
      have hd : ¬ (k : Int) < (k : Int) := by omega
      go_wp2_with fail
      refine (advance_calls HT2.out HR.out HI.out (by omega) 345686400000).mono ?_
      rintro e w2 ⟨rfl, ⟨wv, lv, mv, ov, hV⟩, hK2⟩
      have c0 : w2.cell? ⟨w.heap.size, 0, none⟩ = some ov := hV.outb.cell 0
      have HV := Lib.hid hV
      have HK3 := Lib.hid (HK2.out.trans hK2)
      clear hV hK2 HT2
      go_wp2_with fail
      go_ret
      refine ⟨⟨ov, rfl, ?_⟩, HK3.out.below⟩
      have := HV.out.oo
      rw [show l.take k = l by rw [← HN.out]; exact List.take_length] at this
      exact this

end Go.Proofs.YteandmolnbcmmaaGreatDoor

namespace Go.Proofs.YteandmolnbcmmaaGreatDoor
open Go.RowKit Go.Sort

/-- Elements as cells, one behind the other. -/
abbrev flatE {α : Type} (enc : α → List Value) (l : List α) : List Value := l.flatMap enc

theorem flatE_length {α : Type} {enc : α → List Value} {k : Nat} (hk : ∀ x, (enc x).length = k) (l : List α) : (flatE enc l).length = l.length * k := by
  induction l with
  | nil => simp
  | cons a l ih => simp only [flatE, List.flatMap_cons, List.length_append, List.length_cons] at *; rw [ih, hk, Nat.succ_mul]; omega

theorem flatE_get {α : Type} {enc : α → List Value} {k : Nat} (hk : ∀ x, (enc x).length = k) (l : List α) (i : Nat) (x : α) (h : l[i]? = some x) (j : Nat) (u : Value) (hu : (enc x)[j]? = some u) : (flatE enc l)[i * k + j]? = some u := by
  induction l generalizing i with
  | nil => simp at h
  | cons a l ih =>
    simp only [flatE, List.flatMap_cons]
    cases i with
    | zero =>
      simp at h
      subst h
      have : j < (enc a).length := (List.getElem?_eq_some_iff.1 hu).1
      rw [Nat.zero_mul, Nat.zero_add, List.getElem?_append_left this]
      exact hu
    | succ i =>
      simp at h
      have := ih i h
      rw [List.getElem?_append_right (by rw [hk, Nat.succ_mul]; omega), hk, show (i + 1) * k + j - k = i * k + j by rw [Nat.succ_mul]; omega]
      exact this

theorem Own.row {α : Type} {enc : α → List Value} {k : Nat} (hk : ∀ x, (enc x).length = k) {w : World} {base : Nat} {e : TypeId} {g off cap n : Nat} {l : List α} (h : Own w base e k (.slice (some ⟨g, off, none⟩) n cap) n (flatE enc l)) : RowAt w k g off (l.map enc) := by
  intro i x hi j u hu
  rw [List.getElem?_map] at hi
  cases hl : l[i]? with
  | none => rw [hl] at hi; cases hi
  | some y =>
    rw [hl] at hi
    simp at hi
    subst hi
    rw [Nat.add_assoc]
    exact h.cell _ _ (flatE_get hk l i y hl j u hu)

theorem Own.reads {α : Type} {enc : α → List Value} {k : Nat} (hk : ∀ x, (enc x).length = k) {w : World} {base : Nat} {e : TypeId} {v : Value} {l : List α} (h : Own w base e k v l.length (flatE enc l)) : ReadsK w k v (l.map enc) := by
  by_cases hl : l = []
  · subst hl
    obtain ⟨A, c, rfl, hc⟩ := h.slice
    exact ⟨A, c, by simp, by simp, fun e => absurd rfl e⟩
  · obtain ⟨g, off, cap, rfl, hc, _, _⟩ := h.form (List.length_pos_iff.2 hl)
    exact ⟨_, cap, by simp, by simpa using hc, fun _ => ⟨g, off, rfl, h.row hk⟩⟩

theorem encSp_len (s : Spell) : (encSp s).length = 4 := rfl
theorem info34 : (Tryz.prog.info? 34).map (fun i => (i.zero, i.size, i.bytes)) = some (some (.agg #[.string ByteArray.empty, .string ByteArray.empty, .int .i64 0, .int .i64 0]), 4, 48) := by kernel_rfl
theorem under26 : Tryz.prog.underlying 26 = some (.slice 34) := by kernel_rfl

theorem cutS_snoc (w : Int × Int) (l : List Spell) (s : Spell) : cutS w (l ++ [s]) = cutS w l ++ (if (cutOne w s).from_ < (cutOne w s).to_ then [cutOne w s] else []) := by
  unfold cutS
  rw [List.map_append, List.filter_append]
  congr 1
  simp only [List.map_cons, List.map_nil, List.filter_cons, List.filter_nil]
  split <;> rename_i h <;> simp at h <;> simp [h]

theorem cutS_len (w : Int × Int) (l : List Spell) : (cutS w l).length ≤ l.length := by
  unfold cutS
  refine Nat.le_trans (List.length_filter_le _ _) ?_
  simp

set_option maxHeartbeats 4000000 in
set_option maxRecDepth 100000 in
theorem cut_calls {w : World} {v : Value} {l : List Spell} (hl : ReadsK w 4 v (l.map encSp)) (hn : l.length ≤ 100000000) (f t : Int) :
    Calls Tryz.prog 61 #[v, .agg #[.int .i64 f, .int .i64 t]] w fun e w' => (∃ ov, e = .returned ov ∧ Own w' w.heap.size 34 4 ov (cutS (f, t) l).length (flatE encSp (cutS (f, t) l))) ∧ Below w.heap.size w w' := by
  obtain ⟨i0, hi0, hz0, hz1, hz2⟩ := info_parts info34
  obtain ⟨A, c, rfl, hcap, hrow⟩ := hl
  rw [List.length_map] at hcap ⊢
  have HRow := Lib.hid hrow
  have KA := Lib.hid ((Keeps.refl (· < w.heap.size) w).alloc (fun _ h => h) (.cells #[.int .i64 f, .int .i64 t] 25))
  have OA := Lib.hid (Blk.new w 25 #[.int .i64 f, .int .i64 t])
  clear hrow
  obtain ⟨n, hnn⟩ : ∃ n, l.length = n := ⟨_, rfl⟩
  rw [hnn] at hn hcap ⊢
  have HN := Lib.hid hnn
  clear hnn
  go_enter Tryz.func61, Tryz.ntmps61
  go_wp2_with fail
  go_loopw [5, 10] (fun v i wr => ∃ k : Nat, k ≤ n ∧ i = .int .i64 k ∧ Own wr (w.heap.size + 1) 34 4 v (cutS (f, t) (l.take k)).length (flatE encSp (cutS (f, t) (l.take k))) ∧ Keeps (· < w.heap.size) w wr ∧ Blk wr w.heap.size 25 #[.int .i64 f, .int .i64 t]) (fun _ i _ => n - (intOf i).toNat)
  case atStart => exact ⟨0, Nat.zero_le _, rfl, Own.nil _ _ _ _, KA.out, OA.out⟩
  case round =>
    obtain ⟨k, hk, rfl, hO, hK, hB⟩ := hrel
    have hlk : (l.take k).length = k := by rw [List.length_take, HN.out]; omega
    have hcl := cutS_len (f, t) (l.take k)
    rw [hlk] at hcl
    have HO := Lib.hid hO
    have HK := Lib.hid hK
    have HB := Lib.hid hB
    clear hO hK hB KA OA
    by_cases hlt : k < n
    · obtain ⟨s, hs⟩ : ∃ s, l[k]? = some s := ⟨l[k]'(by rw [HN.out]; exact hlt), List.getElem?_eq_getElem _⟩
      obtain ⟨b, o, rfl, hrow⟩ := HRow.out (by intro e; rw [List.map_eq_nil_iff] at e; rw [e] at hs; simp at hs)
      have hcs := hrow k (encSp s) (by rw [List.getElem?_map, hs]; rfl)
      have d0 : w.cell? ⟨b, o + k * 4, none⟩ = some (.string s.device) := hcs 0 _ rfl
      have d1 : w.cell? ⟨b, o + k * 4 + 1, none⟩ = some (.string s.rule) := hcs 1 _ rfl
      have d2 : w.cell? ⟨b, o + k * 4 + 2, none⟩ = some (.int .i64 s.from_) := hcs 2 _ rfl
      have d3 : w.cell? ⟨b, o + k * 4 + 3, none⟩ = some (.int .i64 s.to_) := hcs 3 _ rfl
      have hbl := World.block_lt_of_cell? w _ d0
      replace d0 := HK.out.cell hbl d0
      replace d1 := HK.out.cell hbl d1
      replace d2 := HK.out.cell hbl d2
      replace d3 := HK.out.cell hbl d3
      have HS0 := Lib.hid hs
      have hd : (k : Int) < (n : Int) := by omega
      have x1 : IntKind.i64.wrap ((k : Int) + 1) = (k : Int) + 1 := IntWalk.i64_in _ (by omega)
      have hww : w.heap.size < wr.heap.size := HB.out.lt
      have hne : ¬ w.heap.size = wr.heap.size := by omega
      have e0 : wr.cell? ⟨w.heap.size, 0, none⟩ = some (.int .i64 f) := HB.out.cell 0
      have e1 : wr.cell? ⟨w.heap.size, 1, none⟩ = some (.int .i64 t) := HB.out.cell 1
      clear hrow hcs hs
      go_wp2_with fail
      have P0 : Blk (wr.alloc (.cells #[.string s.device, .string s.rule, .int .i64 s.from_, .int .i64 s.to_] 34)) wr.heap.size 34 #[.string s.device, .string s.rule, .int .i64 s.from_, .int .i64 s.to_] := Blk.new _ _ _
      have B0 : Blk (wr.alloc (.cells #[.string s.device, .string s.rule, .int .i64 s.from_, .int .i64 s.to_] 34)) w.heap.size 25 _ := HB.out.alloc _
      have K0 := HK.out.alloc (fun k h => Nat.lt_of_lt_of_le h HK.out.size) (.cells #[.string s.device, .string s.rule, .int .i64 s.from_, .int .i64 s.to_] 34)
      have O0 := HO.out.alloc (.cells #[.string s.device, .string s.rule, .int .i64 s.from_, .int .i64 s.to_] 34)
      have Z0 : wr.heap.size < (wr.alloc (.cells #[.string s.device, .string s.rule, .int .i64 s.from_, .int .i64 s.to_] 34)).heap.size := by simp
      have N0 : ∀ g, u5.ownBlock = some g → g ≠ wr.heap.size := fun g hg e => by have := (HO.out.lt g hg).2; omega
      obtain ⟨w1, hw1⟩ : ∃ W, wr.alloc (.cells #[.string s.device, .string s.rule, .int .i64 s.from_, .int .i64 s.to_] 34) = W := ⟨_, rfl⟩
      obtain ⟨S0, hS0⟩ : ∃ S, wr.heap.size = S := ⟨_, rfl⟩
      rw [hw1, hS0] at P0
      rw [hw1] at B0 K0 O0
      rw [hw1, hS0] at Z0
      rw [hS0] at N0 hww hne
      rw [hw1, hS0]
      clear hw1 hS0 d0 d1 d2 d3 e0 e1 HO HK HB
      have d2 : w1.cell? ⟨S0, 2, none⟩ = some (.int .i64 s.from_) := P0.cell 2
      have d3 : w1.cell? ⟨S0, 3, none⟩ = some (.int .i64 s.to_) := P0.cell 3
      have f2 : w1.frozen? ⟨S0, 2, none⟩ = false := P0.frozen 2
      have f3 : w1.frozen? ⟨S0, 3, none⟩ = false := P0.frozen 3
      have e0 : w1.cell? ⟨w.heap.size, 0, none⟩ = some (.int .i64 f) := B0.cell 0
      have e1 : w1.cell? ⟨w.heap.size, 1, none⟩ = some (.int .i64 t) := B0.cell 1
      replace P0 := Lib.hid P0
      replace B0 := Lib.hid B0
      replace K0 := Lib.hid K0
      replace O0 := Lib.hid O0
      replace N0 := Lib.hid N0
      go_cut [14] (fun _ wx => wx = ((w1.setCell ⟨S0, 2, none⟩ (.int .i64 (max s.from_ f))).setCell ⟨S0, 3, none⟩ (.int .i64 (min s.to_ t))).drew)
      case first =>
        go_region
        all_goals
          go_wp2_with fail
          go_meet
          rfl
      case rest =>
      subst hcut
      have P1 : Blk ((w1.setCell ⟨S0, 2, none⟩ (.int .i64 (max s.from_ f))).setCell ⟨S0, 3, none⟩ (.int .i64 (min s.to_ t))).drew S0 34 #[.string s.device, .string s.rule, .int .i64 (max s.from_ f), .int .i64 (min s.to_ t)] := (P0.out.set_ 2 _).set_ 3 _
      have B1 : Blk ((w1.setCell ⟨S0, 2, none⟩ (.int .i64 (max s.from_ f))).setCell ⟨S0, 3, none⟩ (.int .i64 (min s.to_ t))).drew w.heap.size 25 _ := ((B0.out.far (p := ⟨S0, 2, none⟩) hne _).far (p := ⟨S0, 3, none⟩) hne _).drew
      have K1 := ((K0.out.setCell (p := ⟨S0, 2, none⟩) (by dsimp only; omega) (.int .i64 (max s.from_ f))).setCell (p := ⟨S0, 3, none⟩) (by dsimp only; omega) (.int .i64 (min s.to_ t))).drew
      have O1 : Own ((w1.setCell ⟨S0, 2, none⟩ (.int .i64 (max s.from_ f))).setCell ⟨S0, 3, none⟩ (.int .i64 (min s.to_ t))).drew _ 34 4 _ _ _ := O0.out.same fun g hg => (Below.heap_setCell _ ⟨S0, 3, none⟩ _ g (N0.out g hg)).trans (Below.heap_setCell w1 ⟨S0, 2, none⟩ _ g (N0.out g hg))
      clear d2 d3 f2 f3 e0 e1 P0 B0 K0 O0 Z0
      generalize ((w1.setCell ⟨S0, 2, none⟩ (.int .i64 (max s.from_ f))).setCell ⟨S0, 3, none⟩ (.int .i64 (min s.to_ t))).drew = w2 at *
      obtain ⟨F, hF⟩ : ∃ F, max s.from_ f = F := ⟨_, rfl⟩
      obtain ⟨U, hU⟩ : ∃ U, min s.to_ t = U := ⟨_, rfl⟩
      rw [hF, hU] at P1
      have hco : cutOne (f, t) s = ⟨s.device, s.rule, F, U⟩ := by unfold cutOne; rw [← hF, ← hU]
      have htk : l.take (k + 1) = l.take k ++ [s] := by rw [List.take_add_one, HS0.out]; rfl
      have hsn := cutS_snoc (f, t) (l.take k) s
      rw [← htk, hco] at hsn
      have p0 : w2.cell? ⟨S0, 0, none⟩ = some (.string s.device) := P1.cell 0
      have p1 : w2.cell? ⟨S0, 1, none⟩ = some (.string s.rule) := P1.cell 1
      have p2 : w2.cell? ⟨S0, 2, none⟩ = some (.int .i64 F) := P1.cell 2
      have p3 : w2.cell? ⟨S0, 3, none⟩ = some (.int .i64 U) := P1.cell 3
      have hb2 := B1.lt
      replace P1 := Lib.hid P1
      replace B1 := Lib.hid B1
      replace K1 := Lib.hid K1
      replace O1 := Lib.hid O1
      replace hF := Lib.hid hF
      replace hU := Lib.hid hU
      replace htk := Lib.hid htk
      clear hco
      by_cases hfu : F < U
      · rw [if_pos hfu] at hsn
        have HSN := Lib.hid hsn
        clear hsn
        go_wp2_with
          (at_builtin; go_loud (
           refine wpList_append_Own _ (by rfl) _ _ _ (by rfl) (w.heap.size + 1) 34 i0 _ 4 48 under26 hi0 hz0 hz1 hz2 rfl (by omega) u5 _ _ (by rfl) (O1.out.alloc _)
            ⟨w2.heap.size, 0, none⟩ 1 1 [.string s.device, .string s.rule, .int .i64 F, .int .i64 U] (by rfl) (by rfl) (World.news_of_block (cs := #[.string s.device, .string s.rule, .int .i64 F, .int .i64 U]) (t := 34) (fr := (0, 0)) (heap_alloc_new w2 _)) (by simp [Value.oneCell'])
            (by unfold maxLen; omega) (by omega) (by simp; omega) ?_; intro v' w3 hown3 hgrow hfr))
        go_roundw
        case rel =>
          have hn1 : u5.ownBlock ≠ some w.heap.size := O1.out.ne_blk B1.out (by decide)
          refine ⟨k + 1, by omega, by go_num, ?_, ?_, (B1.out.alloc _).grown hgrow (Ne.symm hn1)⟩
          · rw [HSN.out, flatE, List.flatMap_append, List.length_append]
            exact hown3
          · exact (K1.out.alloc (fun k h => Nat.lt_of_lt_of_le h K1.out.size) _).trans ((Keeps.refl _ _).grown hgrow (fun k h => Nat.lt_of_lt_of_le h (by have := K1.out.size; simp; omega)) (fun g e h => by have := (O1.out.lt g e).1; omega))
        case measure => simp [intOf]; omega
      · rw [if_neg hfu, List.append_nil] at hsn
        have HSN := Lib.hid hsn
        clear hsn
        go_wp2_with fail
        go_roundw
        case rel => exact ⟨k + 1, by omega, by go_num, by rw [HSN.out]; exact O1.out, K1.out, B1.out⟩
        case measure => simp [intOf]; omega
    · have hkn : k = n := by omega
      subst hkn
      have hd : ¬ (k : Int) < (k : Int) := by omega
      go_wp2_with fail
      go_ret
      have hlt : l.take k = l := by rw [← HN.out]; exact List.take_length
      have hO := HO.out
      rw [hlt] at hO
      refine ⟨⟨_, rfl, ⟨hO.1, ?_⟩⟩, HK.out.below⟩
      exact hO.2.imp id fun ⟨g, off, cap, cur, h1, h2, h3⟩ => ⟨g, off, cap, cur, h1, Nat.le_trans (Nat.le_succ _) h2, h3⟩

end Go.Proofs.YteandmolnbcmmaaGreatDoor

namespace Go.Proofs.YteandmolnbcmmaaGreatDoor
open Go.RowKit Go.Sort Lib Go.Lib

def toL (b : ByteArray) : List UInt8 := b.data.toList
def ofL (x : List UInt8) : ByteArray := ⟨x.toArray⟩
theorem ofL_toL (b : ByteArray) : ofL (toL b) = b := by simp [ofL, toL]
theorem toL_ofL (x : List UInt8) : toL (ofL x) = x := by simp [ofL, toL]
theorem sLt_ofL (x y : List UInt8) : sLt (ofL x) (ofL y) ↔ x < y := by unfold sLt ofL; simp

theorem compactUpTo_facts (d : Array (List UInt8)) (hs : ∀ i j, i < j → j < d.size → ¬ d[j]! < d[i]!) : ∀ m, m ≤ d.size →
    ((compactUpTo d m).Pairwise fun a b => a < b) ∧ (∀ x, x ∈ compactUpTo d m ↔ ∃ j, j < m ∧ d[j]! = x) := by
  intro m
  induction m with
  | zero => intro _; exact ⟨by simp [compactUpTo], by simp [compactUpTo]⟩
  | succ m ih =>
    intro hm
    obtain ⟨h1, h2⟩ := ih (by omega)
    rw [compactUpTo_succ]
    by_cases hk : keeps d m = true
    · rw [if_pos hk]
      have hlt : ∀ x ∈ compactUpTo d m, x < d[m]! := by
        intro x hx
        obtain ⟨j, hj, rfl⟩ := (h2 x).1 hx
        simp only [keeps, decide_eq_true_eq] at hk
        have hk : d[m]! ≠ d[m - 1]! := hk.resolve_left (by omega)
        have h3 : ¬ d[m]! < d[m - 1]! := hs (m - 1) m (by omega) (by omega)
        have h4 : d[m - 1]! < d[m]! := by
          have := sLt_tri (ofL d[m - 1]!) (ofL d[m]!)
          rw [sLt_ofL, sLt_ofL] at this
          by_cases h5 : d[m - 1]! < d[m]!
          · exact h5
          · exact absurd (by have := congrArg toL (this h5 h3); rw [toL_ofL, toL_ofL] at this; exact this.symm) hk
        by_cases hjm : j = m - 1
        · rw [hjm]; exact h4
        · have h6 : ¬ d[m - 1]! < d[j]! := hs j (m - 1) (by omega) (by omega)
          by_cases h7 : d[j]! < d[m]!
          · exact h7
          · exfalso
            have h8 := sLt_tri (ofL d[j]!) (ofL d[m]!)
            rw [sLt_ofL, sLt_ofL] at h8
            have h9 : ¬ d[m]! < d[j]! := hs j m (by omega) (by omega)
            have h10 : d[j]! = d[m]! := by have := congrArg toL (h8 h7 h9); rw [toL_ofL, toL_ofL] at this; exact this
            rw [h10] at h6
            exact h6 h4
      refine ⟨List.pairwise_append.2 ⟨h1, by simp, fun a ha b hb => by simp at hb; subst hb; exact hlt a ha⟩, fun x => ?_⟩
      rw [List.mem_append, h2]
      constructor
      · rintro (⟨j, hj, rfl⟩ | hx)
        · exact ⟨j, by omega, rfl⟩
        · simp at hx; exact ⟨m, by omega, hx.symm⟩
      · rintro ⟨j, hj, rfl⟩
        by_cases hjm : j = m
        · right; simp [hjm]
        · left; exact ⟨j, by omega, rfl⟩
    · rw [if_neg hk, List.append_nil]
      refine ⟨h1, fun x => ?_⟩
      rw [h2]
      simp only [keeps, decide_eq_true_eq, not_or, Decidable.not_not] at hk
      constructor
      · rintro ⟨j, hj, rfl⟩; exact ⟨j, by omega, rfl⟩
      · rintro ⟨j, hj, rfl⟩
        by_cases hjm : j = m
        · subst hjm; exact ⟨j - 1, by omega, hk.2.symm⟩
        · exact ⟨j, by omega, rfl⟩

/-- Sorted and compacted: the strings, each once, in order. -/
theorem compact_sort (bs : List ByteArray) (S : List (List UInt8)) (hS : S = (bs.map toL).mergeSort fun x y => decide (x ≤ y)) : (compactUpTo S.toArray S.length).map ofL = sortS bs := by
  have hp : S.Perm (bs.map toL) := by rw [hS]; exact List.mergeSort_perm _ _
  have hso : S.Pairwise fun a b => ¬ b < a := by
    rw [hS]
    have := List.pairwise_mergeSort (le := fun x y : List UInt8 => decide (x ≤ y)) (fun a b c h k => by
      simp only [decide_eq_true_eq] at *
      exact List.le_trans h k) (fun a b => by
      simp only [Bool.or_eq_true, decide_eq_true_eq]
      exact List.le_total a b) (bs.map toL)
    exact this.imp fun h => by simpa using h
  have hso2 : ∀ i j, i < j → j < S.toArray.size → ¬ S.toArray[j]! < S.toArray[i]! := by
    intro i j hij hj
    simp at hj
    have := List.pairwise_iff_getElem.1 hso i j (by omega) hj hij
    rw [getElem!_pos _ j (by simpa using hj), getElem!_pos _ i (by simp; omega)]
    simpa using this
  obtain ⟨h1, h2⟩ := compactUpTo_facts S.toArray hso2 S.length (by simp)
  refine sorted_eqS ?_ (sortS_sorted bs) ?_
  · rw [List.pairwise_map]
    exact h1.imp fun h => (sLt_ofL _ _).2 h
  · intro x
    rw [List.mem_map, sortS_mem]
    constructor
    · rintro ⟨y, hy, rfl⟩
      obtain ⟨j, hj, rfl⟩ := (h2 y).1 hy
      have : S.toArray[j]! ∈ S := by rw [getElem!_pos _ j (by simpa using hj)]; simp
      obtain ⟨b, hb, hb2⟩ := List.mem_map.1 (hp.subset this)
      rw [← hb2, ofL_toL]; exact hb
    · intro hx
      have hm : toL x ∈ S := hp.symm.subset (List.mem_map_of_mem hx)
      obtain ⟨j, hj, hj2⟩ := List.mem_iff_getElem.1 hm
      exact ⟨toL x, (h2 _).2 ⟨j, hj, by rw [getElem!_pos _ j (by simpa using hj)]; simpa using hj2⟩, ofL_toL x⟩

end Go.Proofs.YteandmolnbcmmaaGreatDoor
