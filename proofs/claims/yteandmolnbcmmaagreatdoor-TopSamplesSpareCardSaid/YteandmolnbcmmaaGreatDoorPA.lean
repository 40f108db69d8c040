/- A row of cells stored into an own slice; clear of structs; the slice cut shorter. Walk: slices.Delete of one spell of an own slice. No condition beyond what each theorem states. -/
import Derived.Deep.RegionLaw
import Derived.Lib.SliceRun
import Derived.Test.YteandmolnbcmmaaGreatDoorLB
import Derived.Test.YteandmolnbcmmaaGreatDoorMA

namespace Go.Proofs.YteandmolnbcmmaaGreatDoor
open Go.RowKit Go.Sort

def setL : List Value → Nat → List Value → List Value
  | xs, _, [] => xs
  | xs, p, v :: r => setL (xs.set p v) (p + 1) r

theorem setL_eq : ∀ (vs xs : List Value) (p : Nat), p + vs.length ≤ xs.length → setL xs p vs = xs.take p ++ (vs ++ xs.drop (p + vs.length))
  | [], xs, p, _ => by simp [setL]
  | v :: r, xs, p, h => by
    simp only [List.length_cons] at h
    rw [setL, setL_eq r (xs.set p v) (p + 1) (by rw [List.length_set]; omega)]
    have h1 : (xs.set p v).take (p + 1) = xs.take p ++ [v] := by
      rw [List.take_add_one, List.take_set_of_le (Nat.le_refl p), List.getElem?_set_self (by omega)]
      rfl
    have h2 : (xs.set p v).drop (p + 1 + r.length) = xs.drop (p + (r.length + 1)) := by
      rw [List.drop_set_of_lt (by omega)]
      congr 1
      omega
    rw [h1, h2, List.append_assoc]
    rfl

theorem Own.setCells {base : Nat} {e : TypeId} {k n g off cap : Nat} : ∀ (vs : List Value) {w : World} {xs : List Value} (p : Nat), Own w base e k (.slice (some ⟨g, off, none⟩) n cap) n xs →
    Own (w.setCells g (off + p) vs) base e k (.slice (some ⟨g, off, none⟩) n cap) n (setL xs p vs)
  | [], _, _, _, h => h
  | v :: r, _, xs, p, h => by
    have h1 := h.setAt p v
    have h2 := Own.setCells r (p + 1) h1
    exact h2

theorem Keeps.setCells {F : Nat → Prop} {a : World} {g : Nat} (hg : ¬ F g) : ∀ (vs : List Value) {w : World} (o : Nat), Keeps F a w → Keeps F a (w.setCells g o vs)
  | [], _, _, h => h
  | v :: r, _, o, h => Keeps.setCells hg r (o + 1) (h.setCell (p := ⟨g, o, none⟩) hg v)

theorem Own.shrink {w : World} {base : Nat} {e : TypeId} {k n m g off cap : Nat} {xs : List Value} (h : Own w base e k (.slice (some ⟨g, off, none⟩) n cap) n xs) (hm : m ≤ n) : Own w base e k (.slice (some ⟨g, off, none⟩) m cap) m (xs.take (m * k)) := by
  have hmk : m * k ≤ n * k := Nat.mul_le_mul_right _ hm
  rcases h.2 with ⟨hv, _⟩ | ⟨g', off', cap', cur, hv, hb, hgg, hc, hm', hs, ht⟩
  · cases hv
  · simp only [Value.slice.injEq, Option.some.injEq, Addr.mk.injEq] at hv
    obtain ⟨⟨rfl, rfl, _⟩, _, rfl⟩ := hv
    refine ⟨by rw [List.length_take, h.1]; omega, .inr ⟨g, off, cap, cur, rfl, hb, hgg, by omega, hm', hs, ?_⟩⟩
    rw [← ht, List.take_take, Nat.min_eq_left hmk]

section
variable {P : Program}
theorem run_clear_agg (w : World) (t e ty : TypeId) (z : Value) (ht : P.underlying t = some (.slice e)) (hv : ∀ w, (zeroValue e).run P w = .ok z w) (h1 : ∀ u ∈ z.cells.toList, u.oneCell' = true) (b o n c k : Nat) (hk : z.cells.size = k) (hn : 0 < n)
    (hc : ∀ j, j < n * k → (w.cell? ⟨b, o + j, none⟩).isSome = true) (hf : ∀ j, j < n * k → w.frozen? ⟨b, o + j, none⟩ = false) :
    (Builtin.clear_ #[t] ty #[.slice (some ⟨b, o, none⟩) n c]).run P w = .ok (.tuple #[]) (w.setCells b o (Builtin.zeroCells z.cells n).toList) := by
  have hlen : (Builtin.zeroCells z.cells n).toList.length = n * k := by rw [← hk]; simp [size_zeroCells]
  have hst := run_storeCells_cells (P := P) b o (Builtin.zeroCells z.cells n).toList 0 w (by rw [hlen]; simpa using hc) (by rw [hlen]; simpa using hf) (by
    intro u hu
    rw [Builtin.zeroCells, Array.toList_map, List.mem_map] at hu
    obtain ⟨i, hi, rfl⟩ := hu
    have hi' : i < n * z.cells.size := by simpa using hi
    have hpos : 0 < z.cells.size := Nat.pos_of_ne_zero fun h0 => by rw [h0, Nat.mul_zero] at hi'; omega
    have hlt := Nat.mod_lt i hpos
    rw [getElem!_pos z.cells _ hlt]
    exact h1 _ (by simp))
  simp only [Nat.add_zero] at hst
  obtain ⟨m, rfl⟩ : ∃ m, n = m + 1 := ⟨n - 1, by omega⟩
  simp [Builtin.clear_, run_underlying ht, hv, hst]
end
end Go.Proofs.YteandmolnbcmmaaGreatDoor

namespace Go.Proofs.YteandmolnbcmmaaGreatDoor
open Go.RowKit Go.Sort

theorem zero34 (w : World) : (zeroValue 34).run Tryz.prog w = .ok (.agg #[.string ByteArray.empty, .string ByteArray.empty, .int .i64 0, .int .i64 0]) w := by
  obtain ⟨i0, hi0, hz0, _, _⟩ := info_parts info34
  simp [zeroValue, typeInfo, hi0, hz0]

theorem erase_split {α : Type} (l : List α) (i : Nat) : l.eraseIdx i = l.take i ++ l.drop (i + 1) := List.eraseIdx_eq_take_drop_succ l i

theorem flatE_take {α : Type} {enc : α → List Value} {k : Nat} (hk : ∀ x, (enc x).length = k) (l : List α) (i : Nat) : (flatE enc l).take (i * k) = flatE enc (l.take i) := by
  by_cases hi : i ≤ l.length
  · conv => lhs; rw [← List.take_append_drop i l]
    rw [flatE, List.flatMap_append, List.take_left']
    have := flatE_length hk (l.take i)
    rw [List.length_take, Nat.min_eq_left hi] at this
    exact this
  · rw [List.take_of_length_le (by rw [flatE_length hk]; exact Nat.mul_le_mul_right _ (by omega)), List.take_of_length_le (by omega)]

theorem flatE_drop {α : Type} {enc : α → List Value} {k : Nat} (hk : ∀ x, (enc x).length = k) (l : List α) (i : Nat) : (flatE enc l).drop (i * k) = flatE enc (l.drop i) := by
  by_cases hi : i ≤ l.length
  · conv => lhs; rw [← List.take_append_drop i l]
    rw [flatE, List.flatMap_append, List.drop_left']
    have := flatE_length hk (l.take i)
    rw [List.length_take, Nat.min_eq_left hi] at this
    exact this
  · rw [List.drop_eq_nil_of_le (by rw [flatE_length hk]; exact Nat.mul_le_mul_right _ (by omega)), List.drop_eq_nil_of_le (by omega)]
    rfl

set_option maxHeartbeats 4000000 in
set_option maxRecDepth 100000 in
theorem delete_calls {w : World} {base g off cap i : Nat} {L : List Spell} (h : Own w base 34 4 (.slice (some ⟨g, off, none⟩) L.length cap) L.length (flatE encSp L)) (hi : i < L.length) (hn : L.length ≤ 1000000000000) :
    Calls Tryz.prog 41 #[.slice (some ⟨g, off, none⟩) L.length cap, .int .i64 i, .int .i64 ((i : Int) + 1)] w fun e w' =>
      e = .returned (.slice (some ⟨g, off, none⟩) (L.length - 1) cap) ∧ Own w' base 34 4 (.slice (some ⟨g, off, none⟩) (L.length - 1) cap) (L.length - 1) (flatE encSp (L.eraseIdx i)) ∧ Keeps (fun b => b < w.heap.size ∧ b ≠ g) w w' := by
  have HO := Lib.hid h
  have hcap : L.length ≤ cap := by
    obtain ⟨_, _, c', hv, hc, _⟩ := h.form (by omega)
    simp only [Value.slice.injEq, Option.some.injEq, Addr.mk.injEq] at hv
    obtain ⟨_, _, rfl⟩ := hv
    exact hc
  clear h
  obtain ⟨n, hnn⟩ : ∃ n, L.length = n := ⟨_, rfl⟩
  rw [hnn] at hi hn hcap HO ⊢
  have HN := Lib.hid hnn
  clear hnn
  go_enter Tryz.func41, Tryz.ntmps41
  obtain ⟨i0, hi0, hz0, hz1, hz2⟩ := info_parts info34
  have hdl : (flatE encSp (L.drop (i + 1))).length = (n - (i + 1)) * 4 := by rw [flatE_length encSp_len, List.length_drop, HN.out]
  obtain ⟨AD, hAD, hnews⟩ : ∃ AD : Addr, (if cap = i + 1 then some (⟨g, off, none⟩ : Addr) else some ⟨g, off + (i + 1) * 4, none⟩) = some AD ∧ ∀ j u, (flatE encSp (L.drop (i + 1)))[j]? = some u → w.cell? (AD.add j) = some u := by
    by_cases hc : cap = i + 1
    · refine ⟨_, if_pos hc, fun j u hj => ?_⟩
      have : (flatE encSp (L.drop (i + 1))).length = 0 := by rw [hdl]; omega
      rw [List.eq_nil_of_length_eq_zero this] at hj
      simp at hj
    · refine ⟨_, if_neg hc, fun j u hj => ?_⟩
      rw [← flatE_drop encSp_len, List.getElem?_drop] at hj
      have := HO.out.cell _ _ hj
      simp only [Addr.add]
      split
      · rename_i h0; subst h0; simpa [Nat.add_assoc] using this
      · simpa [Nat.add_assoc] using this
  have hone : ∀ u ∈ flatE encSp (L.drop (i + 1)), u.oneCell' = true := flatE_one encSp_one _
  have hspare : ∀ j, j < (flatE encSp (L.drop (i + 1))).length → (w.cell? ⟨g, off + i * 4 + j, none⟩).isSome = true ∧ w.frozen? ⟨g, off + i * 4 + j, none⟩ = false := by
    intro j hj
    rw [hdl] at hj
    refine ⟨?_, HO.out.frozen _⟩
    have hl := HO.out.1
    have := HO.out.cell (i * 4 + j) _ (List.getElem?_eq_getElem (by rw [hl]; omega))
    rw [← Nat.add_assoc] at this
    rw [this]
    rfl
  have HNW := Lib.hid hnews
  have HON := Lib.hid hone
  have HSP := Lib.hid hspare
  have x1 : IntKind.i64.wrap ((i : Int) + 1) = (i : Int) + 1 := IntWalk.i64_in _ (by omega)
  have x2 : ((i : Int) + 1).toNat = i + 1 := by omega
  have hic : i ≤ cap := by omega
  have hji : 0 ≤ (i : Int) + 1 ∧ (i : Int) + 1 ≤ (n : Int) := by omega
  have hjc : i + 1 ≤ cap := by omega
  clear hnews hone hspare
  go_wp2_with fail
  go_region_law (refine step_append_room rfl (.tmp 22) (.tmp 25) 26 rfl 34 i0 4 Tryz.underlying26 hi0 hz1 g off i cap (by simp [Act.eval, Act.put]) AD (n - (i + 1)) (cap - (i + 1)) (flatE encSp (L.drop (i + 1))) (by simp [Act.eval, Act.put]) hdl HNW.out HON.out (by omega) HSP.out ?_)
  have hi1 : i + (n - (i + 1)) = n - 1 := by omega
  rw [hi1]
  have O2 := HO.out.drew.setCells (flatE encSp (L.drop (i + 1))) (i * 4)
  have K2 := (Keeps.drew (Keeps.refl (fun b => b < w.heap.size ∧ b ≠ g) w)).setCells (g := g) (by simp) (flatE encSp (L.drop (i + 1))) (off + i * 4)
  generalize w.drew.setCells g (off + i * 4) (flatE encSp (L.drop (i + 1))) = w2 at *
  replace O2 := Lib.hid O2
  replace K2 := Lib.hid K2
  have hlen := O2.out.1
  have hclr := run_clear_agg (P := Tryz.prog) w2 26 34 0 _ Tryz.underlying26 zero34 (by simp [Value.cells, Value.oneCell']) g (off + (n - 1) * 4) 1 (cap - (n - 1)) 4 rfl (by omega) (fun j hj => by
    have := O2.out.cell ((n - 1) * 4 + j) _ (List.getElem?_eq_getElem (by rw [hlen]; omega))
    rw [← Nat.add_assoc] at this
    rw [this]
    rfl) (fun j hj => O2.out.frozen _)
  have h1c : n - 1 ≤ cap := by omega
  have h2c : n ≤ cap := hcap
  have h3c : ¬ cap = n - 1 := by omega
  have h4c : n - 1 ≤ n := by omega
  have h5c : n - (n - 1) = 1 := by omega
  clear hlen HNW HON HSP hAD
  go_wp2_with fail
  go_ret
  have hz4 : (Builtin.zeroCells (Value.agg #[Value.string ByteArray.empty, Value.string ByteArray.empty, Value.int IntKind.i64 0, Value.int IntKind.i64 0]).cells 1).toList.length = 4 := by simp [size_zeroCells, Value.cells]
  refine ⟨rfl, ?_, K2.out.setCells (by simp) _ _⟩
  have O3 := (O2.out.setCells (Builtin.zeroCells (Value.agg #[Value.string ByteArray.empty, Value.string ByteArray.empty, Value.int IntKind.i64 0, Value.int IntKind.i64 0]).cells 1).toList ((n - 1) * 4)).shrink (m := n - 1) (by omega)
  have hl0 : (flatE encSp L).length = n * 4 := by rw [flatE_length encSp_len, HN.out]
  have e1 := setL_eq (flatE encSp (L.drop (i + 1))) (flatE encSp L) (i * 4) (by rw [hdl, hl0]; omega)
  have hl1 : (setL (flatE encSp L) (i * 4) (flatE encSp (L.drop (i + 1)))).length = n * 4 := O2.out.1
  rw [setL_eq _ _ _ (by rw [hl1, hz4]; omega), List.take_left' (by rw [List.length_take, hl1]; omega), e1, ← List.append_assoc, List.take_left' (by rw [List.length_append, List.length_take, hdl, hl0]; omega), flatE_take encSp_len, ← List.flatMap_append, ← erase_split] at O3
  exact O3
end Go.Proofs.YteandmolnbcmmaaGreatDoor
