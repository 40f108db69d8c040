/- slices.SortFunc of spells by byFrom. append of a slice of the call's own onto another one; the spells of some rules, raw. Walk: rule.Spells. No condition beyond what each theorem states. -/
import Derived.Test.YteandmolnbcmmaaGreatDoorKS

namespace Go.Proofs.YteandmolnbcmmaaGreatDoor
open Go.RowKit Go.Sort Go.Shelf

instance : Inhabited Spell := ⟨⟨default, default, 0, 0⟩⟩

theorem flatK_toList {α : Type} [Inhabited α] (enc : α → List Value) (k : Nat) (hk : ∀ x, (enc x).length = k) (d : Array α) : (flatK enc k d).toList = flatE enc d.toList := by
  refine List.ext_getElem? fun t => ?_
  rw [Array.getElem?_toList]
  by_cases ht : t < d.size * k
  · have hk0 : 0 < k := by
      rcases Nat.eq_zero_or_pos k with h | h
      · subst h; simp at ht
      · exact h
    have h1 : t / k < d.size := Nat.div_lt_of_lt_mul (by rw [Nat.mul_comm]; exact ht)
    have h2 : t % k < k := Nat.mod_lt _ hk0
    have h3 : t / k * k + t % k = t := by rw [Nat.mul_comm]; exact Nat.div_add_mod t k
    have h4 := flatE_get hk d.toList (t / k) d[t / k]! (by rw [Array.getElem?_toList, Array.getElem?_eq_getElem h1, getElem!_pos d _ h1]) (t % k) _ (List.getElem?_eq_getElem (by rw [hk]; exact h2))
    rw [h3] at h4
    rw [h4]
    have hs : t < (flatK enc k d).size := by simpa [flatK] using ht
    have hg := get_flatK enc k d t ht
    rw [Array.getElem?_eq_getElem hs]
    rw [getElem!_pos (flatK enc k d) t hs, getElem!_pos (enc d[t / k]!) (t % k) (by rw [hk]; exact h2)] at hg
    rw [hg]
  · rw [Array.getElem?_eq_none (by simpa [flatK] using ht), List.getElem?_eq_none (by rw [flatE_length hk]; simpa using ht)]

def cfS (x y : Spell) : Int := cmp3 (spKey x) (spKey y)

theorem swoS : SWO (ltOf cfS) where
  irrefl := fun x => by
    unfold ltOf cfS
    simp only [decide_eq_false_iff_not]
    rw [cmp3_neg]
    exact lt3_irrefl _
  trans := fun x y z h k => by
    unfold ltOf cfS at *
    simp only [decide_eq_true_eq] at *
    rw [cmp3_neg] at *
    exact lt3_trans h k
  ntrans := fun x y z h k => by
    unfold ltOf cfS at *
    simp only [decide_eq_false_iff_not] at *
    rw [cmp3_neg] at *
    intro hxz
    by_cases hyx : lt3 (spKey y) (spKey x)
    · exact k (lt3_trans hyx hxz)
    · have := lt3_tri _ _ h hyx
      rw [this] at hxz
      exact k hxz

theorem cmpLaysS (blk off size : Nat) (w : World) : CmpLays Tryz.prog 69 #[] encSp 4 cfS blk off size w := by
  intro m os dk hd x y
  exact (byFrom_calls x.device x.rule y.device y.rule x.from_ x.to_ y.from_ y.to_ _).mono fun e w' ⟨he, hg⟩ => ⟨he, hg⟩

theorem Own.holdsK {w : World} {base : Nat} {e : TypeId} {n g off cap : Nat} {X : List Spell} (h : Own w base e 4 (.slice (some ⟨g, off, none⟩) n cap) n (flatE encSp X)) : HoldsK encSp 4 w g off X.toArray := by
  unfold HoldsK
  have := flatK_toList encSp 4 encSp_len X.toArray
  intro j hj
  refine ⟨?_, h.free j⟩
  refine h.cell j _ ?_
  have h2 : (flatE encSp X)[j]? = (flatK encSp 4 X.toArray)[j]? := by rw [← Array.getElem?_toList, this]
  rw [h2, getElem!_pos _ j hj, Array.getElem?_eq_getElem hj]
  rfl

theorem sort18_calls {w : World} {base : Nat} {v : Value} {X : List Spell} (h : Own w base 34 4 v X.length (flatE encSp X)) (hn : X.length ≤ 100000000000) :
    Calls Tryz.prog 18 #[v, .func (.func 69) #[] #[]] w fun e w' => e = .returned (.tuple #[]) ∧ (∃ Y, Y.Perm X ∧ (Y.Pairwise fun a b => ¬ lt3 (spKey b) (spKey a)) ∧ Own w' base 34 4 v X.length (flatE encSp Y)) ∧ Keeps (fun k => k < w.heap.size ∧ some k ≠ v.ownBlock) w w' := by
  by_cases hD : X = []
  · subst hD
    obtain ⟨A, c, rfl, _⟩ := h.slice
    exact (AnyF.slices_SortFunc_none Tryz.laysSortFunc A c (.func (.func 69) #[] #[]) w).mono fun e w' ⟨he, hw⟩ => by subst hw; exact ⟨he, ⟨[], List.Perm.refl _, List.Pairwise.nil, h⟩, Keeps.refl _ _⟩
  · obtain ⟨g, off, cap, rfl, _, _, hg⟩ := h.form (List.length_pos_iff.2 hD)
    have eg : ∀ args w, (callFunc 69 args).run Tryz.prog w = .ok (.enter 69 args) w := enters_of Tryz.func69 (by kernel_rfl) rfl
    have hc := AnyQ.slices_SortFunc Tryz.laysSortFunc 4 (fun w => Tryz.isAgg34 w) (fun w => Tryz.sizeOf34 w) encSp encSp_len (by intro x v hv; simp [encSp] at hv; rcases hv with rfl | rfl | rfl | rfl <;> rfl) cfS swoS 69 #[] g off cap X.toArray w eg (cmpLaysS g off _ w) h.holdsK hg (by simp; omega)
    simp only [List.size_toArray] at hc
    refine hc.mono fun e w' ⟨he, d', q, os, hp, hs, hw⟩ => ?_
    subst hw
    obtain ⟨hp1, hp2, hp3⟩ := hp
    have hsz' : d'.size = X.toArray.size → d'.size = X.length := fun h => by simpa using h
    refine ⟨he, ⟨d'.toList, ?_, ?_, ?_⟩, ?_⟩
    · have h1 : d'.extract 0 X.length = d' := by rw [← hsz' hp1]; exact Array.extract_size
      have h2 : X.toArray.extract 0 X.length = X.toArray := by simp
      rw [h1, h2] at hp3
      exact hp3
    · rw [List.pairwise_iff_getElem]
      intro i j hi hj hij
      simp only [Array.length_toList] at hi hj
      have := hs i j (Nat.zero_le _) hij (by rw [← hsz' hp1]; exact hj)
      rw [getElem!_pos d' j hj, getElem!_pos d' i hi] at this
      unfold ltOf cfS at this
      simp only [decide_eq_false_iff_not] at this
      rw [cmp3_neg] at this
      simpa using this
    · have h1 := (h.same (w' := Sort.ahead w q) fun _ _ => rfl).putCells (flatK encSp 4 d') (by simp [flatK, hsz' hp1])
      rw [flatK_toList encSp 4 encSp_len] at h1
      exact h1.grow os
    · exact keeps_grow (keeps_row id w q g off _ X.length cap) (fun k h => Nat.lt_of_lt_of_le h.1 (by simp [putRow, mapBlock, Sort.ahead])) os

end Go.Proofs.YteandmolnbcmmaaGreatDoor

namespace Go.Proofs.YteandmolnbcmmaaGreatDoor
open Go.RowKit Go.Sort

def rawT (l : List Samp) (w : Int × Int) (rs : List Rule) : List Spell := rs.flatMap fun r => cutS w (whole r l)

theorem rawT_snoc (l : List Samp) (w : Int × Int) (rs : List Rule) (r : Rule) : rawT l w (rs ++ [r]) = rawT l w rs ++ cutS w (whole r l) := by
  unfold rawT
  simp

theorem run_append_empty {P : Program} (w : World) (t ty e : TypeId) (i : TypeInfo) (ht : P.underlying t = some (.slice e)) (hi : P.info? e = some i) (base : Nat) (k n : Nat) (v : Value) (xs : List Value) (h : Own w base e k v n xs) (A : Option Addr) (c : Nat) :
    (Builtin.append_ #[t, t] ty #[v, .slice A 0 c]).run P w = .ok v w := by
  rcases h.2 with ⟨rfl, rfl⟩ | ⟨g, off, cap, cur, rfl, hb, hgg, hc, hm, hs, htk⟩
  · cases A <;> simp [Builtin.append_, run_underlying ht, sizeOf, typeInfo, hi, Builtin.lenOf, Builtin.firstCells, loadCells, loadCellsFrom]
  · cases A <;> simp [Builtin.append_, run_underlying ht, sizeOf, typeInfo, hi, Builtin.lenOf, Builtin.firstCells, loadCells, loadCellsFrom, hc, storeCells]

section
variable {P : Program}

/-- append(out, more...): both of the call's own (their bases may differ). -/
theorem run_append_both (w : World) (base base' : Nat) (t ty e : TypeId) (i : TypeInfo) (z : Value) (size bytes : Nat) (ht : P.underlying t = some (.slice e)) (hi : P.info? e = some i) (hz : i.zero = some z)
    (hsize : i.size = size) (hby : i.bytes = bytes) (hzs : z.cells.size = size) (hsz : 0 < size)
    (v : Value) (n : Nat) (xs : List Value) (hown : Own w base e size v n xs) (u : Value) (m : Nat) (ys : List Value) (hsrc : Own w base' e size u m ys) (h1 : ∀ x ∈ ys, x.oneCell' = true)
    (h63 : n + m ≤ maxLen) (hbytes : (n + m) * bytes ≤ 140737488355328) (hbase : base ≤ w.heap.size) :
    ∃ v' w', (Builtin.append_ #[t, t] ty #[v, u]).run P w = .ok v' w' ∧ Own w' base e size v' (n + m) (xs ++ ys) ∧ w.grownBy w' v.ownBlock ∧
      (v'.ownBlock = v.ownBlock ∨ ∃ g, v'.ownBlock = some g ∧ w.heap.size ≤ g) := by
  by_cases hm : m = 0
  · subst hm
    obtain ⟨A, c, rfl, _⟩ := hsrc.slice
    have hy : ys = [] := List.eq_nil_of_length_eq_zero (by simpa using hsrc.1)
    subst hy
    refine ⟨v, w, run_append_empty w t ty e i ht hi base size n v xs hown A c, by simpa using hown, ⟨rfl, rfl, rfl, Nat.le_refl _, fun _ _ _ => rfl⟩, .inl rfl⟩
  · obtain ⟨g, off, cap, rfl, _, _, _⟩ := hsrc.form (by omega)
    refine run_append_Own w base t ty e i z size bytes ht hi hz hsize hby hzs hsz v n xs hown ⟨g, off, none⟩ m cap ys hsrc.1 (fun j x hx => ?_) h1 h63 hbytes hbase
    have hadd : (⟨g, off, none⟩ : Addr).add j = ⟨g, off + j, none⟩ := by unfold Addr.add; split <;> simp_all
    rw [hadd]
    exact hsrc.cell j x hx

theorem step_append_both {ops : Array Oper} {o : Oper} {a : Act} {w : World} {K : Act → World → Prop} {Q : Exit → Act → World → Prop} {E : Prop} (hg : o.guard = none) (s x : Operand) (t : TypeId)
    (ho : o.op = .call { callee := .builtin .append, args := #[s, x], argTypes := #[t, t] })
    (base base' : Nat) (e : TypeId) (i : TypeInfo) (z : Value) (size bytes : Nat) (ht : P.underlying t = some (.slice e)) (hi : P.info? e = some i) (hz : i.zero = some z)
    (hsize : i.size = size) (hby : i.bytes = bytes) (hzs : z.cells.size = size) (hsz : 0 < size)
    (v : Value) (n : Nat) (xs : List Value) (hs : a.eval s = v) (hown : Own w base e size v n xs) (u : Value) (m : Nat) (ys : List Value) (hx : a.eval x = u) (hsrc : Own w base' e size u m ys) (h1 : ∀ x ∈ ys, x.oneCell' = true)
    (h63 : n + m ≤ maxLen) (hbytes : (n + m) * bytes ≤ 140737488355328) (hbase : base ≤ w.heap.size)
    (h : ∀ v' w', Own w' base e size v' (n + m) (xs ++ ys) → w.grownBy w' v.ownBlock → (v'.ownBlock = v.ownBlock ∨ ∃ g, v'.ownBlock = some g ∧ w.heap.size ≤ g) → K (a.put o.dst v') w') :
    if Region.wanted o (yielded ops a.tmps) = true then Oper.wp P o a w K Q else E := by
  have hw : Region.wanted o (yielded ops a.tmps) = true := by simp [Region.wanted, hg]
  rw [if_pos hw]
  obtain ⟨v', w', hr, h2, h3, h4⟩ := run_append_both (P := P) w base base' t o.type e i z size bytes ht hi hz hsize hby hzs hsz v n xs hown u m ys hsrc h1 h63 hbytes hbase
  unfold Oper.wp execOp
  simp only [ho, resolve, invoke, builtin, Sem.run_bind, Sem.run_pure, Result.andThen_ok, List.map_toArray, List.map_cons, List.map_nil, hs, hx, hr]
  exact h v' w' h2 h3 h4

theorem wpList_append_both {w : World} {ops : Array Oper} {rest : List Oper} {o : Oper} {a : Act} {Q : Exit → Act → World → Prop} (hgd : o.guard = none) (s x : Operand) (t : TypeId)
    (ho : o.op = .call { callee := .builtin .append, args := #[s, x], argTypes := #[t, t] })
    (base base' : Nat) (e : TypeId) (i : TypeInfo) (z : Value) (size bytes : Nat) (ht : P.underlying t = some (.slice e)) (hi : P.info? e = some i) (hz : i.zero = some z)
    (hsize : i.size = size) (hby : i.bytes = bytes) (hzs : z.cells.size = size) (hsz : 0 < size)
    (v : Value) (n : Nat) (xs : List Value) (hs : a.eval s = v) (hown : Own w base e size v n xs) (u : Value) (m : Nat) (ys : List Value) (hx : a.eval x = u) (hsrc : Own w base' e size u m ys) (h1 : ∀ x ∈ ys, x.oneCell' = true)
    (h63 : n + m ≤ maxLen) (hbytes : (n + m) * bytes ≤ 140737488355328) (hbase : base ≤ w.heap.size)
    (h : ∀ v' w', Own w' base e size v' (n + m) (xs ++ ys) → w.grownBy w' v.ownBlock → (v'.ownBlock = v.ownBlock ∨ ∃ g, v'.ownBlock = some g ∧ w.heap.size ≤ g) → wpList P ops Q rest (a.put o.dst v') w') : wpList P ops Q (o :: rest) a w :=
  wpList_plain hgd fun K hK => by
    obtain ⟨v', w', hr, h2, h3, h4⟩ := run_append_both (P := P) w base base' t o.type e i z size bytes ht hi hz hsize hby hzs hsz v n xs hown u m ys hsrc h1 h63 hbytes hbase
    unfold Oper.wp execOp
    simp only [ho, resolve, invoke, builtin, Sem.run_bind, Sem.run_pure, Result.andThen_ok, List.map_toArray, List.map_cons, List.map_nil, hs, hx, hr]
    exact hK _ _ (h v' w' h2 h3 h4)
end

theorem flatE_one {α : Type} {enc : α → List Value} (h : ∀ x, ∀ v ∈ enc x, v.oneCell' = true) (l : List α) : ∀ v ∈ flatE enc l, v.oneCell' = true := by
  intro v hv
  obtain ⟨x, _, hx⟩ := List.mem_flatMap.1 hv
  exact h x v hx

theorem encSp_one (x : Spell) : ∀ v ∈ encSp x, v.oneCell' = true := by
  intro v hv
  simp [encSp] at hv
  rcases hv with rfl | rfl | rfl | rfl <;> rfl

theorem Own.lower {w : World} {base base' : Nat} {e : TypeId} {k : Nat} {v : Value} {n : Nat} {xs : List Value} (h : Own w base e k v n xs) (hb : base' ≤ base) : Own w base' e k v n xs :=
  ⟨h.1, h.2.imp id fun ⟨g, off, cap, cur, h1, h2, h3⟩ => ⟨g, off, cap, cur, h1, Nat.le_trans hb h2, h3⟩⟩

theorem Own.keeps {F : Nat → Prop} {w w' : World} {base : Nat} {e : TypeId} {k : Nat} {v : Value} {n : Nat} {xs : List Value} (h : Own w base e k v n xs) (hk : Keeps F w w') (hF : ∀ g, v.ownBlock = some g → F g) : Own w' base e k v n xs :=
  h.same fun g hg => hk.block g (hF g hg)

theorem Keeps.of_below {w w' : World} (h : Below w.heap.size w w') : Keeps (· < w.heap.size) w w' := ⟨h.os, h.tape, h.output, h.size, h.block⟩

end Go.Proofs.YteandmolnbcmmaaGreatDoor

namespace Go.Proofs.YteandmolnbcmmaaGreatDoor
open Go.RowKit Go.Sort

theorem whole_len {r : Rule} {l : List Samp} (hr : GoodR r) (hl : GoodL l) : (whole r l).length ≤ 50005000 := by
  have h1 := devs_len r.metric l l.length rfl hl.len
  have h2 := wholeT_len hr hl (devs r.metric l) 5000 h1
  exact h2

theorem rawT_len {l : List Samp} {w : Int × Int} (hl : GoodL l) : ∀ (rs : List Rule), (∀ r ∈ rs, GoodR r) → ∀ k, rs.length ≤ k → (rawT l w rs).length ≤ k * 50005000
  | [], _, k, _ => by simp [rawT]
  | r :: rs, h, k, hk => by
    cases k with
    | zero => simp at hk
    | succ k =>
      have h1 := rawT_len (w := w) hl rs (fun x hx => h x (by simp [hx])) k (by simpa using hk)
      have h2 := whole_len (h r (by simp)) hl
      have h3 := cutS_len w (whole r l)
      unfold rawT at *
      rw [List.flatMap_cons, List.length_append]
      omega

/-- What Spells gives. -/
def spOf (rs : List Rule) (l : List Samp) (w : Int × Int) : List Spell := if faultOf rs l w = 0 then spells rs l w else []

def SpPost (w : World) (rs : List Rule) (l : List Samp) (win : Int × Int) (e : Ending) (w' : World) : Prop :=
  (∃ ov, e = .returned (.tuple #[ov, .int .i64 (faultOf rs l win)]) ∧ Own w' w.heap.size 34 4 ov (spOf rs l win).length (flatE encSp (spOf rs l win))) ∧ Below w.heap.size w w'

set_option maxHeartbeats 4000000 in
set_option maxRecDepth 100000 in
theorem spells_no {w : World} {rv sv : Value} {rs : List Rule} {l : List Samp} {f t : Int} (hr : ReadsK w 10 rv (rs.map encR)) (hs : ReadsK w 4 sv (l.map encSa)) (hzr : SizedR rs) (hzs : SizedSa l) (hf : faultOf rs l (f, t) ≠ 0) :
    Calls Tryz.prog 42 #[rv, sv, .agg #[.int .i64 f, .int .i64 t]] w (SpPost w rs l (f, t)) := by
  have HR := Lib.hid hr
  have HS := Lib.hid hs
  have HZ := Lib.hid hzr
  have HY := Lib.hid hzs
  have HG := Lib.hid ((Grows.refl w).alloc (.cells #[.int .i64 f, .int .i64 t] 25))
  obtain ⟨x, hx⟩ : ∃ x, faultOf rs l (f, t) = x := ⟨_, rfl⟩
  have hb : (x != 0) = true := by rw [← hx]; simpa using hf
  have HX := Lib.hid hx
  clear hr hs hzr hzs hx
  go_enter Tryz.func42, Tryz.ntmps42
  go_wp2_with fail
  refine (fault_calls rs l f t _ _ _ (HG.out.reads HR.out) (HG.out.reads HS.out) HZ.out HY.out).mono ?_
  rintro e w1 ⟨rfl, hg1⟩
  rw [HX.out]
  have HG1 := Lib.hid (HG.out.trans hg1)
  clear hg1
  go_wp2_with fail
  go_ret2
  refine ⟨⟨.slice none 0 0, congrArg (fun z => Ending.returned (.tuple #[.slice none 0 0, .int .i64 z])) HX.out.symm, ?_⟩, HG1.out.below⟩
  unfold spOf
  rw [if_neg hf]
  exact Own.nil _ _ _ _

structure RS (w wx : World) (f t : Int) (v : Value) (X : List Spell) : Prop where
  out : Own wx (w.heap.size + 1) 34 4 v X.length (flatE encSp X)
  kp : Keeps (· < w.heap.size) w wx
  win : Blk wx w.heap.size 25 #[.int .i64 f, .int .i64 t]

theorem RS.kept {w wx wy : World} {f t : Int} {v : Value} {X : List Spell} (h : RS w wx f t v X) (hk : Keeps (· < wx.heap.size) wx wy) : RS w wy f t v X where
  out := h.out.same fun g hg => hk.block g (h.out.lt g hg).2
  kp := h.kp.trans (hk.mono fun _ hk' => Nat.lt_of_lt_of_le hk' h.kp.size)
  win := (hk.block _ h.win.lt).trans h.win

theorem RS.app {w wx wy : World} {f t : Int} {v v' : Value} {X Y : List Spell} (h : RS w wx f t v X) (hg : wx.grownBy wy v.ownBlock) (ho : Own wy (w.heap.size + 1) 34 4 v' Y.length (flatE encSp Y)) : RS w wy f t v' Y where
  out := ho
  kp := h.kp.trans ((Keeps.refl _ _).grown hg (fun k hk => Nat.lt_of_lt_of_le hk h.kp.size) fun g e hk => by have := (h.out.lt g e).1; omega)
  win := h.win.grown hg fun e => by have := (h.out.lt _ e.symm).1; omega

theorem RS.out_le {w wx : World} {f t : Int} {v : Value} {X : List Spell} (h : RS w wx f t v X) : w.heap.size + 1 ≤ wx.heap.size := h.win.lt

set_option maxHeartbeats 4000000 in
set_option maxRecDepth 100000 in
theorem spells_yes {w : World} {rv sv : Value} {rs : List Rule} {l : List Samp} {f t : Int} (hr : ReadsK w 10 rv (rs.map encR)) (hs : ReadsK w 4 sv (l.map encSa)) (hzr : SizedR rs) (hzs : SizedSa l) (hf : faultOf rs l (f, t) = 0) :
    Calls Tryz.prog 42 #[rv, sv, .agg #[.int .i64 f, .int .i64 t]] w (SpPost w rs l (f, t)) := by
  obtain ⟨i1, hi1, hy0, hy1, hy2⟩ := info_parts info34
  obtain ⟨c1, c2, _⟩ := faultOf_ok hf
  have HGR := Lib.hid (chkR_ok c1)
  have HGL := Lib.hid (chkS_ok c2)
  have HF := Lib.hid hf
  have HR := Lib.hid hr
  have HS := Lib.hid hs
  have HZ := Lib.hid hzr
  have HY := Lib.hid hzs
  have HG := Lib.hid ((Grows.refl w).alloc (.cells #[.int .i64 f, .int .i64 t] 25))
  have HW := Lib.hid (Blk.new w 25 #[.int .i64 f, .int .i64 t])
  obtain ⟨A, c, rfl, hcap, hrow⟩ := hr
  rw [List.length_map] at hcap HR ⊢
  have HRow := Lib.hid hrow
  clear hs hzr hzs hf c1 c2 hrow
  obtain ⟨n, hnn⟩ : ∃ n, rs.length = n := ⟨_, rfl⟩
  have hn := HGR.out.len
  rw [hnn] at hn hcap HR ⊢
  have HN := Lib.hid hnn
  clear hnn
  go_enter Tryz.func42, Tryz.ntmps42
  go_wp2_with fail
  refine (fault_calls rs l f t _ _ _ (HG.out.reads HR.out) (HG.out.reads HS.out) HZ.out HY.out).mono ?_
  rintro e w1 ⟨rfl, hg1⟩
  rw [HF.out]
  have R1 : Hid (RS w w1 f t (.slice none 0 0) (rawT l (f, t) (rs.take 0))) := Lib.hid ⟨Own.nil _ _ _ _, Keeps.of_grows (HG.out.trans hg1) fun _ h => h, (Keeps.of_below hg1.below).block _ HW.out.lt |>.trans HW.out⟩
  clear hg1 HG HW
  go_wp2_with fail
  go_loopw [9, 20] (fun v i wr => ∃ k : Nat, k ≤ n ∧ i = .int .i64 k ∧ RS w wr f t v (rawT l (f, t) (rs.take k))) (fun _ i _ => n - (intOf i).toNat)
  case atStart => exact ⟨0, Nat.zero_le _, rfl, R1.out⟩
  case round =>
    obtain ⟨k, hk, rfl, hW⟩ := hrel
    have HW := Lib.hid hW
    clear hW R1
    by_cases hlt : k < n
    · obtain ⟨r, hs⟩ : ∃ r, rs[k]? = some r := ⟨rs[k]'(by rw [HN.out]; exact hlt), List.getElem?_eq_getElem _⟩
      obtain ⟨b, o, rfl, hrow⟩ := HRow.out (by intro e; rw [List.map_eq_nil_iff] at e; rw [e] at hs; simp at hs)
      have hcs := hrow k (encR r) (by rw [List.getElem?_map, hs]; rfl)
      have HCs := Lib.hid hcs
      have hbl := World.block_lt_of_cell? w _ (hcs 0 _ rfl)
      have HM := Lib.hid (HGR.out.each r (List.mem_of_getElem? hs)).1
      have hd : (k : Int) < (n : Int) := by omega
      have x1 : IntKind.i64.wrap ((k : Int) + 1) = (k : Int) + 1 := IntWalk.i64_in _ (by omega)
      have htk : rs.take (k + 1) = rs.take k ++ [r] := by rw [List.take_add_one, hs]; rfl
      have HTK := Lib.hid htk
      have hwl := whole_len HM.out HGL.out
      have hcl := cutS_len (f, t) (whole r l)
      have hrl := rawT_len (w := (f, t)) HGL.out (rs.take k) (fun x hx => (HGR.out.each x (List.mem_of_mem_take hx)).1) 100 (by rw [List.length_take]; omega)
      have e0 : wr.cell? ⟨w.heap.size, 0, none⟩ = some (.int .i64 f) := HW.out.win.cell 0
      have e1 : wr.cell? ⟨w.heap.size, 1, none⟩ = some (.int .i64 t) := HW.out.win.cell 1
      have hsz := HW.out.kp.size
      have hwlt := HW.out.win.lt
      clear hrow hcs hs htk
      go_wp2_with fail
      obtain ⟨X, hX⟩ : ∃ X, rawT l (f, t) (rs.take k) = X := ⟨_, rfl⟩
      rw [hX] at HW hrl
      obtain ⟨Y, hY⟩ : ∃ Y, cutS (f, t) (whole r l) = Y := ⟨_, rfl⟩
      rw [hY] at hcl
      have hXY : Hid (rawT l (f, t) (rs.take (k + 1)) = X ++ Y) := Lib.hid (by rw [HTK.out, rawT_snoc, hX, hY])
      replace hX := Lib.hid hX
      replace hY := Lib.hid hY
      go_region_held3 (fun w' => w'.cell? ⟨w.heap.size, 0, none⟩ = some (.int .i64 f) ∧ w'.cell? ⟨w.heap.size, 1, none⟩ = some (.int .i64 t))
        (first
          | exact ⟨e0, e1⟩
          | go_keep
          | exact ⟨hW2.win.cell 0, hW2.win.cell 1⟩
          | exact ⟨hW3.win.cell 0, hW3.win.cell 1⟩
          | exact ⟨hW4.win.cell 0, hW4.win.cell 1⟩)
        (first
          | (go_at_call 62
             refine (whole_calls (w := wr.drew) (r := r) (l := l) HM.out (HW.out.kp.drew.cells hbl HCs.out) (Nat.lt_of_lt_of_le hbl HW.out.kp.size) (HW.out.kp.drew.reads (fun _ h => h) HS.out) HGL.out HY.out).mono ?_
             rintro e w2 ⟨⟨ov, rfl, ho⟩, hb⟩
             have hW2 := (HW.out.kept ((Keeps.refl _ wr).drew)).kept (Keeps.of_below hb))
          | (go_at_call 61
             refine (cut_calls (w := w2) (Own.reads encSp_len ho) (by omega) f t).mono ?_
             rintro e w3 ⟨⟨ov2, rfl, ho2⟩, hb3⟩
             have hW3 := hW2.kept (Keeps.of_below hb3)
             rw [hY.out] at ho2)
          | (refine step_append_both (by rfl) _ _ _ (by rfl) (w.heap.size + 1) w2.heap.size 34 i1 _ 4 48 under26 hi1 hy0 hy1 hy2 rfl (by omega) u9 _ _ (by rfl) hW3.out _ _ _ (by rfl) ho2 (flatE_one encSp_one _)
                (by unfold maxLen; omega) (by omega) hW3.out_le ?_
             intro v' w4 hown4 hgrow hfr
             have hW4 := hW3.app hgrow (Y := X ++ Y) (by rw [flatE, List.flatMap_append, List.length_append]; exact hown4)))
      all_goals
        go_wp2_with fail
        go_roundw
        case rel => exact ⟨k + 1, by omega, by go_num, by rw [hXY.out]; exact hW4⟩
        case measure => simp [intOf]; omega
    · have hkn : k = n := by omega
      subst hkn
      have hd : ¬ (k : Int) < (k : Int) := by omega
      have hlt : rs.take k = rs := by rw [← HN.out]; exact List.take_length
      rw [hlt] at HW
      have hrl := rawT_len (w := (f, t)) HGL.out rs (fun x hx => (HGR.out.each x hx).1) 100 (by rw [HN.out]; omega)
      go_wp2_with fail
      refine (sort18_calls HW.out.out (by omega)).mono ?_
      rintro e w2 ⟨rfl, ⟨Y, hp, hs, hO⟩, hK⟩
      have hY : Y = spells rs l (f, t) := sort3_of spKey (raw_told HGR.out HGL.out (f, t)) hp hs
      have hlen : Y.length = (rawT l (f, t) rs).length := hp.length_eq
      rw [← hlen] at hO
      have HO := Lib.hid hO
      have HK := Lib.hid (HW.out.kp.trans (hK.mono fun k h => ⟨Nat.lt_of_lt_of_le h HW.out.kp.size, fun e => by have := (HW.out.out.lt k e.symm).1; omega⟩))
      replace hY := Lib.hid hY
      clear hp hs hO hK hlen hrl
      go_wp2_with fail
      go_ret2
      refine ⟨⟨_, congrArg (fun z => Ending.returned (.tuple #[_, .int .i64 z])) HF.out.symm, ?_⟩, HK.out.below⟩
      unfold spOf
      rw [if_pos HF.out, ← hY.out]
      exact HO.out.lower (by omega)

theorem spells_calls {w : World} {rv sv : Value} {rs : List Rule} {l : List Samp} {f t : Int} (hr : ReadsK w 10 rv (rs.map encR)) (hs : ReadsK w 4 sv (l.map encSa)) (hzr : SizedR rs) (hzs : SizedSa l) :
    Calls Tryz.prog 42 #[rv, sv, .agg #[.int .i64 f, .int .i64 t]] w (SpPost w rs l (f, t)) := by
  by_cases hf : faultOf rs l (f, t) = 0
  · exact spells_yes hr hs hzr hzs hf
  · exact spells_no hr hs hzr hzs hf

end Go.Proofs.YteandmolnbcmmaaGreatDoor
