/- The frame of a law that answers true and leaves what was there: from Yes to the row's post. And the arguments opened: a slice of rules, a slice of samples, a window. The arguments opened: rules, samples, a window. The witness's world: the settled one, the five tables holding what their initialisers lay. The program's own words, read off once: its first word behind the main's is cut; so it may be entered, lifts nothing and is a cut. No condition beyond what each theorem states. -/
import Derived.ProofKit
import Derived.OpenShut
import Derived.WideKeyArgs
import Derived.Deep.Slices
import Derived.Deep.Fields
import Derived.Deep.DeepHandedRow
import Derived.Lib.SmallJoins
import Derived.Lib.LaidTab
import Derived.Below
import Derived.ChangeSame
import Derived.SizedLaws
import Derived.Test.YteandmolnbcmmaaGreatDoorLB
import Derived.Test.YteandmolnbcmmaaGreatDoorCards
import Derived.Test.YteandmolnbcmmaaGreatDoorTie

namespace Go.Proofs.YteandmolnbcmmaaGreatDoor
open Go.ChangeShapes Go.WideShapes Go.ChangeAt Go.RowKit Go.Deep

section
variable {H : Type} {enc : TypeId × Value → H}

theorem trodAll_stays {P : Program} (hl : laidOutB P = true) {W W' : World} {sp : Nat → Bool} : ∀ {ts : List TypeId} {vs : List Value} {ds : List (DataW H)} {ps : List MemPlace},
    (∀ t ∈ ts, P.readableRec t = true ∧ t < P.types.size) → DataW.TrodAll enc P W 0 (fun _ => true) true ts vs ds ps → (∀ p ∈ ps, W.sameAt W' p) → (∀ p ∈ ps, sp p.block = true) → DataW.TrodAll enc P W' 0 sp true ts vs ds ps
  | [], _, _, _, _, h, _, _ => by
    obtain ⟨rfl, rfl, rfl⟩ := trodAll_nil h
    exact trodAll_mk0
  | t :: ts, _, _, _, ht, h, hs, hb => by
    obtain ⟨v, vs', d, ds', p, q, rfl, rfl, rfl, h1, h2⟩ := trodAll_cons h
    obtain ⟨k1, k2⟩ := ht t (List.mem_cons_self ..)
    exact trodAll_cons_mk (WideElems.Trod_stays hl k1 k2 h1 (fun x hx => hs x (List.mem_append_left _ hx)) fun x hx => hb x (List.mem_append_left _ hx))
      (trodAll_stays hl (fun u hu => ht u (List.mem_cons_of_mem _ hu)) h2 (fun x hx => hs x (List.mem_append_right _ hx)) fun x hx => hb x (List.mem_append_right _ hx))

set_option maxRecDepth 100000 in
/-- From Yes to the row's post. -/
theorem yes_post {f : Func} {s : ChangeSpec} {W W' : World} {args : Array Value} {ds gs : List (DataW H)} {before : List MemPlace}
    (hvars : s.vars = []) (hres : f.resultTypes = #[4]) (hpar : ∀ t ∈ f.params.toList, Tryz.prog.readableRec t = true ∧ t < Tryz.prog.types.size)
    (hfn : s.fn H ds = { results := [.lit (.bool true)], args := ds })
    (hW : DataW.Whole enc Tryz.prog f.params.toList s.vars false W args.toList ds gs before) (hb : Below W.heap.size W W') :
    s.post enc Tryz.prog f false true false false W args (.bool true) W' := by
  have hlt : ∀ p ∈ before, p.block < W.heap.size := fun p hp => hW.lt p hp
  have hsame : ∀ p ∈ before, W.sameAt W' p := fun p hp => hb.same (hlt p hp)
  have hW0 := hW
  obtain ⟨p, q, hA, hV, rfl, hfz, hnd⟩ := hW
  rw [hvars] at hV
  obtain ⟨rfl, rfl⟩ := trodVars_none hV
  have hA' : DataW.TrodAll enc Tryz.prog W 0 (fun _ => true) true f.params.toList args.toList ds p := hA
  rw [List.append_nil] at hlt hsame hfz hW0
  have hargs : ∀ sp : Nat → Bool, (∀ x ∈ p, sp x.block = true) → DataW.TrodAll enc Tryz.prog W' 0 sp true f.params.toList args.toList ds p := fun sp hsp => trodAll_stays (by kernel_rfl) hpar hA' hsame hsp
  have hold : ∀ x ∈ p, (fun b => decide (b < W.heap.size)) x.block = true := fun x hx => by simpa using hlt x hx
  have hone : ∀ (b : Nat) (sp : Nat → Bool) (hd : Bool), DataW.TrodAll enc Tryz.prog W' b sp hd f.resultTypes.toList ((Value.bool true).resultList f.resultTypes.size) [.lit (.bool true)] [] := by
    intro b sp hd
    rw [hres]
    exact trodAll_cons_mk (shut_bool Tryz.underlying4 _) trodAll_mk0
  have hvv : ∀ sp : Nat → Bool, DataW.TrodVars enc Tryz.prog W' sp s.vars ([] : List (DataW H)) [] := by intro sp; rw [hvars]; exact rfl
  have hff : s.fn H (ds ++ []) = { results := [.lit (.bool true)], args := ds } := by rw [List.append_nil]; exact hfn
  refine ⟨ds, [], p, [], p, [], hW0, ?_, ?_, ?_, World.keptBut_mono (fun x hx => ⟨hx, ?_⟩) (hb.frame (· ∈ p)), fun ha => by cases ha⟩
  · rw [hff]; exact hone _ _ _
  · rw [hff]; exact hargs _ hold
  · rw [hff]; exact hvv _
  · simpa using hx

/-- A slice of structs of one-cell fields, opened: each element's fields at their cells. -/
theorem open_rows {t e : TypeId} {fs : Array Field} {k : Nat} {W : World} {v : Value} {d : DataW H} {ps : List MemPlace} (ht : Tryz.prog.underlying t = some (.slice e)) (he : Tryz.prog.underlying e = some (.struct fs))
    (hone : oneCellFields Tryz.prog fs = true) (hC : Tryz.prog.cellsOf e = k) (hk : k = fs.size) (hk0 : 0 < k) {X : Type} (f : X → List Value) (ok : X → Prop)
    (hf : ∀ (cells : List Value), cells.length = k → (∀ (j : Nat) (fd : Field), fs[j]? = some fd → ∃ (u : Value) (y : DataW H × List MemPlace) (n : Nat), cells[j]? = some u ∧ DataW.trod enc Tryz.prog W 0 (fun _ => true) true n fd.type [u] = some y) → ∃ x : X, cells = f x ∧ ok x)
    (hv : ∃ a n c, v = .slice a n c) (h : DataW.Trod enc Tryz.prog W 0 (fun _ => true) true t v d ps) :
    ∃ xs : List X, ReadsK W k v (xs.map f) ∧ (∀ x ∈ xs, ok x) ∧ (xs = [] ∨ ∃ es sp, d = .slice es sp ∧ es.length = xs.length) := by
  obtain ⟨a, n, c, rfl⟩ := hv
  obtain ⟨fuel, hf'⟩ := h
  have hf1 : DataW.trod enc Tryz.prog W 0 (fun _ => true) true fuel t [.slice a n c] = some (d, ps) := hf'
  rcases open_slice ht hf1 with ⟨h0, _⟩ | ⟨a', len, cap, m, n', D, Pl, h1, -, hlc, -, hm, hdd, hi⟩
  · obtain ⟨rfl, rfl, rfl⟩ : a = none ∧ n = 0 ∧ c = 0 := by simpa using h0
    exact ⟨[], ⟨none, 0, rfl, Nat.le_refl _, fun hx => absurd rfl hx⟩, (fun _ hx => by cases hx), .inl rfl⟩
  · obtain ⟨rfl, rfl, rfl⟩ : a = some a' ∧ n = len ∧ c = cap := by simpa using h1
    simp only [if_true] at hm
    subst hm
    have hs : 0 < n → a'.spot = none := by
      intro hn
      obtain ⟨cs', hc, ht'⟩ := hi 0 (by omega)
      rw [hC] at hc
      obtain ⟨_, hcl, hat⟩ := World.cells?_some hc
      have h00 := hat 0 hk0
      have hne : (a'.add (0 * k)).add 0 = a' := by simp [Addr.add]
      rw [hne, List.getElem?_eq_getElem (by omega)] at h00
      unfold World.cell? at h00
      split at h00
      · split at h00
        · cases h00
        · rename_i hsp
          simpa using hsp
      · cases h00
    have hx : ∀ i : Nat, i < n → ∃ x : X, Cells W a'.block (a'.off + i * k) (f x) ∧ ok x := by
      intro i him
      have hs := hs (by omega)
      obtain ⟨cs', hc, ht'⟩ := hi i (by omega)
      rw [hC] at hc
      obtain ⟨ys, n'', hn', hy, hlen, hyl, hfd⟩ := DataW.trod_struct he ht'
      obtain ⟨_, hcl, hat⟩ := World.cells?_some hc
      obtain ⟨x, hx1, hx2⟩ := hf cs' (by omega) (by
        intro j fd hj
        obtain ⟨ho, hkk⟩ := hone_of hone j fd hj
        have hjl : j < fs.size := (Array.getElem?_eq_some_iff.1 hj).1
        have hv : cs'[j]? = some (cs'[j]'(by omega)) := List.getElem?_eq_getElem (by omega)
        have h1 := hfd j fd hj
        rw [ho, hkk] at h1
        have hone' : (cs'.drop j).take 1 = [cs'[j]'(by omega)] := by
          rw [List.drop_eq_getElem_cons (by omega)]
          rfl
        rw [hone'] at h1
        have hys : ys[j]? = some (ys[j]'(by omega)) := List.getElem?_eq_getElem (by omega)
        exact ⟨_, _, _, hv, h1.trans hys⟩)
      refine ⟨x, ?_, hx2⟩
      intro j u hj
      rw [← hx1] at hj
      have hjl : j < k := by have := (List.getElem?_eq_some_iff.1 hj).1; omega
      have h2 := hat j hjl
      rw [hj] at h2
      rw [← h2]
      refine congrArg W.cell? ?_
      cases a' with
      | mk bb oo ss =>
        simp only at hs
        subst hs
        rw [Deep.add_add]
        simp only [Addr.add]
        split
        · rename_i h0; simp only [Addr.mk.injEq, and_true, true_and]; omega
        · simp only [Addr.mk.injEq, and_true, true_and]; omega
    have hall : ∃ xs : List X, xs.length = n ∧ ∀ (i : Nat) (x : X), xs[i]? = some x → Cells W a'.block (a'.off + i * k) (f x) ∧ ok x := by
      clear hi h1 hlc hs hf1 hf' hf hdd
      induction n with
      | zero => exact ⟨[], rfl, fun i x hx => by simp at hx⟩
      | succ n ih =>
        obtain ⟨xs, hl, hxs⟩ := ih (fun i hi => hx i (by omega))
        obtain ⟨x, hx1, hx2⟩ := hx n (by omega)
        refine ⟨xs ++ [x], by simp [hl], fun i y hy => ?_⟩
        by_cases hin : i < n
        · rw [List.getElem?_append_left (by omega)] at hy
          exact hxs i y hy
        · rw [List.getElem?_append_right (by omega)] at hy
          have : i - xs.length = 0 := by
            cases hq : i - xs.length with
            | zero => rfl
            | succ q => rw [hq] at hy; simp at hy
          rw [this] at hy
          have hi : i = n := by omega
          subst hi
          have : y = x := by simpa using hy.symm
          subst this
          exact ⟨hx1, hx2⟩
    obtain ⟨xs, hxl, hxs⟩ := hall
    refine ⟨xs, ⟨some a', m, by simp [hxl], by simpa [hxl] using hlc, fun hne => ⟨a'.block, a'.off, ?_, ?_⟩⟩, fun x hx => ?_, .inr ⟨_, _, congrArg Prod.fst hdd, by simp [hxl]⟩⟩
    · have hn0 : 0 < n := by
        rcases Nat.eq_zero_or_pos n with h0 | h0
        · exact absurd (by rw [List.map_eq_nil_iff]; exact List.eq_nil_of_length_eq_zero (by omega)) hne
        · exact h0
      have := hs hn0
      cases a' with
      | mk bb oo ss => simp only at this; subst this; rfl
    · intro i y hy
      rw [List.getElem?_map] at hy
      cases hq : xs[i]? with
      | none => rw [hq] at hy; cases hy
      | some x =>
        rw [hq] at hy
        have : f x = y := by simpa using hy
        subst this
        exact (hxs i x hq).1
    · obtain ⟨i, hi'⟩ := List.mem_iff_getElem?.1 hx
      exact (hxs i x hi').2
end
end Go.Proofs.YteandmolnbcmmaaGreatDoor

namespace Go.Proofs.YteandmolnbcmmaaGreatDoor
open Go.ChangeShapes Go.WideShapes Go.ChangeAt Go.RowKit Go.Deep

section
variable {H : Type} {enc : TypeId × Value → H} {W : World} {v : Value} {d : DataW H} {ps : List MemPlace}

set_option maxRecDepth 100000 in
theorem open_rules {b : Nat} (hv : Value.okWide Tryz.prog W .any b 22 v) (h : DataW.Trod enc Tryz.prog W 0 (fun _ => true) true 22 v d ps) :
    ∃ rs : List Rule, ReadsK W 10 v (rs.map encR) ∧ SizedR rs ∧ (rs = [] ∨ ∃ es sp, d = .slice es sp ∧ es.length = rs.length) := by
  refine open_rows (f := encR) (ok := fun r => r.key.size ≤ maxLen ∧ r.metric.size ≤ maxLen) Tryz.underlying22 Tryz.underlying31 (by kernel_rfl) (k := 10) (by kernel_rfl) rfl (by omega) ?_ (okWide_slice Tryz.underlying22 hv) h
  intro cells hlen hf
  match cells, hlen with
  | [c0, c1, c2, c3, c4, c5, c6, c7, c8, c9], _ =>
    obtain ⟨u0, y0, n0, e0, t0⟩ := hf 0 _ rfl
    obtain ⟨u1, y1, n1, e1, t1⟩ := hf 1 _ rfl
    obtain ⟨u2, y2, n2, e2, t2⟩ := hf 2 _ rfl
    obtain ⟨u3, y3, n3, e3, t3⟩ := hf 3 _ rfl
    obtain ⟨u4, y4, n4, e4, t4⟩ := hf 4 _ rfl
    obtain ⟨u5, y5, n5, e5, t5⟩ := hf 5 _ rfl
    obtain ⟨u6, y6, n6, e6, t6⟩ := hf 6 _ rfl
    obtain ⟨u7, y7, n7, e7, t7⟩ := hf 7 _ rfl
    obtain ⟨u8, y8, n8, e8, t8⟩ := hf 8 _ rfl
    obtain ⟨u9, y9, n9, e9, t9⟩ := hf 9 _ rfl
    obtain rfl : c0 = u0 := Option.some.inj e0
    obtain rfl : c1 = u1 := Option.some.inj e1
    obtain rfl : c2 = u2 := Option.some.inj e2
    obtain rfl : c3 = u3 := Option.some.inj e3
    obtain rfl : c4 = u4 := Option.some.inj e4
    obtain rfl : c5 = u5 := Option.some.inj e5
    obtain rfl : c6 = u6 := Option.some.inj e6
    obtain rfl : c7 = u7 := Option.some.inj e7
    obtain rfl : c8 = u8 := Option.some.inj e8
    obtain rfl : c9 = u9 := Option.some.inj e9
    clear e0 e1 e2 e3 e4 e5 e6 e7 e8 e9
    obtain ⟨s0, h0, _, z0⟩ := DataW.trod_string Tryz.underlying9 t0
    obtain ⟨s1, h1, _, z1⟩ := DataW.trod_string Tryz.underlying9 t1
    obtain ⟨i2, h2, _, _⟩ := DataW.trod_int Tryz.underlying3 t2
    obtain ⟨i3, h3, _, _⟩ := DataW.trod_int Tryz.underlying3 t3
    obtain ⟨b4, h4, _⟩ := DataW.trod_bool Tryz.underlying4 t4
    obtain ⟨i5, h5, _, _⟩ := DataW.trod_int Tryz.underlying3 t5
    obtain ⟨i6, h6, _, _⟩ := DataW.trod_int Tryz.underlying3 t6
    obtain ⟨i7, h7, _, _⟩ := DataW.trod_int Tryz.underlying3 t7
    obtain ⟨i8, h8, _, _⟩ := DataW.trod_int Tryz.underlying3 t8
    obtain ⟨i9, h9, _, _⟩ := DataW.trod_int Tryz.underlying3 t9
    obtain rfl : c0 = .string s0 := by simpa using h0
    obtain rfl : c1 = .string s1 := by simpa using h1
    obtain rfl : c2 = .int .i64 i2 := by simpa using h2
    obtain rfl : c3 = .int .i64 i3 := by simpa using h3
    obtain rfl : c4 = .bool b4 := by simpa using h4
    obtain rfl : c5 = .int .i64 i5 := by simpa using h5
    obtain rfl : c6 = .int .i64 i6 := by simpa using h6
    obtain rfl : c7 = .int .i64 i7 := by simpa using h7
    obtain rfl : c8 = .int .i64 i8 := by simpa using h8
    obtain rfl : c9 = .int .i64 i9 := by simpa using h9
    exact ⟨⟨s0, s1, i2, i3, b4, i5, i6, i7, i8, i9⟩, rfl, z0, z1⟩

def wfI (n : Int) : Prop := (Lit.int .i64 n).wf = true

set_option maxRecDepth 100000 in
theorem open_samples {b : Nat} (hv : Value.okWide Tryz.prog W .any b 23 v) (h : DataW.Trod enc Tryz.prog W 0 (fun _ => true) true 23 v d ps) :
    ∃ l : List Samp, ReadsK W 4 v (l.map encSa) ∧ SizedSa l ∧ (l = [] ∨ ∃ es sp, d = .slice es sp ∧ es.length = l.length) := by
  refine open_rows (f := encSa) (ok := fun r => r.device.size ≤ maxLen ∧ r.metric.size ≤ maxLen) Tryz.underlying23 Tryz.underlying51 (by kernel_rfl) (k := 4) (by kernel_rfl) rfl (by omega) ?_ (okWide_slice Tryz.underlying23 hv) h
  intro cells hlen hf
  match cells, hlen with
  | [c0, c1, c2, c3], _ =>
    obtain ⟨u0, y0, n0, e0, t0⟩ := hf 0 _ rfl
    obtain ⟨u1, y1, n1, e1, t1⟩ := hf 1 _ rfl
    obtain ⟨u2, y2, n2, e2, t2⟩ := hf 2 _ rfl
    obtain ⟨u3, y3, n3, e3, t3⟩ := hf 3 _ rfl
    obtain rfl : c0 = u0 := Option.some.inj e0
    obtain rfl : c1 = u1 := Option.some.inj e1
    obtain rfl : c2 = u2 := Option.some.inj e2
    obtain rfl : c3 = u3 := Option.some.inj e3
    clear e0 e1 e2 e3
    obtain ⟨s0, h0, _, z0⟩ := DataW.trod_string Tryz.underlying9 t0
    obtain ⟨s1, h1, _, z1⟩ := DataW.trod_string Tryz.underlying9 t1
    obtain ⟨i2, h2, _, _⟩ := DataW.trod_int Tryz.underlying3 t2
    obtain ⟨i3, h3, _, _⟩ := DataW.trod_int Tryz.underlying3 t3
    obtain rfl : c0 = .string s0 := by simpa using h0
    obtain rfl : c1 = .string s1 := by simpa using h1
    obtain rfl : c2 = .int .i64 i2 := by simpa using h2
    obtain rfl : c3 = .int .i64 i3 := by simpa using h3
    exact ⟨⟨s0, s1, i2, i3⟩, rfl, z0, z1⟩

set_option maxRecDepth 100000 in
theorem open_window {b : Nat} (hv : Value.okWide Tryz.prog W .any b 25 v) (h : DataW.Trod enc Tryz.prog W 0 (fun _ => true) true 25 v d ps) :
    ∃ f t : Int, v = .agg #[.int .i64 f, .int .i64 t] := by
  obtain ⟨v0, v1, y0, y1, n, rfl, _, _, h0, h1⟩ := Joins.open_agg2 Tryz.underlying25 (by kernel_rfl) (by kernel_rfl) hv h
  obtain ⟨f, e0, _, _⟩ := DataW.trod_int Tryz.underlying3 h0
  obtain ⟨t, e1, _, _⟩ := DataW.trod_int Tryz.underlying3 h1
  exact ⟨f, t, by simp at e0 e1; rw [e0, e1]⟩

set_option maxRecDepth 100000 in
theorem open_i64 {b : Nat} (hv : Value.okWide Tryz.prog W .any b 3 v) : ∃ n : Int, v = .int .i64 n := okWide_int Tryz.underlying3 hv

set_option maxRecDepth 100000 in
theorem open_text {b : Nat} (hv : Value.okWide Tryz.prog W .any b 9 v) (h : DataW.Trod enc Tryz.prog W 0 (fun _ => true) true 9 v d ps) : ∃ s : ByteArray, v = .string s ∧ s.size ≤ maxLen := by
  obtain ⟨s, rfl⟩ := okWide_string Tryz.underlying9 hv
  obtain ⟨fuel, hf⟩ := h
  obtain ⟨s', e, _, hs⟩ := DataW.trod_string Tryz.underlying9 hf
  have e' : s = s' := by simpa [Value.cells] using e
  exact ⟨s, rfl, by rw [e']; exact hs⟩

set_option maxRecDepth 100000 in
/-- The form's reach, of a slice of rules. -/
theorem reach_rules {ts : List TypeId} {ds : List (DataW H)} {j : Nat} {rs : List Rule} (h : (DataW.weightsEach Tryz.prog ts ds).all (· ≤ reachBytes) = true) (ht : ts[j]? = some 22) (hd : ds[j]? = some d) (hr : rs = [] ∨ ∃ es sp, d = .slice es sp ∧ es.length = rs.length) :
    rs.length * 96 ≤ 140737488355328 := by
  rcases hr with rfl | ⟨es, sp, rfl, hl⟩
  · simp
  · have h1 := sized_slice h ht hd Tryz.underlying22
    have h2 : Tryz.prog.bytesOf 31 = 96 := by kernel_rfl
    rw [h2] at h1
    have h3 := reachBytes_lt
    have h4 : (2 : Nat) ^ 47 = 140737488355328 := by decide
    omega
end

end Go.Proofs.YteandmolnbcmmaaGreatDoor

namespace Go.Proofs.YteandmolnbcmmaaGreatDoor
open Go.ChangeShapes Go.WideShapes Go.ChangeAt Go.RowKit Go.Deep

noncomputable def flatD : Nat → DataW Unit → List Value
  | 0, _ => []
  | _ + 1, .lit (.int k n) => [.int k n]
  | n + 1, .agg xs => xs.flatMap (flatD n)
  | _ + 1, _ => []

noncomputable def fillIn (W : World) (l : List (String × DataW Unit)) : World :=
  l.foldl (fun W x => match Tryz.prog.globalNamed x.1 with
    | some g => { W with heap := W.heap.modify g fun
        | .cells _ t fr => .cells (flatD 8 x.2).toArray t fr
        | o => o }
    | none => W) W

noncomputable def laidOf : List (String × DataW Unit) := Rows.topRulesApartRow.laid

noncomputable def laidWorld (os : Os) : World := fillIn (World.holding Tryz.prog os ⟨#[], #[], []⟩) laidOf

def args3 : Array Value := #[.slice none 0 0, .slice none 0 0, .agg #[.int .i64 0, .int .i64 0]]

set_option maxRecDepth 100000 in
theorem own_ : ownKnob Tryz.prog.godebug = none := by kernel_rfl

set_option maxRecDepth 1000000 in
theorem laid_met (os : Os) (args : Array Value) : laidMet Tryz.prog laidOf ((laidWorld os).forCall (fun _ _ => 0) ⟨#[], args, []⟩).memory :=
  laidMet_of_run' 8 (by kernel_rfl) (by kernel_rfl)

set_option maxRecDepth 1000000 in
theorem vars_met (os : Os) (args : Array Value) : ((laidWorld os).forCall (fun _ _ => 0) ⟨#[], args, []⟩).variablesB Tryz.prog = true := by kernel_rfl

set_option maxRecDepth 1000000 in
theorem heap_met (os : Os) (args : Array Value) : (((laidWorld os).forCall (fun _ _ => 0) ⟨#[], args, []⟩).heap.toList.drop Tryz.prog.globals.size).take ((begin Tryz.prog (fun _ _ => 0) default).world.heap.size - Tryz.prog.globals.size) =
    (begin Tryz.prog (fun _ _ => 0) default).world.heap.toList.drop Tryz.prog.globals.size := by kernel_rfl
end Go.Proofs.YteandmolnbcmmaaGreatDoor

namespace Go.Proofs.YteandmolnbcmmaaGreatDoor
open Go.ChangeShapes Go.WideShapes Go.ChangeAt Go.RowKit Go.Deep

set_option maxRecDepth 1000000 in
theorem words_list : ∃ L : List Char, Tryz.prog.initOrder = String.ofList L ∧ (behindMainWord (wordsSigns L)).head? = some ("cut").toList :=
  ⟨_, rfl, by kernel_rfl⟩

theorem words_ : ∃ r, behindMainWord (wordsSigns Tryz.prog.initOrder.toList) = ("cut").toList :: r := by
  obtain ⟨L, h1, h2⟩ := words_list
  rw [h1, String.toList_ofList]
  cases hc : behindMainWord (wordsSigns L) with
  | nil => rw [hc] at h2; cases h2
  | cons x r =>
    rw [hc] at h2
    exact ⟨r, by rw [Option.some.inj h2]⟩

set_option maxRecDepth 1000000 in
theorem main_list : ∃ L : List Char, Tryz.prog.initOrder = String.ofList L ∧ ∃ M : List Char, "34303e911847fdf536145ccd5a6b3a516efb71a0300a691074b6717f48dec1c8" = String.ofList M ∧
    (match wordsSigns L with
    | h :: s :: _ => if !isSumSigns s then none else if h == ("harness").toList then some (true, s) else if h == ("ownmain").toList then some (false, s) else none
    | _ => none) = some (true, M) :=
  ⟨_, rfl, _, rfl, by kernel_rfl⟩

theorem mainIs_ : Tryz.prog.mainIs = some (true, ("34303e911847fdf536145ccd5a6b3a516efb71a0300a691074b6717f48dec1c8").toList) := by
  obtain ⟨L, h1, M, h2, h3⟩ := main_list
  unfold Program.mainIs
  rw [h1, show (String.ofList L).toList = L from String.toList_ofList, show ("34303e911847fdf536145ccd5a6b3a516efb71a0300a691074b6717f48dec1c8").toList = M from by rw [h2]; exact String.toList_ofList]
  exact h3

theorem strip_ (r : List (List Char)) : stripLifts liftWords (("cut").toList :: r) = ([], ("cut").toList :: r) := by kernel_rfl

theorem headLifts_ : Tryz.prog.headLifts = [] := by
  obtain ⟨r, hr⟩ := words_
  unfold Program.headLifts
  rw [hr, strip_]
  kernel_rfl

theorem lifts_ : Tryz.prog.liftsFinal = false := by
  obtain ⟨r, hr⟩ := words_
  unfold Program.liftsFinal
  rw [hr, headLifts_]
  kernel_rfl

theorem make_ : Tryz.prog.make = some .cut := by
  obtain ⟨r, hr⟩ := words_
  unfold Program.make
  rw [hr]
  kernel_rfl

theorem enters_ : Tryz.prog.mayEnter = true := by
  obtain ⟨r, hr⟩ := words_
  unfold Program.mayEnter
  rw [hr]
  simp only [strip_]
  kernel_rfl

theorem looks_ : false = Tryz.pinned.checked.prog.looks [] := by kernel_rfl
end Go.Proofs.YteandmolnbcmmaaGreatDoor
