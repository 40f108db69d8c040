/- A range over a map of strings, under way: which keys have come. The edges of spells, by device, in a map: one more spell stored, a slice sorted in place. No condition beyond what each theorem states. -/
import Derived.Test.YteandmolnbcmmaaGreatDoorKR
import Derived.Test.YteandmolnbcmmaaGreatDoorRA
import Derived.Test.YteandmolnbcmmaaGreatDoorKT

namespace Go.Proofs.YteandmolnbcmmaaGreatDoor
open Go.RowKit Go.Sort Go.MapKept Go.WideShapes Go.ChangeMaps Go.WideElems

section
variable {P : Program} {k t e : TypeId}

/-- The iterator of block r goes over the map of block b: the keys of S have come. -/
def RangeIs (P : Program) (k : TypeId) (w : World) (b r n : Nat) (f : ByteArray → Option Value) (S : List ByteArray) : Prop :=
  ∃ es clock since seen c0, w.heap[b]? = some (.map es clock) ∧ WideElems.Fit P k R0 es clock ∧ es.size ≤ n ∧
    (∀ key v, key.size ≤ maxLen → (f key = some v ↔ ∃ x ∈ es.toList, x.key = .string key ∧ x.val = v)) ∧
    w.heap[r]? = some (.mapIter (some b) since seen c0) ∧ (∀ x ∈ es.toList, x.born < since) ∧ since ≤ c0 ∧ since ≤ clock ∧
    (∀ x ∈ es.toList, seen.contains x.born = true ↔ ∃ key ∈ S, x.key = .string key) ∧ S.Nodup ∧ (∀ key ∈ S, key.size ≤ maxLen ∧ f key ≠ none)

theorem RangeIs.ne {w : World} {b r n : Nat} {f : ByteArray → Option Value} {S : List ByteArray} (h : RangeIs P k w b r n f S) : r ≠ b := by
  obtain ⟨es, clock, since, seen, c0, hb, _, _, _, hr, _⟩ := h
  intro e
  rw [e, hb] at hr
  cases hr

theorem RangeIs.map {w : World} {b r n : Nat} {f : ByteArray → Option Value} {S : List ByteArray} (h : RangeIs P k w b r n f S) : MapIs P k w b n f := by
  obtain ⟨es, clock, since, seen, c0, hb, hF, hn, hf, _⟩ := h
  exact ⟨es, clock, hb, hF, hn, hf⟩

theorem RangeIs.lt {w : World} {b r n : Nat} {f : ByteArray → Option Value} {S : List ByteArray} (h : RangeIs P k w b r n f S) : r < w.heap.size := by
  obtain ⟨es, clock, since, seen, c0, _, _, _, _, hr, _⟩ := h
  exact (Array.getElem?_eq_some_iff.1 hr).1

theorem RangeIs.nodup {w : World} {b r n : Nat} {f : ByteArray → Option Value} {S : List ByteArray} (h : RangeIs P k w b r n f S) : S.Nodup := by
  obtain ⟨es, clock, since, seen, c0, _, _, _, _, _, _, _, _, _, hS, _⟩ := h
  exact hS

theorem RangeIs.keys {w : World} {b r n : Nat} {f : ByteArray → Option Value} {S : List ByteArray} (h : RangeIs P k w b r n f S) : ∀ key ∈ S, key.size ≤ maxLen ∧ f key ≠ none := by
  obtain ⟨es, clock, since, seen, c0, _, _, _, _, _, _, _, _, _, _, hS⟩ := h
  exact hS

theorem RangeIs.same {w w' : World} {b r n : Nat} {f : ByteArray → Option Value} {S : List ByteArray} (h : RangeIs P k w b r n f S) (hb : w'.heap[b]? = w.heap[b]?) (hr : w'.heap[r]? = w.heap[r]?) : RangeIs P k w' b r n f S := by
  obtain ⟨es, clock, since, seen, c0, h1, h2, h3, h4, h5, h6⟩ := h
  exact ⟨es, clock, since, seen, c0, hb.trans h1, h2, h3, h4, hr.trans h5, h6⟩

theorem rangeLeft_same {w w' : World} {b r : Nat} (hb : w'.heap[b]? = w.heap[b]?) (hr : w'.heap[r]? = w.heap[r]?) : w'.rangeLeft b r = w.rangeLeft b r := by
  unfold World.rangeLeft
  rw [hb, hr]

theorem MapIs.range {w : World} {b n : Nat} {f : ByteArray → Option Value} (h : MapIs P k w b n f) (ht : P.underlying t = some (.map k e)) :
    ∃ o, (Instr.range t (.map (some b))).run P w = .ok (.pointer (some ⟨w.heap.size, 0, none⟩)) (w.alloc o) ∧ RangeIs P k (w.alloc o) b w.heap.size n f [] := by
  have hlt := h.lt
  obtain ⟨es, clock, hb, hF, hn, hf⟩ := h
  refine ⟨_, run_range_map w t k e b es clock ht hb, es, clock, clock, #[], clock, ((MapKept.heap_alloc w _).2 b hlt).trans hb, hF, hn, hf, (MapKept.heap_alloc w _).1, hF.stamped.1, Nat.le_refl _, Nat.le_refl _, ?_, List.nodup_nil, ?_⟩
  · intro x _; simp
  · intro key hk; simp at hk

theorem str_inv (hk : P.underlying k = some .string) {key : Value} {kl : Lit} (h : keyOf P k key = some kl) : ∃ s, key = .string s ∧ s.size ≤ maxLen := by
  cases key <;> simp [keyOf, hk, mapKey] at h
  exact ⟨_, rfl, h.1⟩

theorem RangeIs.next {w : World} {b r n : Nat} {f : ByteArray → Option Value} {S : List ByteArray} (h : RangeIs P k w b r n f S) (hk : P.underlying k = some .string) (ty : TypeId) :
    ((∀ key v, key.size ≤ maxLen → f key = some v → key ∈ S) ∧ (Instr.next (.pointer (some ⟨r, 0, none⟩)) false ty).run P w = .ok (.tuple #[.bool false]) w) ∨
    ∃ key v w', key.size ≤ maxLen ∧ f key = some v ∧ key ∉ S ∧ (Instr.next (.pointer (some ⟨r, 0, none⟩)) false ty).run P w = .ok (.tuple #[.bool true, .string key, v]) w' ∧
      RangeIs P k w' b r n f (S ++ [key]) ∧ w'.rangeLeft b r < w.rangeLeft b r ∧ Keeps (· ≠ r) w w' ∧ w'.heap.size = w.heap.size ∧
      (Instr.entry (.pointer (some ⟨r, 0, none⟩))).run P w' = .ok (.tuple #[.string key, v]) w' := by
  have hne := h.ne
  obtain ⟨es, clock, since, seen, c0, hb, hF, hn, hf, hr, hold, hsc, hsk, hS, hnd, hks⟩ := h
  have hst := (stamped_iff es clock).1 hF.stamped
  rcases run_next_at (P := P) w ty r b since c0 seen es clock hr hb hold hsc with ⟨h0, hrun⟩ | ⟨x, he, w1, hal, hrun⟩
  · refine .inl ⟨fun key v hkey hfk => ?_, hrun⟩
    obtain ⟨x, hx, hxk, _⟩ := (hf key v hkey).1 hfk
    obtain ⟨key', hk', hxk'⟩ := (hS x hx).1 (all_seen es seen h0 x hx)
    rw [hxk] at hxk'
    cases hxk'
    exact hk'
  · obtain ⟨hem, hes⟩ := mem_left he
    obtain ⟨y0, hy0⟩ := hF.reads x hem
    obtain ⟨s, hxs, hsz⟩ := str_inv hk (rd_key hy0)
    have hr1 : w1.heap[r]? = some (.mapIter (some b) since seen c0) := by rcases hal with rfl | rfl <;> exact hr
    have hb1 : w1.heap[b]? = some (.map es clock) := by rcases hal with rfl | rfl <;> exact hb
    have hset := heap_set (o' := .mapIter (some b) since (seen.push x.born) clock) hr1
    have hb' : (setBlock w1 r (.mapIter (some b) since (seen.push x.born) clock)).heap[b]? = some (.map es clock) := (hset.2 b (fun e1 => hne e1.symm)).trans hb1
    have hfx : f s = some x.val := (hf s x.val hsz).2 ⟨x, hem, hxs, rfl⟩
    have hsS : s ∉ S := fun hm => by
      have := (hS x hem).2 ⟨s, hm, hxs⟩
      rw [hes] at this
      cases this
    have hent := run_entry_at (P := P) _ r b since seen es clock x hset.1 hb' hem hst.2.1
    rw [hxs] at hent hrun
    refine .inr ⟨s, x.val, _, hsz, hfx, hsS, hrun, ⟨es, clock, since, seen.push x.born, clock, hb', hF, hn, hf, hset.1, hold, hsk, hsk, ?_, ?_, ?_⟩, ?_, ?_, ?_, hent⟩
    · intro z hz
      rw [contains_push]
      simp only [Bool.or_eq_true, beq_iff_eq, List.mem_append, List.mem_singleton]
      constructor
      · rintro (h1 | h1)
        · obtain ⟨key, h2, h3⟩ := (hS z hz).1 h1
          exact ⟨key, .inl h2, h3⟩
        · obtain rfl := born_inj hst.2.1 hz hem h1
          exact ⟨s, .inr rfl, hxs⟩
      · rintro ⟨key, h1 | rfl, h3⟩
        · exact .inl ((hS z hz).2 ⟨key, h1, h3⟩)
        · exact .inr (congrArg MapEntry.born (entry_eq_of_key hst.2.2 hz hem (h3.trans hxs.symm)))
    · exact List.nodup_append.2 ⟨hnd, List.nodup_cons.2 ⟨List.not_mem_nil, List.nodup_nil⟩, fun a ha c hc => by rw [List.mem_singleton] at hc; subst hc; exact fun e => hsS (e ▸ ha)⟩
    · intro key hkey
      rcases List.mem_append.1 hkey with h1 | h1
      · exact hks key h1
      · rw [List.mem_singleton] at h1
        subst h1
        exact ⟨hsz, by rw [hfx]; simp⟩
    · have e1 : w.rangeLeft b r = (leftOf es seen).size := by simp only [World.rangeLeft, hb, hr]
      have e2 : (setBlock w1 r (.mapIter (some b) since (seen.push x.born) clock)).rangeLeft b r = (leftOf es (seen.push x.born)).size := by
        have hr' : (setBlock w1 r (.mapIter (some b) since (seen.push x.born) clock)).heap[r]? = some (.mapIter (some b) since (seen.push x.born) clock) := hset.1
        simp only [World.rangeLeft, hb', hr']
      rw [e1, e2]
      exact left_shrinks es seen x he
    · rcases hal with rfl | rfl <;> exact ⟨rfl, rfl, rfl, by simp [setBlock], fun i hi => hset.2 i (fun e1 => hi e1)⟩
    · rcases hal with rfl | rfl <;> simp [setBlock]

variable {ops : Array Oper} {rest : List Oper} {o : Oper} {a : Act} {Q : Exit → Act → World → Prop}

/-- 'range m'. -/
theorem wpList_rangeS {w : World} {b n : Nat} {f : ByteArray → Option Value} (hg : o.guard = none) (m : Operand) (t : TypeId) (hop : o.op = Op.range t m) (ht : P.underlying t = some (.map k e))
    (hm : a.eval m = .map (some b)) (h : MapIs P k w b n f)
    (hK : ∀ ob, RangeIs P k (w.alloc ob) b w.heap.size n f [] → wpList P ops Q rest (a.put o.dst (.pointer (some ⟨w.heap.size, 0, none⟩))) (w.alloc ob)) :
    wpList P ops Q (o :: rest) a w := by
  refine wpList_plain hg fun K' hK' => ?_
  obtain ⟨ob, hrun, r1⟩ := h.range ht
  unfold Oper.wp
  simp [execOp, hop, hm, hrun, Result.andThen]
  exact hK' _ _ (hK ob r1)

/-- The step. -/
theorem wpList_nextS {w : World} {b r n : Nat} {f : ByteArray → Option Value} {S : List ByteArray} (hg : o.guard = none) (it : Operand) (hop : o.op = Op.next it false) (hk : P.underlying k = some .string)
    (hit : a.eval it = .pointer (some ⟨r, 0, none⟩)) (h : RangeIs P k w b r n f S)
    (hDone : (∀ key v, key.size ≤ maxLen → f key = some v → key ∈ S) → wpList P ops Q rest (a.put o.dst (.tuple #[.bool false])) w)
    (hMore : ∀ key v w', key.size ≤ maxLen → f key = some v → key ∉ S → RangeIs P k w' b r n f (S ++ [key]) → w'.rangeLeft b r < w.rangeLeft b r → Keeps (· ≠ r) w w' → w'.heap.size = w.heap.size →
      (Instr.entry (.pointer (some ⟨r, 0, none⟩))).run P w' = .ok (.tuple #[.string key, v]) w' → wpList P ops Q rest (a.put o.dst (.tuple #[.bool true, .string key, v])) w') :
    wpList P ops Q (o :: rest) a w := by
  refine wpList_plain hg fun K' hK' => ?_
  unfold Oper.wp
  rcases h.next hk o.type with ⟨h0, hrun⟩ | ⟨key, v, w', h1, h2, h3, hrun, h4, h5, h6, h7, h8⟩
  · simp [execOp, hop, hit, hrun, Result.andThen]
    exact hK' _ _ (hDone h0)
  · simp [execOp, hop, hit, hrun, Result.andThen]
    exact hK' _ _ (hMore key v w' h1 h2 h3 h4 h5 h6 h7 h8)
end

end Go.Proofs.YteandmolnbcmmaaGreatDoor

namespace Go.Proofs.YteandmolnbcmmaaGreatDoor
open Go.RowKit Go.Sort

def encEd (e : Edge) : List Value := [.int .i64 e.at_, .int .i64 e.rule, .int .i64 e.by_]

theorem encEd_len (e : Edge) : (encEd e).length = 3 := rfl
theorem encEd_one : ∀ (e : Edge), ∀ v ∈ encEd e, v.oneCell' = true := by
  intro e v hv
  simp [encEd] at hv
  rcases hv with rfl | rfl | rfl <;> rfl

theorem under162 : Tryz.prog.underlying 162 = some (.map 9 164) := by kernel_rfl

structure GroupsE (w : World) (B b n : Nat) (G : ByteArray → List Edge) (f : ByteArray → Option Value) : Prop where
  map : MapIs Tryz.prog 9 w b n f
  blk : b < B
  val : ∀ d, d.size ≤ maxLen → (f d = none ∧ G d = []) ∨ ∃ v, f d = some v ∧ Own w B 166 3 v (G d).length (flatE encEd (G d))
  apart : ∀ d d' v v', d.size ≤ maxLen → d'.size ≤ maxLen → d ≠ d' → f d = some v → f d' = some v' → ∀ g, v.ownBlock = some g → v'.ownBlock ≠ some g

section
variable {w w' w2 : World} {B b n : Nat} {G : ByteArray → List Edge} {f : ByteArray → Option Value}

theorem GroupsE.same (h : GroupsE w B b n G f) (hb : ∀ k, k < w.heap.size → w'.heap[k]? = w.heap[k]?) : GroupsE w' B b n G f where
  map := h.map.same (hb b h.map.lt)
  blk := h.blk
  val := fun d hd => (h.val d hd).imp id fun ⟨v, h1, h2⟩ => ⟨v, h1, h2.same fun g hg => hb g (h2.lt g hg).2⟩
  apart := h.apart

theorem GroupsE.mono {n' : Nat} (h : GroupsE w B b n G f) (hn : n ≤ n') : GroupsE w B b n' G f := ⟨h.map.mono hn, h.blk, h.val, h.apart⟩

theorem GroupsE.congr {G' : ByteArray → List Edge} (h : GroupsE w B b n G f) (hG : ∀ d, d.size ≤ maxLen → G' d = G d) : GroupsE w B b n G' f where
  map := h.map
  blk := h.blk
  val := fun d hd => by rw [hG d hd]; exact h.val d hd
  apart := h.apart

/-- The slice that m[d] gives. -/
theorem GroupsE.at_ (h : GroupsE w B b n G f) (d : ByteArray) (hd : d.size ≤ maxLen) : Own w B 166 3 ((f d).getD (.slice none 0 0)) (G d).length (flatE encEd (G d)) := by
  rcases h.val d hd with ⟨h1, h2⟩ | ⟨v, h1, h2⟩
  · rw [h1, h2]; exact Own.nil _ _ _ _
  · rw [h1]; exact h2

theorem GroupsE.look (h : GroupsE w B b n G f) (d : ByteArray) (hd : d.size ≤ maxLen) : (Instr.lookup 162 (.map (some b)) (.string d) false).run Tryz.prog w = .ok ((f d).getD (.slice none 0 0)) w :=
  h.map.look under9 under162 (Tryz.zeroValue164 w) d hd

theorem GroupsE.store (h : GroupsE w B b n G f) {d : ByteArray} (hd : d.size ≤ maxLen) (hn : n < 1000000000000) {v' : Value} {L : List Edge}
    (hg : w.grownBy w2 ((f d).getD (.slice none 0 0)).ownBlock) (ho : Own w2 B 166 3 v' L.length (flatE encEd L))
    (he : v'.ownBlock = ((f d).getD (.slice none 0 0)).ownBlock ∨ ∃ g, v'.ownBlock = some g ∧ w.heap.size ≤ g) :
    ∃ w3, (Instr.mapUpdate 162 (.map (some b)) (.string d) v').run Tryz.prog w2 = .ok () w3 ∧ GroupsE w3 B b (n + 1) (fun c => if c = d then L else G c) (fun c => if c = d then some v' else f c) ∧ Keeps (· ≠ b) w2 w3 := by
  have hv := h.at_ d hd
  have hbr : some b ≠ ((f d).getD (.slice none 0 0)).ownBlock := fun e => by have := (hv.lt b e.symm).1; have := h.blk; omega
  have hM : MapIs Tryz.prog 9 w2 b n f := h.map.same (hg.block b h.map.lt hbr)
  obtain ⟨w3, hrun, hM3, hK⟩ := hM.store under9 under162 (by unfold maxLen; omega) d hd v'
  have old : ∀ c v, c.size ≤ maxLen → c ≠ d → f c = some v → (∀ g, v.ownBlock = some g → some g ≠ ((f d).getD (.slice none 0 0)).ownBlock) := by
    intro c v hcs hne hfv g hvg e
    cases hfs : f d with
    | none => rw [hfs] at e; simp [Value.ownBlock] at e
    | some u =>
      rw [hfs] at e
      exact h.apart c d v u hcs hd hne hfv hfs g hvg e.symm
  refine ⟨w3, hrun, ⟨hM3, h.blk, fun c hcs => ?_, fun c c' v v1 hcs hcs' hne hfc hfc' g hvg => ?_⟩, hK⟩
  · by_cases hcd : c = d
    · subst hcd
      rw [if_pos rfl, if_pos rfl]
      exact .inr ⟨v', rfl, ho.same fun g hg' => hK.block g (fun e => by have := (ho.lt g hg').1; have := h.blk; omega)⟩
    · rw [if_neg hcd, if_neg hcd]
      rcases h.val c hcs with h1 | ⟨v, h1, h2⟩
      · exact .inl h1
      · refine .inr ⟨v, h1, h2.same fun g hg' => (hK.block g (fun e => by have := (h2.lt g hg').1; have := h.blk; omega)).trans (hg.block g (h2.lt g hg').2 (old c v hcs hcd h1 g hg'))⟩
  · by_cases hcd : c = d
    · subst hcd
      rw [if_pos rfl] at hfc
      cases hfc
      rw [if_neg (fun e => hne e.symm)] at hfc'
      have h2 := (h.val c' hcs').resolve_left (fun e => by rw [e.1] at hfc'; cases hfc')
      obtain ⟨u, hu, hou⟩ := h2
      rw [hfc'] at hu
      cases hu
      intro hv1
      rcases he with he | ⟨g', he, hlt⟩
      · exact old c' v1 hcs' (fun e => hne e.symm) hfc' g hv1 (by rw [← he]; exact hvg.symm)
      · rw [he] at hvg
        cases hvg
        have := (hou.lt g hv1).2
        omega
    · rw [if_neg hcd] at hfc
      have h2 := (h.val c hcs).resolve_left (fun e => by rw [e.1] at hfc; cases hfc)
      obtain ⟨u, hu, hou⟩ := h2
      rw [hfc] at hu
      cases hu
      by_cases hcd' : c' = d
      · subst hcd'
        rw [if_pos rfl] at hfc'
        cases hfc'
        intro hv1
        rcases he with he | ⟨g', he, hlt⟩
        · exact old c v hcs hcd hfc g hvg (by rw [← he]; exact hv1.symm)
        · rw [he] at hv1
          cases hv1
          have := (hou.lt g hvg).2
          omega
      · rw [if_neg hcd'] at hfc'
        exact h.apart c c' v v1 hcs hcs' hne hfc hfc' g hvg

/-- One of the slices turned in place. -/
theorem GroupsE.turn (h : GroupsE w B b n G f) {d : ByteArray} (hd : d.size ≤ maxLen) {v : Value} (hf : f d = some v) {L : List Edge} (ho : Own w' B 166 3 v L.length (flatE encEd L))
    (hk : Keeps (fun k => k < w.heap.size ∧ some k ≠ v.ownBlock) w w') : GroupsE w' B b n (fun c => if c = d then L else G c) f where
  map := h.map.same (hk.block b ⟨h.map.lt, fun e => by have := (ho.lt b e.symm).1; have := h.blk; omega⟩)
  blk := h.blk
  val := fun c hcs => by
    by_cases hcd : c = d
    · subst hcd
      rw [if_pos rfl]
      exact .inr ⟨v, hf, ho⟩
    · rw [if_neg hcd]
      rcases h.val c hcs with h1 | ⟨u, h1, h2⟩
      · exact .inl h1
      · exact .inr ⟨u, h1, h2.same fun g hg' => hk.block g ⟨(h2.lt g hg').2, fun e => h.apart c d u v hcs hd hcd h1 hf g hg' e.symm⟩⟩
  apart := h.apart
end

/-- An iterator's block is no slice's. -/
theorem RangeIs.ne_own {w : World} {b r n base e kk m : Nat} {P : Program} {k : TypeId} {f : ByteArray → Option Value} {S : List ByteArray} {v : Value} {xs : List Value} (h : RangeIs P k w b r n f S) (ho : Own w base e kk v m xs) : v.ownBlock ≠ some r := by
  intro hv
  obtain ⟨cs, hc⟩ := ho.blk hv
  obtain ⟨es, clock, since, seen, c0, _, _, _, _, hr, _⟩ := h
  unfold Blk at hc
  rw [hr] at hc
  cases hc

end Go.Proofs.YteandmolnbcmmaaGreatDoor
