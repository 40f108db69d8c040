/- A map of strings to whatever, in a block of the call's own: look-up and store. The samples of a metric, by device, in a map. What stands in memory while rule.whole gathers its spells. No condition beyond what each theorem states. -/
import Derived.Maps.Keyed
import Derived.ChangeMaps5
import Derived.Sort.MapsRangeIn
import Derived.Test.YteandmolnbcmmaaGreatDoorKQ

namespace Go.Proofs.YteandmolnbcmmaaGreatDoor
open Go.RowKit Go.Sort Go.MapKept Go.WideShapes Go.ChangeMaps Go.WideElems

section
variable {P : Program} {k t e : TypeId}

abbrev R0 : Value → Option (DataW Unit × List MemPlace) := fun _ => some (.nil, [])

/-- Block b is a map of at most n string keys, and it takes them to what f says. -/
def MapIs (P : Program) (k : TypeId) (w : World) (b n : Nat) (f : ByteArray → Option Value) : Prop :=
  ∃ es clock, w.heap[b]? = some (.map es clock) ∧ WideElems.Fit P k R0 es clock ∧ es.size ≤ n ∧
    ∀ key v, key.size ≤ maxLen → (f key = some v ↔ ∃ x ∈ es.toList, x.key = .string key ∧ x.val = v)

theorem MapIs.lt {w : World} {b n : Nat} {f : ByteArray → Option Value} (h : MapIs P k w b n f) : b < w.heap.size := by
  obtain ⟨es, clock, hb, _⟩ := h
  exact (Array.getElem?_eq_some_iff.1 hb).1

theorem MapIs.same {w w' : World} {b n : Nat} {f : ByteArray → Option Value} (h : MapIs P k w b n f) (hb : w'.heap[b]? = w.heap[b]?) : MapIs P k w' b n f := by
  obtain ⟨es, clock, h1, h2⟩ := h
  exact ⟨es, clock, hb.trans h1, h2⟩

theorem MapIs.made (P : Program) (k : TypeId) (w : World) : MapIs P k (w.alloc (.map #[] 0)) w.heap.size 0 (fun _ => none) :=
  ⟨#[], 0, heap_alloc_new w _, ⟨by simp, stamped_empty 0, by simp⟩, Nat.le_refl _, by simp⟩

theorem keyOf_str (hk : P.underlying k = some .string) (key : ByteArray) (hs : key.size ≤ maxLen) : ∃ l, keyOf P k (.string key) = some l := by
  simp [keyOf, hk, mapKey, hs]

theorem MapIs.look {w : World} {b n : Nat} {f : ByteArray → Option Value} (h : MapIs P k w b n f) (hk : P.underlying k = some .string) (ht : P.underlying t = some (.map k e)) {z : Value} (hz : (zeroValue e).run P w = .ok z w) (key : ByteArray) (hs : key.size ≤ maxLen) :
    (Instr.lookup t (.map (some b)) (.string key) false).run P w = .ok ((f key).getD z) w := by
  obtain ⟨es, clock, hb, F, hn, hf⟩ := h
  obtain ⟨l, hl⟩ := keyOf_str hk key hs
  rcases Maps.fit_look false (Maps.string_keyed hk) ht hz hb F hl with ⟨hrun, hno, _⟩ | ⟨e0, y, hm, hke, hrun, _⟩
  · have : f key = none := by
      cases hfk : f key with
      | none => rfl
      | some v =>
        obtain ⟨x, hx, hxk, _⟩ := (hf key v hs).1 hfk
        exact absurd hxk (hno x hx)
    rw [this]
    exact hrun
  · have : f key = some e0.val := (hf key e0.val hs).2 ⟨e0, hm, hke, rfl⟩
    rw [this]
    exact hrun

theorem MapIs.store {w : World} {b n : Nat} {f : ByteArray → Option Value} (h : MapIs P k w b n f) (hk : P.underlying k = some .string) (ht : P.underlying t = some (.map k e)) (hn : n < maxLen) (key : ByteArray) (hs : key.size ≤ maxLen) (val : Value) :
    ∃ w', (Instr.mapUpdate t (.map (some b)) (.string key) val).run P w = .ok () w' ∧ MapIs P k w' b (n + 1) (fun c => if c = key then some val else f c) ∧ Keeps (· ≠ b) w w' := by
  obtain ⟨es, clock, hb, F, hsz, hf⟩ := h
  obtain ⟨l, hl⟩ := keyOf_str hk key hs
  have K := Maps.string_keyed hk
  obtain ⟨es', clock', hrun, F', hdat, _, _, hwho⟩ := Maps.fit_store (R' := R0) (val := val) K ht hb F (by omega) (fun _ _ _ _ h => h) hl rfl
  have hb' := heap_setBlock_same hb (.map es' clock')
  have hrd : ∀ (x : MapEntry) (lx : Lit), keyOf P k x.key = some lx → rg P k R0 x = (lx, DataW.nil) := fun x lx hx => rg_of (by simp [WideElems.rd, hx])
  have hkeyOf : ∀ {es : Array MapEntry} {clock : Nat}, Fit P k R0 es clock → ∀ x ∈ es.toList, ∃ lx, keyOf P k x.key = some lx := fun F x hx => by
    obtain ⟨y, hy⟩ := F.reads x hx
    exact ⟨_, rd_key hy⟩
  have hmem : ∀ (lx : Lit), (∃ x' ∈ es'.toList, keyOf P k x'.key = some lx) ↔ (lx = l ∨ ∃ x ∈ es.toList, keyOf P k x.key = some lx ∧ lx ≠ l) := by
    intro lx
    have hp1 : ∀ p, p ∈ es'.toList.map (rg P k R0) ↔ p ∈ putKey l DataW.nil ((es.toList.map (rg P k R0)).foldr DataW.insert []) := fun p => by
      rw [← hdat]
      exact (sorted_perm _).mem_iff.symm
    have hp2 : ∀ p, p ∈ putKey l (DataW.nil : DataW Unit) ((es.toList.map (rg P k R0)).foldr DataW.insert []) ↔ p = (l, DataW.nil) ∨ (p ∈ es.toList.map (rg P k R0) ∧ p.1 ≠ l) := fun p => by
      unfold putKey
      rw [(insert_perm _ _).mem_iff, List.mem_cons, List.mem_filter, (sorted_perm _).mem_iff, Maps.notKey_iff (K.key hl)]
    constructor
    · rintro ⟨x', hx', hkx⟩
      rcases (hp2 _).1 ((hp1 (lx, DataW.nil)).1 (List.mem_map.2 ⟨x', hx', hrd x' lx hkx⟩)) with h | ⟨h, hne⟩
      · exact .inl (Prod.mk.inj h).1
      · obtain ⟨x, hx, hxe⟩ := List.mem_map.1 h
        obtain ⟨lx2, hx2⟩ := hkeyOf F x hx
        rw [hrd x lx2 hx2] at hxe
        cases hxe
        exact .inr ⟨x, hx, hx2, hne⟩
    · intro h
      have hq : (lx, (DataW.nil : DataW Unit)) ∈ es'.toList.map (rg P k R0) := by
        refine (hp1 _).2 ((hp2 _).2 ?_)
        rcases h with rfl | ⟨x, hx, hkx, hne⟩
        · exact .inl rfl
        · exact .inr ⟨List.mem_map.2 ⟨x, hx, hrd x lx hkx⟩, hne⟩
      obtain ⟨x', hx', hxe⟩ := List.mem_map.1 hq
      obtain ⟨lx2, hx2⟩ := hkeyOf F' x' hx'
      rw [hrd x' lx2 hx2] at hxe
      cases hxe
      exact ⟨x', hx', hx2⟩
  have huniq : ∀ x ∈ es.toList, ∀ y ∈ es.toList, x.key = y.key → x = y := by
    intro x hx y hy hxy
    obtain ⟨lx, hlx⟩ := hkeyOf F x hx
    have hly : keyOf P k y.key = some lx := hxy ▸ hlx
    have hap := Maps.fit_apart K F
    rw [List.pairwise_map] at hap
    obtain ⟨i, hi, rfl⟩ := List.mem_iff_getElem.1 hx
    obtain ⟨j, hj, rfl⟩ := List.mem_iff_getElem.1 hy
    rcases Nat.lt_trichotomy i j with h | h | h
    · exact absurd (by rw [hrd _ lx hlx, hrd _ lx hly]) (List.pairwise_iff_getElem.1 hap i j hi hj h)
    · subst h; rfl
    · exact absurd (by rw [hrd _ lx hlx, hrd _ lx hly]) (List.pairwise_iff_getElem.1 hap j i hj hi h)
  refine ⟨_, hrun, ⟨es', clock', hb', F', ?_, ?_⟩, ⟨rfl, rfl, rfl, by simp [setBlock], fun i hi => heap_setBlock_other hb _ hi⟩⟩
  · have h1 := congrArg List.length hdat
    rw [(sorted_perm _).length_eq, List.length_map] at h1
    unfold putKey at h1
    rw [(insert_perm _ _).length_eq, List.length_cons] at h1
    have h2 := List.length_filter_le (notKey l) ((es.toList.map (rg P k (R0 : Value → Option (DataW Unit × List MemPlace)))).foldr DataW.insert [])
    rw [(sorted_perm _).length_eq, List.length_map] at h2
    simp only [Array.length_toList] at h1 h2
    omega
  · intro c v hc
    obtain ⟨lc, hlc⟩ := keyOf_str hk c hc
    by_cases hck : c = key
    · subst hck
      dsimp only
      rw [if_pos rfl]
      rw [hl] at hlc
      cases hlc
      constructor
      · intro hv
        cases hv
        obtain ⟨x', hx', hkx⟩ := (hmem l).2 (.inl rfl)
        have hxc : x'.key = .string c := K.inj hkx hl
        refine ⟨x', hx', hxc, ?_⟩
        rcases hwho x' hx' with ⟨_, h⟩ | ⟨_, h⟩
        · exact absurd hxc h
        · exact h
      · rintro ⟨x', hx', hxc, rfl⟩
        rcases hwho x' hx' with ⟨_, h⟩ | ⟨_, h⟩
        · exact absurd hxc h
        · rw [h]
    · dsimp only
      rw [if_neg hck, hf c v hc]
      constructor
      · rintro ⟨x, hx, hxc, rfl⟩
        have hkx : keyOf P k x.key = some lc := by rw [hxc]; exact hlc
        have hne : lc ≠ l := fun e => hck (by have := K.inj hlc (e ▸ hl); simpa using this)
        obtain ⟨x', hx', hkx'⟩ := (hmem lc).2 (.inr ⟨x, hx, hkx, hne⟩)
        have hxk' : x'.key = .string c := K.inj hkx' hlc
        rcases hwho x' hx' with ⟨hx0, _⟩ | ⟨h, _⟩
        · exact ⟨x', hx', hxk', by rw [huniq x' hx0 x hx (hxk'.trans hxc.symm)]⟩
        · rw [hxk'] at h
          exact absurd (by simpa using h) hck
      · rintro ⟨x', hx', hxc, rfl⟩
        rcases hwho x' hx' with ⟨hx0, _⟩ | ⟨h, _⟩
        · exact ⟨x', hx0, hxc, rfl⟩
        · rw [hxc] at h
          exact absurd (by simpa using h) hck
end

end Go.Proofs.YteandmolnbcmmaaGreatDoor

namespace Go.Proofs.YteandmolnbcmmaaGreatDoor
open Go.RowKit Go.Sort

theorem under9 : Tryz.prog.underlying 9 = some .string := by kernel_rfl
theorem under153 : Tryz.prog.underlying 153 = some (.map 9 154) := by kernel_rfl

structure GroupsF (w : World) (B b : Nat) (m : ByteArray) (L : List Samp) (f : ByteArray → Option Value) : Prop where
  map : MapIs Tryz.prog 9 w b L.length f
  blk : b < B
  val : ∀ d, d.size ≤ maxLen → (f d = none ∧ seen m d L = []) ∨ ∃ v, f d = some v ∧ Own w B 156 2 v (seen m d L).length (flat (seen m d L))
  apart : ∀ d d' v v', d.size ≤ maxLen → d'.size ≤ maxLen → d ≠ d' → f d = some v → f d' = some v' → ∀ g, v.ownBlock = some g → v'.ownBlock ≠ some g

theorem seen_snoc (m d : ByteArray) (L : List Samp) (s : Samp) : seen m d (L ++ [s]) = seen m d L ++ (if s.metric = m ∧ s.device = d then [(s.at_, s.value)] else []) := by
  unfold seen
  rw [List.filter_append, List.map_append]
  congr 1
  by_cases h : s.metric = m ∧ s.device = d <;> simp [h]

theorem MapIs.mono {P : Program} {k : TypeId} {w : World} {b n n' : Nat} {f : ByteArray → Option Value} (h : MapIs P k w b n f) (hn : n ≤ n') : MapIs P k w b n' f := by
  obtain ⟨es, clock, h1, h2, h3, h4⟩ := h
  exact ⟨es, clock, h1, h2, Nat.le_trans h3 hn, h4⟩

section
variable {w w' w2 : World} {B b : Nat} {m : ByteArray} {L : List Samp} {f : ByteArray → Option Value}

theorem GroupsF.same (h : GroupsF w B b m L f) (hb : ∀ k, k < w.heap.size → w'.heap[k]? = w.heap[k]?) : GroupsF w' B b m L f where
  map := h.map.same (hb b h.map.lt)
  blk := h.blk
  val := fun d hd => (h.val d hd).imp id fun ⟨v, h1, h2⟩ => ⟨v, h1, h2.same fun g hg => hb g (h2.lt g hg).2⟩
  apart := h.apart

theorem GroupsF.skip (h : GroupsF w B b m L f) (s : Samp) (hs : s.metric ≠ m) : GroupsF w B b m (L ++ [s]) f where
  map := h.map.mono (by simp)
  blk := h.blk
  val := fun d hd => by
    have e : seen m d (L ++ [s]) = seen m d L := by rw [seen_snoc, if_neg (fun h => hs h.1), List.append_nil]
    rw [e]
    exact h.val d hd
  apart := h.apart

/-- The slice that m[d] gives. -/
theorem GroupsF.at_ (h : GroupsF w B b m L f) (d : ByteArray) (hd : d.size ≤ maxLen) : Own w B 156 2 ((f d).getD (.slice none 0 0)) (seen m d L).length (flat (seen m d L)) := by
  rcases h.val d hd with ⟨h1, h2⟩ | ⟨v, h1, h2⟩
  · rw [h1, h2]; exact Own.nil _ _ _ _
  · rw [h1]; exact h2

theorem GroupsF.look (h : GroupsF w B b m L f) (d : ByteArray) (hd : d.size ≤ maxLen) : (Instr.lookup 153 (.map (some b)) (.string d) false).run Tryz.prog w = .ok ((f d).getD (.slice none 0 0)) w :=
  h.map.look under9 under153 (Tryz.zeroValue154 w) d hd

theorem GroupsF.store (h : GroupsF w B b m L f) (s : Samp) (hd : s.device.size ≤ maxLen) (hL : L.length < 1000000) {v' : Value}
    (hg : w.grownBy w2 ((f s.device).getD (.slice none 0 0)).ownBlock) (ho : Own w2 B 156 2 v' (seen m s.device (L ++ [s])).length (flat (seen m s.device (L ++ [s]))))
    (he : v'.ownBlock = ((f s.device).getD (.slice none 0 0)).ownBlock ∨ ∃ g, v'.ownBlock = some g ∧ w.heap.size ≤ g) :
    ∃ w3, (Instr.mapUpdate 153 (.map (some b)) (.string s.device) v').run Tryz.prog w2 = .ok () w3 ∧ GroupsF w3 B b m (L ++ [s]) (fun c => if c = s.device then some v' else f c) ∧ Keeps (· ≠ b) w2 w3 := by
  have hv := h.at_ s.device hd
  have hbr : some b ≠ ((f s.device).getD (.slice none 0 0)).ownBlock := fun e => by have := (hv.lt b e.symm).1; have := h.blk; omega
  have hM : MapIs Tryz.prog 9 w2 b L.length f := h.map.same (hg.block b h.map.lt hbr)
  obtain ⟨w3, hrun, hM3, hK⟩ := hM.store under9 under153 (by unfold maxLen; omega) s.device hd v'
  have old : ∀ d v, d.size ≤ maxLen → d ≠ s.device → f d = some v → (∀ g, v.ownBlock = some g → some g ≠ ((f s.device).getD (.slice none 0 0)).ownBlock) := by
    intro d v hds hne hfv g hvg e
    cases hfs : f s.device with
    | none => rw [hfs] at e; simp [Value.ownBlock] at e
    | some u =>
      rw [hfs] at e
      exact h.apart d s.device v u hds hd hne hfv hfs g hvg e.symm
  refine ⟨w3, hrun, ⟨by simpa using hM3, h.blk, fun d hds => ?_, fun d d' v v1 hds hds' hne hfd hfd' g hvg => ?_⟩, hK⟩
  · by_cases hdd : d = s.device
    · subst hdd
      rw [if_pos rfl]
      exact .inr ⟨v', rfl, ho.same fun g hg' => hK.block g (fun e => by have := (ho.lt g hg').1; have := h.blk; omega)⟩
    · rw [if_neg hdd]
      have e : seen m d (L ++ [s]) = seen m d L := by rw [seen_snoc, if_neg (fun h => hdd h.2.symm), List.append_nil]
      rw [e]
      rcases h.val d hds with h1 | ⟨v, h1, h2⟩
      · exact .inl h1
      · refine .inr ⟨v, h1, h2.same fun g hg' => (hK.block g (fun e => by have := (h2.lt g hg').1; have := h.blk; omega)).trans (hg.block g (h2.lt g hg').2 (old d v hds hdd h1 g hg'))⟩
  · by_cases hdd : d = s.device
    · subst hdd
      rw [if_pos rfl] at hfd
      cases hfd
      rw [if_neg (fun e => hne e.symm)] at hfd'
      have h2 := (h.val d' hds').resolve_left (fun e => by rw [e.1] at hfd'; cases hfd')
      obtain ⟨u, hu, hou⟩ := h2
      rw [hfd'] at hu
      cases hu
      intro hv1
      rcases he with he | ⟨g', he, hlt⟩
      · exact old d' v1 hds' (fun e => hne e.symm) hfd' g hv1 (by rw [← he]; exact hvg.symm)
      · rw [he] at hvg
        cases hvg
        have := (hou.lt g hv1).2
        omega
    · rw [if_neg hdd] at hfd
      have h2 := (h.val d hds).resolve_left (fun e => by rw [e.1] at hfd; cases hfd)
      obtain ⟨u, hu, hou⟩ := h2
      rw [hfd] at hu
      cases hu
      by_cases hdd' : d' = s.device
      · subst hdd'
        rw [if_pos rfl] at hfd'
        cases hfd'
        intro hv1
        rcases he with he | ⟨g', he, hlt⟩
        · exact old d v hds hdd hfd g hvg (by rw [← he]; exact hv1.symm)
        · rw [he] at hv1
          cases hv1
          have := (hou.lt g hvg).2
          omega
      · rw [if_neg hdd'] at hfd'
        exact h.apart d d' v v1 hds hds' hne hfd hfd' g hvg
end

end Go.Proofs.YteandmolnbcmmaaGreatDoor

namespace Go.Proofs.YteandmolnbcmmaaGreatDoor
open Go.RowKit Go.Sort

structure WS (w wx : World) (m : ByteArray) (l : List Samp) (f : ByteArray → Option Value) (dv : Value) (ds : List ByteArray) (v : Value) (X : List Spell) : Prop where
  out : Own wx (w.heap.size + 1) 34 4 v X.length (flatE encSp X)
  grp : GroupsF wx (w.heap.size + 1) w.heap.size m l f
  dev : Own wx w.heap.size 9 1 dv ds.length (ds.map Value.string)
  kp : Keeps (· < w.heap.size) w wx

section
variable {w wx wy : World} {m : ByteArray} {l : List Samp} {f : ByteArray → Option Value} {dv v v' : Value} {ds : List ByteArray} {X Y : List Spell}

theorem WS.size (h : WS w wx m l f dv ds v X) : w.heap.size < wx.heap.size := h.grp.map.lt

theorem WS.kept (h : WS w wx m l f dv ds v X) (hk : Keeps (· < wx.heap.size) wx wy) : WS w wy m l f dv ds v X where
  out := h.out.same fun g hg => hk.block g (h.out.lt g hg).2
  grp := h.grp.same fun _ hk' => hk.block _ hk'
  dev := h.dev.same fun g hg => hk.block g (h.dev.lt g hg).2
  kp := h.kp.trans (hk.mono fun _ hk' => Nat.lt_of_lt_of_le hk' h.kp.size)

theorem WS.below (h : WS w wx m l f dv ds v X) (hb : Below wx.heap.size wx wy) : WS w wy m l f dv ds v X := h.kept ⟨hb.os, hb.tape, hb.output, hb.size, hb.block⟩
theorem WS.alloc (h : WS w wx m l f dv ds v X) (o : Obj) : WS w (wx.alloc o) m l f dv ds v X := h.kept ((Keeps.refl _ wx).alloc (fun _ h => h) o)
theorem WS.drew (h : WS w wx m l f dv ds v X) : WS w wx.drew m l f dv ds v X := h.kept ((Keeps.refl _ wx).drew)
theorem WS.drewN (h : WS w wx m l f dv ds v X) (n : Nat) : WS w (wx.drewN n) m l f dv ds v X := h.kept ((Keeps.refl _ wx).drewN n)

theorem WS.app (h : WS w wx m l f dv ds v X) (hg : wx.grownBy wy v.ownBlock) (ho : Own wy (w.heap.size + 1) 34 4 v' Y.length (flatE encSp Y)) : WS w wy m l f dv ds v' Y where
  out := ho
  grp :=
    have hb : some w.heap.size ≠ v.ownBlock := fun e => by have := (h.out.lt _ e.symm).1; omega
    { map := h.grp.map.same (hg.block _ h.grp.map.lt hb)
      blk := h.grp.blk
      val := fun d hd => (h.grp.val d hd).imp id fun ⟨u, h1, h2⟩ => ⟨u, h1, h2.same fun g hg' => hg.block g (h2.lt g hg').2 fun e => by
        obtain ⟨cs, hc⟩ := h2.blk hg'
        exact h.out.ne_blk hc (by decide) e.symm⟩
      apart := h.grp.apart }
  dev := h.dev.same fun g hg' => hg.block g (h.dev.lt g hg').2 fun e => by
    obtain ⟨cs, hc⟩ := h.dev.blk hg'
    exact h.out.ne_blk hc (by decide) e.symm
  kp := h.kp.trans ((Keeps.refl _ _).grown hg (fun k hk => Nat.lt_of_lt_of_le hk h.kp.size) fun g e hk => by have := (h.out.lt g e).1; omega)
end

/-- The spells of some devices. -/
def wholeT (r : Rule) (l : List Samp) (ds : List ByteArray) : List Spell := ds.flatMap fun d => (spansOf r (seen r.metric d l)).map (mkSp d r.key)

theorem wholeT_snoc (r : Rule) (l : List Samp) (ds : List ByteArray) (d : ByteArray) : wholeT r l (ds ++ [d]) = wholeT r l ds ++ (spansOf r (seen r.metric d l)).map (mkSp d r.key) := by
  unfold wholeT
  simp

end Go.Proofs.YteandmolnbcmmaaGreatDoor
