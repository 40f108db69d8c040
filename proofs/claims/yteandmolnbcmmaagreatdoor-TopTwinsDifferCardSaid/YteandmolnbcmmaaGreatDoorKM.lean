/- A track in memory, its slices apart from each other: the ground of put. A track's slices: append to one of them. No condition beyond what each theorem states. -/
import Derived.Deep.RegionHeld3
import Derived.Deep.AppendLies
import Derived.Test.YteandmolnbcmmaaGreatDoorKL
import Derived.Test.YteandmolnbcmmaaGreatDoorKC

namespace Go.Proofs.YteandmolnbcmmaaGreatDoor
open Go.RowKit Go.Sort

/-- The ten cells but the slices and the rule. -/
structure Rest where
  sum : Int
  st : Int
  si : Int
  fi : Bool
  be : Int

/-- A track in memory, with whatever lists in its slices. -/
structure TkR (w : World) (B : Nat) (F : Nat → Prop) (T ob rb ro : Nat) (r : Rule) (x : Rest) (wl ll ml : List Sm) (out : List Span) (wv lv mv ov : Value) : Prop where
  blk : Blk w T 253 (tkCells rb ro wv lv mv x.sum x.st x.si x.fi x.be (clos ob))
  outb : Blk w ob 158 #[ov]
  ow : Own w B 156 2 wv wl.length (flat wl)
  ol : Own w B 156 2 lv ll.length (flat ll)
  om : Own w B 156 2 mv ml.length (flat ml)
  oo : Own w B 161 2 ov out.length (flat out)
  wl : ∀ g, wv.ownBlock = some g → lv.ownBlock ≠ some g
  wm : ∀ g, wv.ownBlock = some g → mv.ownBlock ≠ some g
  lm : ∀ g, lv.ownBlock = some g → mv.ownBlock ≠ some g
  fT : ¬ F T
  fo : ¬ F ob
  fw : ∀ g, wv.ownBlock = some g → ¬ F g
  fl : ∀ g, lv.ownBlock = some g → ¬ F g
  fm : ∀ g, mv.ownBlock = some g → ¬ F g
  fv : ∀ g, ov.ownBlock = some g → ¬ F g
  fB : ∀ k, F k → k < w.heap.size
  fr : F rb
  rule : Cells w rb ro (encR r)
  base : B ≤ w.heap.size

section
variable {w w' : World} {B T ob rb ro : Nat} {F : Nat → Prop} {r : Rule} {t : Tk} {wv lv mv ov : Value} {x : Rest} {wl ll ml : List Sm} {out : List Span}

theorem TkV.toR (h : TkV w B F T ob rb ro r t wv lv mv ov) : TkR w B F T ob rb ro r ⟨sumV t.win, t.state, t.since, t.firing, t.began⟩ t.win (lmin t.win) (lmax t.win) t.out wv lv mv ov :=
  ⟨h.blk, h.outb, h.ow, h.ol, h.om, h.oo, h.wl, h.wm, h.lm, h.fT, h.fo, h.fw, h.fl, h.fm, h.fv, h.fB, h.fr, h.rule, h.base⟩

theorem TkR.toV (h : TkR w B F T ob rb ro r ⟨sumV t.win, t.state, t.since, t.firing, t.began⟩ t.win (lmin t.win) (lmax t.win) t.out wv lv mv ov) : TkV w B F T ob rb ro r t wv lv mv ov :=
  ⟨h.blk, h.outb, h.ow, h.ol, h.om, h.oo, h.wl, h.wm, h.lm, h.fT, h.fo, h.fw, h.fl, h.fm, h.fv, h.fB, h.fr, h.rule, h.base⟩

/-- More foreign blocks: the new one. -/
theorem TkV.more (h : TkV w B F T ob rb ro r t wv lv mv ov) (o : Obj) : TkV (w.alloc o) B (fun k => F k ∨ k = w.heap.size) T ob rb ro r t wv lv mv ov :=
  let a := h.alloc o
  { a with
    fT := fun e => e.elim h.fT fun e => Nat.lt_irrefl _ (e ▸ h.blk.lt)
    fo := fun e => e.elim h.fo fun e => Nat.lt_irrefl _ (e ▸ h.outb.lt)
    fw := fun g hg e => e.elim (h.fw g hg) fun e => Nat.lt_irrefl _ (e ▸ (h.ow.lt g hg).2)
    fl := fun g hg e => e.elim (h.fl g hg) fun e => Nat.lt_irrefl _ (e ▸ (h.ol.lt g hg).2)
    fm := fun g hg e => e.elim (h.fm g hg) fun e => Nat.lt_irrefl _ (e ▸ (h.om.lt g hg).2)
    fv := fun g hg e => e.elim (h.fv g hg) fun e => Nat.lt_irrefl _ (e ▸ (h.oo.lt g hg).2)
    fB := fun k hk => hk.elim (a.fB k) fun e => by rw [e]; simp
    fr := .inl h.fr }

theorem TkV.less {F' : Nat → Prop} (h : TkV w B F' T ob rb ro r t wv lv mv ov) (hF : ∀ k, F k → F' k) (hr : F rb) : TkV w B F T ob rb ro r t wv lv mv ov :=
  { h with
    fT := fun e => h.fT (hF _ e)
    fo := fun e => h.fo (hF _ e)
    fw := fun g hg e => h.fw g hg (hF _ e)
    fl := fun g hg e => h.fl g hg (hF _ e)
    fm := fun g hg e => h.fm g hg (hF _ e)
    fv := fun g hg e => h.fv g hg (hF _ e)
    fB := fun k hk => h.fB k (hF k hk)
    fr := hr }

/-- The track's block and one slice's block, row, have been written. -/
theorem TkR.write {row : Option Nat} {x' : Rest} {wl' ll' ml' : List Sm} {wv' lv' mv' : Value} (h : TkR w B F T ob rb ro r x wl ll ml out wv lv mv ov)
    (hk : Keeps (fun k => k < w.heap.size ∧ k ≠ T ∧ some k ≠ row) w w') (hrow : ∀ g, row = some g → wv.ownBlock = some g ∨ lv.ownBlock = some g ∨ mv.ownBlock = some g)
    (hT : Blk w' T 253 (tkCells rb ro wv' lv' mv' x'.sum x'.st x'.si x'.fi x'.be (clos ob)))
    (how : Own w' B 156 2 wv' wl'.length (flat wl')) (hol : Own w' B 156 2 lv' ll'.length (flat ll')) (hom : Own w' B 156 2 mv' ml'.length (flat ml'))
    (hwl : ∀ g, wv'.ownBlock = some g → lv'.ownBlock ≠ some g) (hwm : ∀ g, wv'.ownBlock = some g → mv'.ownBlock ≠ some g) (hlm : ∀ g, lv'.ownBlock = some g → mv'.ownBlock ≠ some g)
    (ew : wv'.ownBlock = wv.ownBlock ∨ ∃ g, wv'.ownBlock = some g ∧ w.heap.size ≤ g) (el : lv'.ownBlock = lv.ownBlock ∨ ∃ g, lv'.ownBlock = some g ∧ w.heap.size ≤ g) (em : mv'.ownBlock = mv.ownBlock ∨ ∃ g, mv'.ownBlock = some g ∧ w.heap.size ≤ g) :
    TkR w' B F T ob rb ro r x' wl' ll' ml' out wv' lv' mv' ov := by
  have ne1 : ∀ g, (∃ t cs, Blk w g t cs ∧ t ≠ 156) → some g ≠ row := fun g ⟨t, cs, hb, ht⟩ e => by
    rcases hrow g e.symm with h1 | h1 | h1
    · exact h.ow.ne_blk hb (fun e => ht e.symm) h1
    · exact h.ol.ne_blk hb (fun e => ht e.symm) h1
    · exact h.om.ne_blk hb (fun e => ht e.symm) h1
  have nF : ∀ g, F g → some g ≠ row := fun g hF e => by
    rcases hrow g e.symm with h1 | h1 | h1
    · exact h.fw g h1 hF
    · exact h.fl g h1 hF
    · exact h.fm g h1 hF
  have hb : ∀ g, (∃ t cs, Blk w g t cs ∧ t ≠ 156 ∧ t ≠ 253) → w'.heap[g]? = w.heap[g]? := fun g ⟨t, cs, hb, ht, ht'⟩ =>
    hk.block g ⟨hb.lt, blk_ne hb h.blk ht', ne1 g ⟨t, cs, hb, ht⟩⟩
  have nf : ∀ (v v' : Value), (∀ g, v.ownBlock = some g → ¬ F g) → (v'.ownBlock = v.ownBlock ∨ ∃ g, v'.ownBlock = some g ∧ w.heap.size ≤ g) → ∀ g, v'.ownBlock = some g → ¬ F g := fun v v' hv he g hg hF => by
    rcases he with he | ⟨g', he, hlt⟩
    · exact hv g (he ▸ hg) hF
    · rw [he] at hg
      cases hg
      exact absurd (h.fB g hF) (by omega)
  exact
  { blk := hT
    outb := (hb ob ⟨_, _, h.outb, by decide, by decide⟩).trans h.outb
    ow := how
    ol := hol
    om := hom
    oo := h.oo.same fun g hg => by obtain ⟨cs, hc⟩ := h.oo.blk hg; exact hb g ⟨_, _, hc, by decide, by decide⟩
    wl := hwl
    wm := hwm
    lm := hlm
    fT := h.fT
    fo := h.fo
    fw := nf wv wv' h.fw ew
    fl := nf lv lv' h.fl el
    fm := nf mv mv' h.fm em
    fv := h.fv
    fB := fun k hF => Nat.lt_of_lt_of_le (h.fB k hF) hk.size
    fr := h.fr
    rule := hk.cells ⟨h.fB rb h.fr, fun e => h.fT (e ▸ h.fr), nF rb h.fr⟩ h.rule
    base := Nat.le_trans h.base hk.size }

theorem fresh_ne {v u : Value} {g : Nat} {e : TypeId} {k n : Nat} {xs : List Value} (hu : Own w B e k u n xs) (h : v.ownBlock = some g ∧ w.heap.size ≤ g) : u.ownBlock ≠ some g := fun hg => by
  have := (hu.lt g hg).2
  omega

/-- The slice's new value differs from another slice, as the old did. -/
theorem apart_of {v v' u : Value} {e : TypeId} {k n : Nat} {xs : List Value} (hu : Own w B e k u n xs) (h : ∀ g, v.ownBlock = some g → u.ownBlock ≠ some g) (hv : v'.ownBlock = v.ownBlock ∨ ∃ g, v'.ownBlock = some g ∧ w.heap.size ≤ g) : ∀ g, v'.ownBlock = some g → u.ownBlock ≠ some g := fun g hg => by
  rcases hv with he | ⟨g', he, hlt⟩
  · exact h g (he ▸ hg)
  · rw [he] at hg
    cases hg
    exact fresh_ne hu ⟨he, hlt⟩

/-- Another slice is as it was when the block row has been written. -/
theorem other_of {v u : Value} {n : Nat} {xs : List Value} (h : TkR w B F T ob rb ro r x wl ll ml out wv lv mv ov) (hk : Keeps (fun k => k < w.heap.size ∧ k ≠ T ∧ some k ≠ v.ownBlock) w w') (hu : Own w B 156 2 u n xs) (ha : ∀ g, v.ownBlock = some g → u.ownBlock ≠ some g) : Own w' B 156 2 u n xs :=
  hu.same fun g hg => hk.block g ⟨(hu.lt g hg).2, fun e => hu.ne_blk h.blk (by decide) (e ▸ hg), fun e => ha g e.symm hg⟩

theorem swap_ne {v u : Value} (h : ∀ g, v.ownBlock = some g → u.ownBlock ≠ some g) : ∀ g, u.ownBlock = some g → v.ownBlock ≠ some g := fun g hu hv => h g hv hu

theorem TkR.putW (h : TkR w B F T ob rb ro r x wl ll ml out wv lv mv ov) {v' : Value} {l' : List Sm} (hk : Keeps (fun k => k < w.heap.size ∧ k ≠ T ∧ some k ≠ wv.ownBlock) w w') (hT : Blk w' T 253 (tkCells rb ro v' lv mv x.sum x.st x.si x.fi x.be (clos ob)))
    (ho : Own w' B 156 2 v' l'.length (flat l')) (he : v'.ownBlock = wv.ownBlock ∨ ∃ g, v'.ownBlock = some g ∧ w.heap.size ≤ g) : TkR w' B F T ob rb ro r x l' ll ml out v' lv mv ov :=
  h.write hk (fun _ e => .inl e) hT ho (other_of h hk h.ol h.wl) (other_of h hk h.om h.wm) (apart_of h.ol h.wl he) (apart_of h.om h.wm he) h.lm he (.inl rfl) (.inl rfl)

theorem TkR.putL (h : TkR w B F T ob rb ro r x wl ll ml out wv lv mv ov) {v' : Value} {l' : List Sm} (hk : Keeps (fun k => k < w.heap.size ∧ k ≠ T ∧ some k ≠ lv.ownBlock) w w') (hT : Blk w' T 253 (tkCells rb ro wv v' mv x.sum x.st x.si x.fi x.be (clos ob)))
    (ho : Own w' B 156 2 v' l'.length (flat l')) (he : v'.ownBlock = lv.ownBlock ∨ ∃ g, v'.ownBlock = some g ∧ w.heap.size ≤ g) : TkR w' B F T ob rb ro r x wl l' ml out wv v' mv ov :=
  h.write hk (fun _ e => .inr (.inl e)) hT (other_of h hk h.ow (swap_ne h.wl)) ho (other_of h hk h.om h.lm) (swap_ne (apart_of h.ow (swap_ne h.wl) he)) h.wm (apart_of h.om h.lm he) (.inl rfl) he (.inl rfl)

theorem TkR.putM (h : TkR w B F T ob rb ro r x wl ll ml out wv lv mv ov) {v' : Value} {l' : List Sm} (hk : Keeps (fun k => k < w.heap.size ∧ k ≠ T ∧ some k ≠ mv.ownBlock) w w') (hT : Blk w' T 253 (tkCells rb ro wv lv v' x.sum x.st x.si x.fi x.be (clos ob)))
    (ho : Own w' B 156 2 v' l'.length (flat l')) (he : v'.ownBlock = mv.ownBlock ∨ ∃ g, v'.ownBlock = some g ∧ w.heap.size ≤ g) : TkR w' B F T ob rb ro r x wl ll l' out wv lv v' ov :=
  h.write hk (fun _ e => .inr (.inr e)) hT (other_of h hk h.ow (swap_ne h.wm)) (other_of h hk h.ol (swap_ne h.lm)) ho h.wl (swap_ne (apart_of h.ow (swap_ne h.wm) he)) (swap_ne (apart_of h.ol (swap_ne h.lm) he)) (.inl rfl) (.inl rfl) he

theorem TkR.rest (h : TkR w B F T ob rb ro r x wl ll ml out wv lv mv ov) {x' : Rest} (hk : Keeps (fun k => k < w.heap.size ∧ k ≠ T) w w') (hT : Blk w' T 253 (tkCells rb ro wv lv mv x'.sum x'.st x'.si x'.fi x'.be (clos ob))) : TkR w' B F T ob rb ro r x' wl ll ml out wv lv mv ov :=
  have hs : ∀ {u : Value} {n : Nat} {xs : List Value}, Own w B 156 2 u n xs → Own w' B 156 2 u n xs := fun hu => hu.same fun g hg => hk.block g ⟨(hu.lt g hg).2, fun e => hu.ne_blk h.blk (by decide) (e ▸ hg)⟩
  h.write (row := none) (hk.mono fun _ e => ⟨e.1, e.2.1⟩) (fun _ e => by cases e) hT (hs h.ow) (hs h.ol) (hs h.om) h.wl h.wm h.lm (.inl rfl) (.inl rfl) (.inl rfl)

/-- From the writing to the blocks of F. -/
theorem TkR.keeps {row : Option Nat} (h : TkR w B F T ob rb ro r x wl ll ml out wv lv mv ov) (hk : Keeps (fun k => k < w.heap.size ∧ k ≠ T ∧ some k ≠ row) w w') (hrow : ∀ g, row = some g → wv.ownBlock = some g ∨ lv.ownBlock = some g ∨ mv.ownBlock = some g) : Keeps F w w' :=
  hk.mono fun k hF => ⟨h.fB k hF, fun e => h.fT (e ▸ hF), fun e => by
    rcases hrow k e.symm with h1 | h1 | h1
    · exact h.fw k h1 hF
    · exact h.fl k h1 hF
    · exact h.fm k h1 hF⟩
end

/-- v[:n] of a slice of the call's own. -/
theorem Own.cut {w : World} {base : Nat} {e : TypeId} {k n m g off cap : Nat} {xs : List Value} (h : Own w base e k (.slice (some ⟨g, off, none⟩) n cap) n xs) (hm : m ≤ n) : Own w base e k (.slice (some ⟨g, off, none⟩) m cap) m (xs.take (m * k)) := by
  have hle : m * k ≤ n * k := Nat.mul_le_mul_right _ hm
  rcases h.2 with ⟨hv, _⟩ | ⟨g', off', cap', cur, hv, hb, hgg, hc, hcm, hs, ht⟩
  · cases hv
  · simp only [Value.slice.injEq, Option.some.injEq, Addr.mk.injEq] at hv
    obtain ⟨⟨rfl, rfl, _⟩, _, rfl⟩ := hv
    refine ⟨by rw [List.length_take, h.1]; omega, .inr ⟨g, off, cap, cur, rfl, hb, hgg, by omega, hcm, hs, ?_⟩⟩
    rw [← ht, List.take_take]
    congr 1
    omega

theorem flat_take (l : List Sm) (k : Nat) : (flat l).take (k * 2) = flat (l.take k) := by
  induction l generalizing k with
  | nil => simp [flat]
  | cons a l ih =>
    cases k with
    | zero => simp [flat]
    | succ k =>
      have := ih k
      rw [Nat.succ_mul]
      simpa [flat, List.flatMap_cons] using this

end Go.Proofs.YteandmolnbcmmaaGreatDoor

namespace Go.Proofs.YteandmolnbcmmaaGreatDoor
open Go.RowKit Go.Sort

section
variable {P : Program}
theorem step_append_Own {ops : Array Oper} {o : Oper} {a : Act} {w : World} {K : Act → World → Prop} {Q : Exit → Act → World → Prop} {E : Prop} (hg : o.guard = none) (s x : Operand) (t : TypeId)
    (ho : o.op = .call { callee := .builtin .append, args := #[s, x], argTypes := #[t, t] })
    (base : Nat) (e : TypeId) (i : TypeInfo) (z : Value) (size bytes : Nat) (ht : P.underlying t = some (.slice e)) (hi : P.info? e = some i) (hz : i.zero = some z)
    (hsize : i.size = size) (hby : i.bytes = bytes) (hzs : z.cells.size = size) (hsz : 0 < size)
    (v : Value) (n : Nat) (xs : List Value) (hs : a.eval s = v) (hown : Own w base e size v n xs)
    (ad : Addr) (m c : Nat) (news : List Value) (hx : a.eval x = .slice (some ad) m c) (hl : news.length = m * size) (hnews : ∀ j u, news[j]? = some u → w.cell? (ad.add j) = some u) (h1 : ∀ u ∈ news, u.oneCell' = true)
    (h63 : n + m ≤ maxLen) (hbytes : (n + m) * bytes ≤ 140737488355328) (hbase : base ≤ w.heap.size)
    (h : ∀ v' w', Own w' base e size v' (n + m) (xs ++ news) → w.grownBy w' v.ownBlock → (v'.ownBlock = v.ownBlock ∨ ∃ g, v'.ownBlock = some g ∧ w.heap.size ≤ g) → K (a.put o.dst v') w') :
    if Region.wanted o (yielded ops a.tmps) = true then Oper.wp P o a w K Q else E := by
  have hw : Region.wanted o (yielded ops a.tmps) = true := by simp [Region.wanted, hg]
  rw [if_pos hw]
  obtain ⟨v', w', hr, h2, h3, h4⟩ := run_append_Own (P := P) w base t o.type e i z size bytes ht hi hz hsize hby hzs hsz v n xs hown ad m c news hl hnews h1 h63 hbytes hbase
  unfold Oper.wp execOp
  simp only [ho, resolve, invoke, builtin, Sem.run_bind, Sem.run_pure, Result.andThen_ok, List.map_toArray, List.map_cons, List.map_nil, hs, hx, hr]
  exact h v' w' h2 h3 h4
end

section
variable {w w' w2 : World} {B T ob rb ro : Nat} {F : Nat → Prop} {r : Rule} {wv lv mv ov : Value} {x : Rest} {wl ll ml l' : List Sm} {out : List Span} {o : Obj} {v' : Value}

theorem keeps_append {row : Option Nat} {c : Nat} (hg : ((w.alloc o).drew).grownBy w2 row) (u : Value) : Keeps (fun k => k < w.heap.size ∧ k ≠ T ∧ some k ≠ row) w (w2.setCell ⟨T, c, none⟩ u) :=
  ((((Keeps.refl _ w).alloc (fun _ h => h.1) o).drew).trans ((Keeps.refl _ _).grown hg (fun k h => Nat.lt_of_lt_of_le h.1 (by simp)) (fun k e h => h.2.2 e.symm))).setCell (fun h => h.2.1 rfl) u

theorem fresh_le {g : Nat} (h : v'.ownBlock = some g ∧ (w.alloc o).drew.heap.size ≤ g) : v'.ownBlock = some g ∧ w.heap.size ≤ g := ⟨h.1, by have := h.2; simp at this; omega⟩

theorem own_set {n : Nat} {xs : List Value} {cs : Array Value} (ho : Own w2 B 156 2 v' n xs) (hb : Blk w2 T 253 cs) (c : Nat) (u : Value) : Own (w2.setCell ⟨T, c, none⟩ u) B 156 2 v' n xs :=
  ho.same fun g hg => Below.heap_setCell _ _ _ _ fun e => ho.ne_blk hb (by decide) (hg.trans (congrArg some e))

theorem TkR.appW (h : TkR w B F T ob rb ro r x wl ll ml out wv lv mv ov) (hg : ((w.alloc o).drew).grownBy w2 wv.ownBlock) (ho : Own w2 B 156 2 v' l'.length (flat l'))
    (he : v'.ownBlock = wv.ownBlock ∨ ∃ g, v'.ownBlock = some g ∧ (w.alloc o).drew.heap.size ≤ g) : TkR (w2.setCell ⟨T, 1, none⟩ v') B F T ob rb ro r x l' ll ml out v' lv mv ov ∧ Keeps F w (w2.setCell ⟨T, 1, none⟩ v') :=
  have hb : Blk w2 T 253 _ := ((h.blk.alloc o).drew).grown hg fun e => h.ow.ne_blk h.blk (by decide) e.symm
  ⟨h.putW (keeps_append hg v') (hb.set_ 1 v') (own_set ho hb 1 v') (he.imp id fun ⟨g, h⟩ => ⟨g, fresh_le h⟩), h.keeps (keeps_append hg v') fun _ e => .inl e⟩

theorem TkR.appL (h : TkR w B F T ob rb ro r x wl ll ml out wv lv mv ov) (hg : ((w.alloc o).drew).grownBy w2 lv.ownBlock) (ho : Own w2 B 156 2 v' l'.length (flat l'))
    (he : v'.ownBlock = lv.ownBlock ∨ ∃ g, v'.ownBlock = some g ∧ (w.alloc o).drew.heap.size ≤ g) : TkR (w2.setCell ⟨T, 2, none⟩ v') B F T ob rb ro r x wl l' ml out wv v' mv ov ∧ Keeps F w (w2.setCell ⟨T, 2, none⟩ v') :=
  have hb : Blk w2 T 253 _ := ((h.blk.alloc o).drew).grown hg fun e => h.ol.ne_blk h.blk (by decide) e.symm
  ⟨h.putL (keeps_append hg v') (hb.set_ 2 v') (own_set ho hb 2 v') (he.imp id fun ⟨g, h⟩ => ⟨g, fresh_le h⟩), h.keeps (keeps_append hg v') fun _ e => .inr (.inl e)⟩

theorem TkR.appM (h : TkR w B F T ob rb ro r x wl ll ml out wv lv mv ov) (hg : ((w.alloc o).drew).grownBy w2 mv.ownBlock) (ho : Own w2 B 156 2 v' l'.length (flat l'))
    (he : v'.ownBlock = mv.ownBlock ∨ ∃ g, v'.ownBlock = some g ∧ (w.alloc o).drew.heap.size ≤ g) : TkR (w2.setCell ⟨T, 3, none⟩ v') B F T ob rb ro r x wl ll l' out wv lv v' ov ∧ Keeps F w (w2.setCell ⟨T, 3, none⟩ v') :=
  have hb : Blk w2 T 253 _ := ((h.blk.alloc o).drew).grown hg fun e => h.om.ne_blk h.blk (by decide) e.symm
  ⟨h.putM (keeps_append hg v') (hb.set_ 3 v') (own_set ho hb 3 v') (he.imp id fun ⟨g, h⟩ => ⟨g, fresh_le h⟩), h.keeps (keeps_append hg v') fun _ e => .inr (.inr e)⟩

/-- A store that leaves one block alone changes no other. -/
theorem Keeps.blk {G : Nat → Prop} (h : Keeps G w w') {g : Nat} {t : TypeId} {cs : Array Value} (hb : Blk w g t cs) (hg : G g) : Blk w' g t cs := (h.block g hg).trans hb

theorem TkR.cutL (h : TkR w B F T ob rb ro r x wl ll ml out wv lv mv ov) (ho : Own w B 156 2 v' l'.length (flat l')) (he : v'.ownBlock = lv.ownBlock) (n : Nat) : TkR ((w.drewN n).setCell ⟨T, 2, none⟩ v') B F T ob rb ro r x wl l' ml out wv v' mv ov ∧ Keeps F w ((w.drewN n).setCell ⟨T, 2, none⟩ v') :=
  have hk : Keeps (fun k => k < w.heap.size ∧ k ≠ T ∧ some k ≠ lv.ownBlock) w ((w.drewN n).setCell ⟨T, 2, none⟩ v') := ((Keeps.refl _ w).drewN n).setCell (fun h => h.2.1 rfl) _
  ⟨h.putL hk ((h.blk.drewN n).set_ 2 v') (own_set (ho.drewN n) (h.blk.drewN n) 2 v') (.inl he), h.keeps hk fun _ e => .inr (.inl e)⟩

theorem TkR.cutM (h : TkR w B F T ob rb ro r x wl ll ml out wv lv mv ov) (ho : Own w B 156 2 v' l'.length (flat l')) (he : v'.ownBlock = mv.ownBlock) (n : Nat) : TkR ((w.drewN n).setCell ⟨T, 3, none⟩ v') B F T ob rb ro r x wl ll l' out wv lv v' ov ∧ Keeps F w ((w.drewN n).setCell ⟨T, 3, none⟩ v') :=
  have hk : Keeps (fun k => k < w.heap.size ∧ k ≠ T ∧ some k ≠ mv.ownBlock) w ((w.drewN n).setCell ⟨T, 3, none⟩ v') := ((Keeps.refl _ w).drewN n).setCell (fun h => h.2.1 rfl) _
  ⟨h.putM hk ((h.blk.drewN n).set_ 3 v') (own_set (ho.drewN n) (h.blk.drewN n) 3 v') (.inl he), h.keeps hk fun _ e => .inr (.inr e)⟩

theorem TkR.setSum (h : TkR w B F T ob rb ro r x wl ll ml out wv lv mv ov) (s : Int) : TkR (w.setCell ⟨T, 4, none⟩ (.int .i64 s)).drew B F T ob rb ro r { x with sum := s } wl ll ml out wv lv mv ov ∧ Keeps F w (w.setCell ⟨T, 4, none⟩ (.int .i64 s)).drew :=
  ⟨h.rest (((Keeps.refl _ w).setCell (fun h => h.2 rfl) _).drew) ((h.blk.set_ 4 _).drew), ((Keeps.refl _ w).setCell h.fT _).drew⟩
end

end Go.Proofs.YteandmolnbcmmaaGreatDoor
