/- A track in memory; walks: (*track).now at an empty window, update. Walk: (*track).update. No condition beyond what each theorem states. -/
import Derived.Test.YteandmolnbcmmaaGreatDoorKJ

namespace Go.Proofs.YteandmolnbcmmaaGreatDoor
open Go.RowKit Go.Sort

/-- The blocks of F are as they were. -/
structure Keeps (F : Nat → Prop) (w w' : World) : Prop where
  os : w'.os = w.os
  tape : w'.tape = w.tape
  output : w'.output = w.output
  size : w.heap.size ≤ w'.heap.size
  block : ∀ k, F k → w'.heap[k]? = w.heap[k]?

section
variable {F : Nat → Prop} {a w w' : World}
theorem Keeps.refl (F : Nat → Prop) (w : World) : Keeps F w w := ⟨rfl, rfl, rfl, Nat.le_refl _, fun _ _ => rfl⟩
theorem Keeps.trans (h : Keeps F a w) (k : Keeps F w w') : Keeps F a w' :=
  ⟨k.os.trans h.os, k.tape.trans h.tape, k.output.trans h.output, Nat.le_trans h.size k.size, fun i hi => (k.block i hi).trans (h.block i hi)⟩
theorem Keeps.mono {F' : Nat → Prop} (h : Keeps F w w') (hF : ∀ k, F' k → F k) : Keeps F' w w' := ⟨h.os, h.tape, h.output, h.size, fun k hk => h.block k (hF k hk)⟩
theorem Keeps.drew (h : Keeps F a w) : Keeps F a w.drew := ⟨h.os, h.tape, h.output, h.size, h.block⟩
theorem Keeps.drewN (h : Keeps F a w) (n : Nat) : Keeps F a (w.drewN n) := ⟨h.os, h.tape, h.output, h.size, h.block⟩
theorem Keeps.alloc (h : Keeps F a w) (hF : ∀ k, F k → k < w.heap.size) (o : Obj) : Keeps F a (w.alloc o) :=
  h.trans ⟨rfl, rfl, rfl, by simp, fun k hk => Below.heap_alloc w o k (hF k hk)⟩
theorem Keeps.setCell (h : Keeps F a w) {p : Addr} (hp : ¬ F p.block) (u : Value) : Keeps F a (w.setCell p u) :=
  h.trans ⟨rfl, rfl, rfl, by simp [World.setCell], fun k hk => Below.heap_setCell w p u k (fun e => hp (e ▸ hk))⟩
theorem Keeps.grown {row : Option Nat} (h : Keeps F a w) (hg : w.grownBy w' row) (hF : ∀ k, F k → k < w.heap.size) (hr : ∀ k, row = some k → ¬ F k) : Keeps F a w' :=
  h.trans ⟨hg.os, hg.tape, hg.output, hg.size, fun k hk => hg.block k (hF k hk) (fun e => hr k e.symm hk)⟩
theorem Keeps.cells (h : Keeps F w w') {b o : Nat} {cs : List Value} (hb : F b) (hc : Cells w b o cs) : Cells w' b o cs := fun j u hj => by
  rw [World.cell?_of_block (w := w) (h.block b hb)]; exact hc j u hj
theorem Keeps.cell (h : Keeps F w w') {b o : Nat} {v : Value} (hb : F b) (hc : w.cell? ⟨b, o, none⟩ = some v) : w'.cell? ⟨b, o, none⟩ = some v := by
  rw [World.cell?_of_block (w := w) (h.block b hb)]; exact hc
theorem Keeps.of_grows (h : Grows w w') (hF : ∀ k, F k → k < w.heap.size) : Keeps F w w' :=
  ⟨h.below.os, h.below.tape, h.below.output, h.below.size, fun k hk => h.below.block k (hF k hk)⟩
theorem Keeps.below {B : Nat} (h : Keeps (· < B) w w') : Below B w w' := ⟨h.os, h.tape, h.output, h.size, h.block⟩
end

/-- The closure that keeps the spans. -/
def clos (ob : Nat) : Value := .func (.func 152) #[] #[.pointer (some ⟨ob, 0, none⟩)]

/-- A track in memory: block T holds its cells, block ob the spans; its slices lie in blocks of their own, none of them in F. -/
structure TkV (w : World) (B : Nat) (F : Nat → Prop) (T ob rb ro : Nat) (r : Rule) (t : Tk) (wv lv mv ov : Value) : Prop where
  blk : Blk w T 253 (tkCells rb ro wv lv mv (sumV t.win) t.state t.since t.firing t.began (clos ob))
  outb : Blk w ob 158 #[ov]
  ow : Own w B 156 2 wv t.win.length (flat t.win)
  ol : Own w B 156 2 lv (lmin t.win).length (flat (lmin t.win))
  om : Own w B 156 2 mv (lmax t.win).length (flat (lmax t.win))
  oo : Own w B 161 2 ov t.out.length (flat t.out)
  wl : ∀ g, wv.ownBlock = some g → lv.ownBlock ≠ some g
  wm : ∀ g, wv.ownBlock = some g → mv.ownBlock ≠ some g
  lm : ∀ g, lv.ownBlock = some g → mv.ownBlock ≠ some g
  fT : ¬ F T
  fo : ¬ F ob
  fw : ∀ g, wv.ownBlock = some g → ¬ F g
  fl : ∀ g, lv.ownBlock = some g → ¬ F g
  fm : ∀ g, mv.ownBlock = some g → ¬ F g
  fv : ∀ g, ov.ownBlock = some g → ¬ F g
  fB : ∀ k, F k → k < w.heap.size
  fr : F rb
  rule : Cells w rb ro (encR r)
  base : B ≤ w.heap.size

def TkAt (w : World) (B : Nat) (F : Nat → Prop) (T ob rb ro : Nat) (r : Rule) (t : Tk) : Prop := ∃ wv lv mv ov, TkV w B F T ob rb ro r t wv lv mv ov

/-- Blocks of different element types are not one. -/
theorem blk_ne {w : World} {g g' : Nat} {t t' : TypeId} {cs cs' : Array Value} (h : Blk w g t cs) (h' : Blk w g' t' cs') (hne : t ≠ t') : g ≠ g' := by
  rintro rfl
  unfold Blk at h h'
  rw [h] at h'
  simp only [Option.some.injEq, Obj.cells.injEq] at h'
  exact hne h'.2.1

theorem Own.blk {w : World} {base : Nat} {e : TypeId} {k : Nat} {v : Value} {n : Nat} {xs : List Value} (h : Own w base e k v n xs) {g : Nat} (hg : v.ownBlock = some g) : ∃ cs, Blk w g e cs := by
  rcases h.2 with ⟨rfl, _⟩ | ⟨g', off, cap, cur, rfl, hb, hgg, _⟩
  · simp [Value.ownBlock] at hg
  · simp [Value.ownBlock] at hg
    subst hg
    exact ⟨cur, hgg⟩

theorem Own.ne_blk {w : World} {base : Nat} {e : TypeId} {k : Nat} {v : Value} {n : Nat} {xs : List Value} (h : Own w base e k v n xs) {g : Nat} {t : TypeId} {cs : Array Value} (hb : Blk w g t cs) (hne : e ≠ t) : v.ownBlock ≠ some g := fun hg => by
  obtain ⟨cs', hb'⟩ := h.blk hg
  exact blk_ne hb' hb hne rfl

section
variable {w w' : World} {B T ob rb ro : Nat} {F : Nat → Prop} {r : Rule} {t : Tk} {wv lv mv ov : Value}

/-- All that was there is as it was: so the track is. -/
theorem TkV.same (h : TkV w B F T ob rb ro r t wv lv mv ov) (hs : w.heap.size ≤ w'.heap.size) (hb : ∀ k, k < w.heap.size → w'.heap[k]? = w.heap[k]?) : TkV w' B F T ob rb ro r t wv lv mv ov where
  blk := (hb T h.blk.lt).trans h.blk
  outb := (hb ob h.outb.lt).trans h.outb
  ow := h.ow.same fun g hg => hb g (h.ow.lt g hg).2
  ol := h.ol.same fun g hg => hb g (h.ol.lt g hg).2
  om := h.om.same fun g hg => hb g (h.om.lt g hg).2
  oo := h.oo.same fun g hg => hb g (h.oo.lt g hg).2
  wl := h.wl
  wm := h.wm
  lm := h.lm
  fT := h.fT
  fo := h.fo
  fw := h.fw
  fl := h.fl
  fm := h.fm
  fv := h.fv
  fB := fun k hk => Nat.lt_of_lt_of_le (h.fB k hk) hs
  fr := h.fr
  rule := fun j u hj => by rw [World.cell?_of_block (w := w) (hb rb (h.fB rb h.fr))]; exact h.rule j u hj
  base := Nat.le_trans h.base hs

theorem TkV.drewN (h : TkV w B F T ob rb ro r t wv lv mv ov) (n : Nat) : TkV (w.drewN n) B F T ob rb ro r t wv lv mv ov := h.same (Nat.le_refl _) fun _ _ => rfl
theorem TkV.drew (h : TkV w B F T ob rb ro r t wv lv mv ov) : TkV w.drew B F T ob rb ro r t wv lv mv ov := h.same (Nat.le_refl _) fun _ _ => rfl
theorem TkV.alloc (h : TkV w B F T ob rb ro r t wv lv mv ov) (o : Obj) : TkV (w.alloc o) B F T ob rb ro r t wv lv mv ov := h.same (by simp) fun k hk => Below.heap_alloc w o k hk
theorem TkV.grows (h : TkV w B F T ob rb ro r t wv lv mv ov) (hg : Grows w w') : TkV w' B F T ob rb ro r t wv lv mv ov := h.same hg.below.size fun k hk => hg.below.block k hk

/-- Only the track's own block has been written, and holds the cells of t'. -/
theorem TkV.turned {t' : Tk} (h : TkV w B F T ob rb ro r t wv lv mv ov) (hs : w.heap.size ≤ w'.heap.size) (hb : ∀ k, k < w.heap.size → k ≠ T → w'.heap[k]? = w.heap[k]?)
    (hT : Blk w' T 253 (tkCells rb ro wv lv mv (sumV t'.win) t'.state t'.since t'.firing t'.began (clos ob))) (hw : t'.win = t.win) (ho : t'.out = t.out) : TkV w' B F T ob rb ro r t' wv lv mv ov where
  blk := hT
  outb := (hb ob h.outb.lt (blk_ne h.outb h.blk (by decide))).trans h.outb
  ow := by rw [hw]; exact h.ow.same fun g hg => hb g (h.ow.lt g hg).2 (fun e => h.ow.ne_blk h.blk (by decide) (e ▸ hg))
  ol := by rw [hw]; exact h.ol.same fun g hg => hb g (h.ol.lt g hg).2 (fun e => h.ol.ne_blk h.blk (by decide) (e ▸ hg))
  om := by rw [hw]; exact h.om.same fun g hg => hb g (h.om.lt g hg).2 (fun e => h.om.ne_blk h.blk (by decide) (e ▸ hg))
  oo := by rw [ho]; exact h.oo.same fun g hg => hb g (h.oo.lt g hg).2 (fun e => h.oo.ne_blk h.blk (by decide) (e ▸ hg))
  wl := h.wl
  wm := h.wm
  lm := h.lm
  fT := h.fT
  fo := h.fo
  fw := h.fw
  fl := h.fl
  fm := h.fm
  fv := h.fv
  fB := fun k hk => Nat.lt_of_lt_of_le (h.fB k hk) hs
  fr := h.fr
  rule := fun j u hj => by rw [World.cell?_of_block (w := w) (hb rb (h.fB rb h.fr) (fun e => h.fT (e ▸ h.fr)))]; exact h.rule j u hj
  base := Nat.le_trans h.base hs
end

theorem cell_alloc_old {w : World} {b o : Nat} {v : Value} (h : w.cell? ⟨b, o, none⟩ = some v) (x : Obj) : (w.alloc x).cell? ⟨b, o, none⟩ = some v := ((Grows.refl w).alloc x).cell h

set_option maxHeartbeats 2000000 in
set_option maxRecDepth 100000 in
theorem now_none (r : Rule) (T rb ro : Nat) (A : Option Addr) (c : Nat) (lv mv : Value) (sum st si be : Int) (fi : Bool) (fn : Value) (w : World) (hr : GoodR r) (h5 : r.agg ≠ 5) (hb : Blk w T 253 (tkCells rb ro (.slice A 0 c) lv mv sum st si fi be fn)) (hc : Cells w rb ro (encR r)) :
    Calls Tryz.prog 185 #[.pointer (some ⟨T, 0, none⟩)] w fun e w' => e = .returned (.int .i64 (nowOf r [])) ∧ Grows w w' := by
  have c0 : w.cell? ⟨T, 0, none⟩ = some (.pointer (some ⟨rb, ro, none⟩)) := hb.cell 0
  have c1 : w.cell? ⟨T, 1, none⟩ = some (.slice A 0 c) := hb.cell 1
  have r2 : w.cell? ⟨rb, ro + 2, none⟩ = some (.int .i64 r.agg) := hc 2 _ rfl
  have r9 : w.cell? ⟨rb, ro + 9, none⟩ = some (.int .i64 r.empty) := hc 9 _ rfl
  have he := hr.empty
  have h5b : (r.agg != 5) = true := by simpa using h5
  have HV := Lib.hid (nowOf_none r h5)
  have HG := Lib.hid ((Grows.refl w).alloc (.cells #[.int .i64 0, .int .i64 2, .int .i64 1] 3))
  have hcase : r.empty = 0 ∨ r.empty = 1 ∨ r.empty = 2 := by omega
  have hlt1 : rb < w.heap.size := World.block_lt_of_cell? w _ r9
  have hlt2 : T < w.heap.size := World.block_lt_of_cell? w _ c0
  clear hb hc he hr h5
  rcases hcase with h | h | h
  all_goals
    rw [h] at r9
    have a0 := cell_alloc_old c0 (.cells #[.int .i64 0, .int .i64 2, .int .i64 1] 3)
    have a9 := cell_alloc_old r9 (.cells #[.int .i64 0, .int .i64 2, .int .i64 1] 3)
    have HW := Lib.hid h
    clear h
    go_enter Tryz.func185, Tryz.ntmps185
    go_wp2_with fail
    go_ret
    exact ⟨ret_i64 (by rw [HV.out, HW.out]; rfl), HG.out⟩

end Go.Proofs.YteandmolnbcmmaaGreatDoor

namespace Go.Proofs.YteandmolnbcmmaaGreatDoor
open Go.RowKit Go.Sort

theorem Grows.of_drewN {w w' : World} (h : ∃ n, w' = w.drewN n) : Grows w w' := by
  obtain ⟨n, rfl⟩ := h
  exact (Grows.refl w).drewN n

/-- (*track).now, whatever the window. -/
theorem now_calls {w : World} {B T ob rb ro : Nat} {F : Nat → Prop} {r : Rule} {t : Tk} {wv lv mv ov : Value} (h : TkV w B F T ob rb ro r t wv lv mv ov) (hr : GoodR r) (hg : GoodS t.win) (hlen : t.win.length ≤ 1000000) :
    Calls Tryz.prog 185 #[.pointer (some ⟨T, 0, none⟩)] w fun e w' => e = .returned (.int .i64 (nowOf r t.win)) ∧ Grows w w' := by
  by_cases hne : t.win ≠ [] ∨ r.agg = 5
  · exact (now_value r t.win T rb ro B wv lv mv _ _ _ _ _ w hr hg h.blk h.rule h.ow h.ol h.om hlen hne).mono fun _ _ ⟨a, b⟩ => ⟨a, Grows.of_drewN b⟩
  · have hn : t.win = [] := by
      cases hw : t.win with
      | nil => rfl
      | cons a l => exact absurd (.inl (by rw [hw]; simp)) hne
    have h5 : r.agg ≠ 5 := fun e => hne (.inr e)
    obtain ⟨A, c, he, _⟩ := h.ow.slice
    rw [hn] at he ⊢
    have hb := h.blk
    rw [he] at hb
    exact now_none r T rb ro A c _ _ _ _ _ _ _ _ w hr h5 hb h.rule

set_option maxHeartbeats 2000000 in
theorem update_calls {w : World} {B T ob rb ro : Nat} {F : Nat → Prop} {r : Rule} {t : Tk} {wv lv mv ov : Value} (h : TkV w B F T ob rb ro r t wv lv mv ov) (hr : GoodR r) (hg : GoodS t.win) (hlen : t.win.length ≤ 1000000) (at_ : Int) :
    Calls Tryz.prog 188 #[.pointer (some ⟨T, 0, none⟩), .int .i64 at_] w fun e w' => e = .returned (.tuple #[]) ∧ TkV w' B F T ob rb ro r (upd r at_ t) wv lv mv ov ∧ Keeps F w w' := by
  have HN := Lib.hid (now_calls h hr hg hlen)
  have H := Lib.hid h
  clear h hr hg hlen
  obtain ⟨x, hx⟩ : ∃ x, nowOf r t.win = x := ⟨_, rfl⟩
  rw [hx] at HN
  have HX := Lib.hid hx
  clear hx
  go_enter Tryz.func188, Tryz.ntmps188
  go_wp2_with fail
  refine HN.out.mono ?_
  rintro e w1 ⟨rfl, hg1⟩
  have h1 := H.out.grows hg1
  have c5 : w1.cell? ⟨T, 5, none⟩ = some (.int .i64 t.state) := h1.blk.cell 5
  have c6 : w1.cell? ⟨T, 6, none⟩ = some (.int .i64 t.since) := h1.blk.cell 6
  have f5 : w1.frozen? ⟨T, 5, none⟩ = false := h1.blk.frozen 5
  have f6 : w1.frozen? ⟨T, 6, none⟩ = false := h1.blk.frozen 6
  have H1 := Lib.hid h1
  have HK := Lib.hid (Keeps.of_grows hg1 H.out.fB)
  clear h1 hg1
  by_cases hs : x = t.state
  · subst hs
    go_wp2_with fail
    go_end0
    refine ⟨rfl, ?_, HK.out⟩
    unfold upd
    rw [if_pos HX.out]
    exact H1.out
  · have hb : (x != t.state) = true := by simpa using hs
    go_wp2_with fail
    go_end0
    refine ⟨rfl, ?_, (HK.out.setCell H.out.fT _).setCell H.out.fT _⟩
    have hu : upd r at_ t = { t with state := x, since := at_ } := by
      unfold upd
      rw [HX.out, if_neg hs]
    rw [hu]
    refine H1.out.turned (by simp [World.setCell]) (fun k _ hkT => ?_) ?_ rfl rfl
    · rw [Below.heap_setCell _ _ _ _ hkT, Below.heap_setCell _ _ _ _ hkT]
    · exact (H1.out.blk.set_ 5 _).set_ 6 _

end Go.Proofs.YteandmolnbcmmaaGreatDoor
