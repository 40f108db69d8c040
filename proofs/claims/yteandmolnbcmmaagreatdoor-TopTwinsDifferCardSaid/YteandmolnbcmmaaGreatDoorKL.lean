/- Walk: (*track).drop. No condition beyond what each theorem states. -/
import Derived.Test.YteandmolnbcmmaaGreatDoorKK

namespace Go.Proofs.YteandmolnbcmmaaGreatDoor
open Go.RowKit Go.Sort

/-- v[1:] of a slice of the call's own. -/
theorem Own.tail {w : World} {base : Nat} {e : TypeId} {k n g off cap : Nat} {xs : List Value} (h : Own w base e k (.slice (some ⟨g, off, none⟩) (n + 1) cap) (n + 1) xs) {v : Value}
    (hv : v = .slice (if cap = 1 then some ⟨g, off, none⟩ else some ⟨g, off + k, none⟩) n (cap - 1)) : Own w base e k v n (xs.drop k) ∧ v.ownBlock = some g := by
  subst hv
  rcases h.2 with ⟨hv, _⟩ | ⟨g', off', cap', cur, hv, hb, hgg, hc, hm, hs, ht⟩
  · cases hv
  · simp only [Value.slice.injEq, Option.some.injEq, Addr.mk.injEq] at hv
    obtain ⟨⟨rfl, rfl, _⟩, _, rfl⟩ := hv
    have hx : (xs.drop k).length = n * k := by rw [List.length_drop, h.1, Nat.succ_mul]; omega
    have hsz : off + k + (cap - 1) * k ≤ cur.size := by
      have : cap * k = (cap - 1) * k + k := by rw [← Nat.succ_mul]; congr 1; omega
      omega
    by_cases h1 : cap = 1
    · rw [if_pos h1]
      have hn : n = 0 := by omega
      subst hn
      have hx0 : xs.drop k = [] := List.eq_nil_of_length_eq_zero (by simpa using hx)
      rw [hx0]
      exact ⟨⟨by simp, .inr ⟨g, off, cap - 1, cur, rfl, hb, hgg, by omega, by omega, by omega, by simp⟩⟩, rfl⟩
    · rw [if_neg h1]
      refine ⟨⟨hx, .inr ⟨g, off + k, cap - 1, cur, rfl, hb, hgg, by omega, by omega, hsz, ?_⟩⟩, rfl⟩
      rw [← ht, List.drop_take, List.drop_drop, Nat.succ_mul]
      congr 1
      omega

/-- The value of v[1:]. -/
def tailV (g off cap n k : Nat) : Value := .slice (if cap = 1 then some ⟨g, off, none⟩ else some ⟨g, off + k, none⟩) n (cap - 1)

theorem run_tail (g off cap n : Nat) (w : World) : (Instr.slice 154 (.slice (some ⟨g, off, none⟩) (n + 1) cap) (some (.int .i64 1)) none none).run Tryz.prog w = .ok (tailV g off cap n 2) w := by
  rw [run_slice_l (P := Tryz.prog) w 154 _ _ _ (by kernel_rfl) .i64 1 (by omega) (by omega)]
  have he : Tryz.prog.elem 154 = 156 := by kernel_rfl
  rw [he]
  have hs : (sizeOf 156).run Tryz.prog w = .ok 2 w := by go_simp
  rw [hs]
  simp [Result.andThen, sliced, tailV, Addr.add]

theorem lmin_head {s : Sm} {l : List Sm} (h : SortedS (s :: l)) : (lmin (s :: l) = s :: lmin l) ∨ (∃ b m, lmin (s :: l) = b :: m ∧ lmin l = b :: m ∧ b.1 ≠ s.1) := by
  rw [lmin]
  cases hl : lmin l with
  | nil => exact .inl rfl
  | cons b m =>
    dsimp only
    split
    · exact .inl rfl
    · refine .inr ⟨b, m, rfl, rfl, ?_⟩
      have hb := lmin_mem l b (by rw [hl]; simp)
      have := (List.pairwise_cons.1 h).1 b hb
      omega

theorem lmax_head {s : Sm} {l : List Sm} (h : SortedS (s :: l)) : (lmax (s :: l) = s :: lmax l) ∨ (∃ b m, lmax (s :: l) = b :: m ∧ lmax l = b :: m ∧ b.1 ≠ s.1) := by
  rw [lmax]
  cases hl : lmax l with
  | nil => exact .inl rfl
  | cons b m =>
    dsimp only
    split
    · exact .inl rfl
    · refine .inr ⟨b, m, rfl, rfl, ?_⟩
      have hb := lmax_mem l b (by rw [hl]; simp)
      have := (List.pairwise_cons.1 h).1 b hb
      omega

theorem TkV.moved {w w' : World} {B T ob rb ro : Nat} {F : Nat → Prop} {r : Rule} {t t' : Tk} {wv lv mv ov wv' lv' mv' : Value} (h : TkV w B F T ob rb ro r t wv lv mv ov) (hk : Keeps (fun k => k < w.heap.size ∧ k ≠ T) w w')
    (hT : Blk w' T 253 (tkCells rb ro wv' lv' mv' (sumV t'.win) t'.state t'.since t'.firing t'.began (clos ob))) (ho : t'.out = t.out)
    (how : Own w B 156 2 wv' t'.win.length (flat t'.win)) (hol : Own w B 156 2 lv' (lmin t'.win).length (flat (lmin t'.win))) (hom : Own w B 156 2 mv' (lmax t'.win).length (flat (lmax t'.win)))
    (ew : wv'.ownBlock = wv.ownBlock) (el : lv'.ownBlock = lv.ownBlock) (em : mv'.ownBlock = mv.ownBlock) : TkV w' B F T ob rb ro r t' wv' lv' mv' ov where
  blk := hT
  outb := (hk.block ob ⟨h.outb.lt, blk_ne h.outb h.blk (by decide)⟩).trans h.outb
  ow := how.same fun g hg => hk.block g ⟨(how.lt g hg).2, fun e => how.ne_blk h.blk (by decide) (e ▸ hg)⟩
  ol := hol.same fun g hg => hk.block g ⟨(hol.lt g hg).2, fun e => hol.ne_blk h.blk (by decide) (e ▸ hg)⟩
  om := hom.same fun g hg => hk.block g ⟨(hom.lt g hg).2, fun e => hom.ne_blk h.blk (by decide) (e ▸ hg)⟩
  oo := by rw [ho]; exact h.oo.same fun g hg => hk.block g ⟨(h.oo.lt g hg).2, fun e => h.oo.ne_blk h.blk (by decide) (e ▸ hg)⟩
  wl := by rw [ew, el]; exact h.wl
  wm := by rw [ew, em]; exact h.wm
  lm := by rw [el, em]; exact h.lm
  fT := h.fT
  fo := h.fo
  fw := by rw [ew]; exact h.fw
  fl := by rw [el]; exact h.fl
  fm := by rw [em]; exact h.fm
  fv := h.fv
  fB := fun k hF => Nat.lt_of_lt_of_le (h.fB k hF) hk.size
  fr := h.fr
  rule := hk.cells ⟨h.fB rb h.fr, fun e => h.fT (e ▸ h.fr)⟩ h.rule
  base := Nat.le_trans h.base hk.size

def winLen (w : World) (T : Nat) : Nat := match w.cell? ⟨T, 1, none⟩ with | some (.slice _ n _) => n | _ => 0

/-- A track with this window. -/
def Tk.with (t : Tk) (l : List Sm) : Tk := { t with win := l }

set_option maxHeartbeats 4000000 in
set_option maxRecDepth 100000 in
theorem drop_calls {w : World} {B T ob rb ro : Nat} {F : Nat → Prop} {r : Rule} {t : Tk} {wv lv mv ov : Value} (h : TkV w B F T ob rb ro r t wv lv mv ov) (hr : GoodR r) (hg : GoodS t.win) (hs : SortedS t.win) (hlen : t.win.length ≤ 1000000) (at_ : Int) :
    Calls Tryz.prog 187 #[.pointer (some ⟨T, 0, none⟩), .int .i64 at_] w fun e w' => e = .returned (.tuple #[]) ∧ (∃ wv lv mv, TkV w' B F T ob rb ro r (t.with (dropW r.long at_ t.win)) wv lv mv ov) ∧ Keeps F w w' := by
  obtain ⟨hl1, hl2⟩ := hr.long
  unfold MAXL at hl2
  have hB := h.fB
  have hT := h.blk.lt
  have HT := Lib.hid h
  have HG := Lib.hid hg
  have HS := Lib.hid hs
  have HB := Lib.hid hB
  clear h hr hg hs hB
  go_enter Tryz.func187, Tryz.ntmps187
  go_wp2_with fail
  go_loopw [4] (fun _ wr => ∃ l wv lv mv, TkV wr B F T ob rb ro r (t.with l) wv lv mv ov ∧ Keeps F w wr ∧ dropW r.long at_ l = dropW r.long at_ t.win ∧ GoodS l ∧ SortedS l ∧ l.length ≤ 1000000) (fun _ wr => winLen wr T)
  case atStart => exact ⟨t.win, wv, lv, mv, HT.out, Keeps.refl F w, rfl, HG.out, HS.out, hlen⟩
  case round =>
    clear HT HG HS hlen
    obtain ⟨l, wv, lv, mv, h, hk, hd, hg, hs, hlen⟩ := hrel
    have c0 : wr.cell? ⟨T, 0, none⟩ = some (.pointer (some ⟨rb, ro, none⟩)) := h.blk.cell 0
    have c1 : wr.cell? ⟨T, 1, none⟩ = some wv := h.blk.cell 1
    have c2 : wr.cell? ⟨T, 2, none⟩ = some lv := h.blk.cell 2
    have c3 : wr.cell? ⟨T, 3, none⟩ = some mv := h.blk.cell 3
    have c4 : wr.cell? ⟨T, 4, none⟩ = some (.int .i64 (sumV l)) := h.blk.cell 4
    have r3 : wr.cell? ⟨rb, ro + 3, none⟩ = some (.int .i64 r.long) := h.rule 3 _ rfl
    cases l with
    | nil =>
      have ho := h.ow
      simp only [Tk.with, List.length_nil] at ho
      obtain ⟨A, c, rfl, _⟩ := ho.slice
      have H := Lib.hid h
      have HK := Lib.hid hk
      have HD := Lib.hid hd
      clear h hk hd hg hs hlen ho
      go_wp2_with fail
      go_quiet (fail)
      go_wp2_with fail
      go_end0
      exact ⟨rfl, ⟨_, _, _, by rw [← HD.out]; exact H.out.drewN _⟩, HK.out.drewN _⟩
    | cons s l =>
      have ho := h.ow
      simp only [Tk.with, List.length_cons] at ho hlen
      obtain ⟨g, off, cap, rfl, hcap, _, _⟩ := ho.form (by omega)
      obtain ⟨d0, d1⟩ := ho.at_ (i := 0) (s := s) rfl
      simp only [Nat.zero_mul, Nat.add_zero] at d0 d1
      obtain ⟨g1, g2, _, _⟩ := hg s (by simp)
      unfold END at g2
      have w1 : IntKind.i64.wrap (s.1 + r.long) = s.1 + r.long := IntWalk.i64_in _ (by omega)
      have hlp : decide ((0:Int) < ((l.length + 1 : Nat) : Int)) = true := decide_eq_true (by omega)
      have hl0 : 0 < l.length + 1 := by omega
      by_cases hle : s.1 + r.long ≤ at_
      · have HW : Hid (winLen wr T = l.length + 1) := Lib.hid (by unfold winLen; rw [c1])
        have ol := h.ol
        have om := h.om
        simp only [Tk.with] at ol om
        have hmn : 0 < (lmin (s :: l)).length := List.length_pos_iff.2 (lmin_ne _ (by simp))
        have hmx : 0 < (lmax (s :: l)).length := List.length_pos_iff.2 (lmax_ne _ (by simp))
        obtain ⟨gl, offl, capl, rfl, hcl, _, _⟩ := ol.form hmn
        obtain ⟨gm, offm, capm, rfl, hcm, _, _⟩ := om.form hmx
        have f1 : wr.frozen? ⟨T, 1, none⟩ = false := h.blk.frozen 1
        have f2 : wr.frozen? ⟨T, 2, none⟩ = false := h.blk.frozen 2
        have f3 : wr.frozen? ⟨T, 3, none⟩ = false := h.blk.frozen 3
        have f4 : wr.frozen? ⟨T, 4, none⟩ = false := h.blk.frozen 4
        have H := Lib.hid h
        have HK := Lib.hid hk
        have HD := Lib.hid hd
        have HO := Lib.hid ho
        have HG := Lib.hid hg
        have HS := Lib.hid hs
        have hsm : -(9223372036854775807 : Int) ≤ sumV (s :: l) - s.2 ∧ sumV (s :: l) - s.2 ≤ 9223372036854775807 := by
          have := sumV_bound l fun x hx => hg x (by simp [hx])
          rw [sumV]
          omega
        have w2 : IntKind.i64.wrap (sumV (s :: l) - s.2) = sumV (s :: l) - s.2 := IntWalk.i64_in _ (by omega)
        have hTr : T < wr.heap.size := h.blk.lt
        have hTn : ¬ T = wr.heap.size := by omega
        have hTn2 : ¬ wr.heap.size = T := by omega
        obtain ⟨S, hS⟩ : ∃ S, sumV (s :: l) = S := ⟨_, rfl⟩
        rw [hS] at c4 w2 hsm
        have HSm := Lib.hid hS
        clear h hk hd hg hs ho hS
        have hk1 : (1 : Int) ≤ ((l.length + 1 : Nat) : Int) := by omega
        go_wp2_with fail
        have hd : decide (s.1 + r.long ≤ at_) = true := decide_eq_true hle
        go_quiet (fail)
        replace c0 : (wr.drewN nq).cell? ⟨T, 0, none⟩ = _ := c0
        replace c1 : (wr.drewN nq).cell? ⟨T, 1, none⟩ = _ := c1
        replace c2 : (wr.drewN nq).cell? ⟨T, 2, none⟩ = _ := c2
        replace c3 : (wr.drewN nq).cell? ⟨T, 3, none⟩ = _ := c3
        replace c4 : (wr.drewN nq).cell? ⟨T, 4, none⟩ = _ := c4
        replace f1 : (wr.drewN nq).frozen? ⟨T, 1, none⟩ = _ := f1
        replace f2 : (wr.drewN nq).frozen? ⟨T, 2, none⟩ = _ := f2
        replace f3 : (wr.drewN nq).frozen? ⟨T, 3, none⟩ = _ := f3
        replace f4 : (wr.drewN nq).frozen? ⟨T, 4, none⟩ = _ := f4
        replace d0 : (wr.drewN nq).cell? ⟨g, off, none⟩ = _ := d0
        replace d1 : (wr.drewN nq).cell? ⟨g, off + 1, none⟩ = _ := d1
        replace hTr : T < (wr.drewN nq).heap.size := hTr
        replace hTn : ¬ T = (wr.drewN nq).heap.size := hTn
        replace hTn2 : ¬ (wr.drewN nq).heap.size = T := hTn2
        replace HO := Lib.hid (HO.out.drewN nq)
        replace H := Lib.hid (H.out.drewN nq)
        replace HK := Lib.hid (HK.out.drewN nq)
        replace ol := Lib.hid (ol.drewN nq)
        replace om := Lib.hid (om.drewN nq)
        generalize hwq : wr.drewN nq = wq at *
        replace hwq := Lib.hid hwq
        have hsl := fun wx => run_tail g off cap l.length wx
        obtain ⟨VA, VC, hV⟩ : ∃ A c, tailV g off cap l.length 2 = .slice A l.length c := ⟨_, _, rfl⟩
        rw [hV] at hsl
        replace hV := Lib.hid hV
        have hlm := lmin_head HS.out
        have hlx := lmax_head HS.out
        go_wp2_with fail
        have K0 : Keeps (fun k => k < wq.heap.size ∧ k ≠ T) wq ((wq.setCell ⟨T, 1, none⟩ (.slice VA l.length VC)).alloc (.cells #[.int .i64 s.1, .int .i64 s.2] 156)) :=
          ((Keeps.refl _ wq).setCell (by simp) _).alloc (by simp [World.setCell]; omega) _
        have B0 : Blk ((wq.setCell ⟨T, 1, none⟩ (.slice VA l.length VC)).alloc (.cells #[.int .i64 s.1, .int .i64 s.2] 156)) T 253 _ := (H.out.blk.set_ 1 _).alloc _
        have O0 : Blk ((wq.setCell ⟨T, 1, none⟩ (.slice VA l.length VC)).alloc (.cells #[.int .i64 s.1, .int .i64 s.2] 156)) wq.heap.size 156 #[.int .i64 s.1, .int .i64 s.2] := by
          have := Blk.new (wq.setCell ⟨T, 1, none⟩ (.slice VA l.length VC)) 156 #[.int .i64 s.1, .int .i64 s.2]
          simpa [World.setCell] using this
        obtain ⟨O, hO⟩ : ∃ O, wq.heap.size = O := ⟨_, rfl⟩
        generalize hwa : (wq.setCell ⟨T, 1, none⟩ (.slice VA l.length VC)).alloc (.cells #[.int .i64 s.1, .int .i64 s.2] 156) = wa at *
        clear hwa
        have K0h := Lib.hid K0
        clear K0 c0 c1 c2 c3 c4 f1 f2 f3 f4 hTr
        rw [hO] at O0 hTn hTn2 ⊢
        replace hO := Lib.hid hO
        have c0 : wa.cell? ⟨T, 0, none⟩ = some (.pointer (some ⟨rb, ro, none⟩)) := B0.cell 0
        have c4 : wa.cell? ⟨T, 4, none⟩ = some (.int .i64 S) := (B0.cell 4).trans (by rw [← HSm.out]; rfl)
        have f4 : wa.frozen? ⟨T, 4, none⟩ = false := B0.frozen 4
        have o1 : wa.cell? ⟨O, 1, none⟩ = some (.int .i64 s.2) := O0.cell 1
        have B0h := Lib.hid B0
        have O0h := Lib.hid O0
        clear B0 O0
        go_region
        go_wp2_with fail
        have K1 : Keeps (fun k => k < wq.heap.size ∧ k ≠ T) wq (wa.setCell ⟨T, 4, none⟩ (.int .i64 (S - s.2))).drew := (K0h.out.setCell (by simp) _).drew
        have B1 : Blk (wa.setCell ⟨T, 4, none⟩ (.int .i64 (S - s.2))).drew T 253 (tkCells rb ro (.slice VA l.length VC) (.slice (some ⟨gl, offl, none⟩) (lmin (s :: l)).length capl) (.slice (some ⟨gm, offm, none⟩) (lmax (s :: l)).length capm) (S - s.2) t.state t.since t.firing t.began (clos ob)) := (B0h.out.set_ 4 _).drew
        have O1 : Blk (wa.setCell ⟨T, 4, none⟩ (.int .i64 (S - s.2))).drew O 156 #[.int .i64 s.1, .int .i64 s.2] := (O0h.out.far hTn2 _).drew
        generalize (wa.setCell ⟨T, 4, none⟩ (.int .i64 (S - s.2))).drew = wb at *
        have K1h := Lib.hid K1
        have B1h := Lib.hid B1
        have c0 : wb.cell? ⟨T, 0, none⟩ = some (.pointer (some ⟨rb, ro, none⟩)) := B1.cell 0
        have c2 : wb.cell? ⟨T, 2, none⟩ = some (.slice (some ⟨gl, offl, none⟩) (lmin (s :: l)).length capl) := B1.cell 2
        have c3 : wb.cell? ⟨T, 3, none⟩ = some (.slice (some ⟨gm, offm, none⟩) (lmax (s :: l)).length capm) := B1.cell 3
        have f2 : wb.frozen? ⟨T, 2, none⟩ = false := B1.frozen 2
        have f3 : wb.frozen? ⟨T, 3, none⟩ = false := B1.frozen 3
        have o0 : wb.cell? ⟨O, 0, none⟩ = some (.int .i64 s.1) := O1.cell 0
        have o1 : wb.cell? ⟨O, 1, none⟩ = some (.int .i64 s.2) := O1.cell 1
        have nl : gl ≠ T := fun e => (ol.out.ne_blk H.out.blk (by decide)) (by rw [← e]; rfl)
        have nm : gm ≠ T := fun e => (om.out.ne_blk H.out.blk (by decide)) (by rw [← e]; rfl)
        have OL : Own wb B 156 2 (.slice (some ⟨gl, offl, none⟩) (lmin (s :: l)).length capl) (lmin (s :: l)).length (flat (lmin (s :: l))) := ol.out.same fun g hg => K1.block g ⟨(ol.out.lt g hg).2, by cases hg; exact nl⟩
        have OM : Own wb B 156 2 (.slice (some ⟨gm, offm, none⟩) (lmax (s :: l)).length capm) (lmax (s :: l)).length (flat (lmax (s :: l))) := om.out.same fun g hg => K1.block g ⟨(om.out.lt g hg).2, by cases hg; exact nm⟩
        have O1' := O1
        clear K1 B1 O1 O0h B0h K0h
        have hlm2 : ∃ x m, lmin (s :: l) = x :: m ∧ ((x = s ∧ m = lmin l) ∨ (x.1 ≠ s.1 ∧ x :: m = lmin l)) := by
          rcases hlm with h | ⟨b, m, h, h2, h3⟩
          · exact ⟨s, _, h, .inl ⟨rfl, rfl⟩⟩
          · exact ⟨b, m, h, .inr ⟨h3, h2.symm⟩⟩
        have hlx2 : ∃ x m, lmax (s :: l) = x :: m ∧ ((x = s ∧ m = lmax l) ∨ (x.1 ≠ s.1 ∧ x :: m = lmax l)) := by
          rcases hlx with h | ⟨b, m, h, h2, h3⟩
          · exact ⟨s, _, h, .inl ⟨rfl, rfl⟩⟩
          · exact ⟨b, m, h, .inr ⟨h3, h2.symm⟩⟩
        obtain ⟨x, m, hxm, hxc⟩ := hlm2
        obtain ⟨y, n, hyn, hyc⟩ := hlx2
        rw [hxm] at OL c2 hmn B1h
        rw [hyn] at OM c3 hmx B1h
        simp only [List.length_cons] at OL OM c2 c3 hmn hmx B1h
        obtain ⟨p0, p1⟩ := OL.at_ (i := 0) (s := x) rfl
        obtain ⟨q0, q1⟩ := OM.at_ (i := 0) (s := y) rfl
        simp only [Nat.zero_mul, Nat.add_zero] at p0 p1 q0 q1
        have HXM := Lib.hid hxm
        have HYN := Lib.hid hyn
        have OLh := Lib.hid OL
        have OMh := Lib.hid OM
        clear hlm hlx OL OM hxm hyn
        have hsl2 := fun wx => run_tail gl offl capl m.length wx
        obtain ⟨UA, UC, hU⟩ : ∃ A c, tailV gl offl capl m.length 2 = .slice A m.length c := ⟨_, _, rfl⟩
        rw [hU] at hsl2
        replace hU := Lib.hid hU
        have hsl3 := fun wx => run_tail gm offm capm n.length wx
        obtain ⟨ZA, ZC, hZ⟩ : ∃ A c, tailV gm offm capm n.length 2 = .slice A n.length c := ⟨_, _, rfl⟩
        rw [hZ] at hsl3
        replace hZ := Lib.hid hZ
        have hk2 : (1 : Int) ≤ ((m.length + 1 : Nat) : Int) := by omega
        have hk3 : (1 : Int) ≤ ((n.length + 1 : Nat) : Int) := by omega
        have hxc' : (s = x ∧ m = lmin l) ∨ (x.1 ≠ s.1 ∧ x :: m = lmin l) := hxc.imp (fun h => ⟨h.1.symm, h.2⟩) id
        have hyc' : (s = y ∧ n = lmax l) ∨ (y.1 ≠ s.1 ∧ y :: n = lmax l) := hyc.imp (fun h => ⟨h.1.symm, h.2⟩) id
        replace hyc' := Lib.hid hyc'
        clear hxc hyc
        have hdone : ∀ wz L' M', Keeps (fun k => k < wq.heap.size ∧ k ≠ T) wq wz → Blk wz T 253 (tkCells rb ro (.slice VA l.length VC) L' M' (S - s.2) t.state t.since t.firing t.began (clos ob)) →
            Own wq B 156 2 L' (lmin l).length (flat (lmin l)) → L'.ownBlock = some gl → Own wq B 156 2 M' (lmax l).length (flat (lmax l)) → M'.ownBlock = some gm →
            (∃ l wv lv mv, TkV wz B F T ob rb ro r (t.with l) wv lv mv ov ∧ Keeps F w wz ∧ dropW r.long at_ l = dropW r.long at_ t.win ∧ GoodS l ∧ SortedS l ∧ l.length ≤ 1000000) ∧ winLen wz T < winLen wr T := by
          intro wz L' M' hkz hbz hL hLo hM hMo
          have hw := (HO.out.tail (k := 2) rfl)
          have hV' := hV.out
          unfold tailV at hV'
          rw [hV'] at hw
          refine ⟨⟨l, _, _, _, H.out.moved hkz (by rw [show sumV (t.with l).win = S - s.2 by show sumV l = _; rw [← HSm.out, sumV]; omega]; exact hbz) rfl hw.1 hL hM (hw.2.trans rfl) (hLo.trans rfl) (hMo.trans rfl), ?_, ?_, fun z hz => HG.out z (by simp [hz]), (List.pairwise_cons.1 HS.out).2, by omega⟩, ?_⟩
          · exact HK.out.trans (hkz.mono fun k hF => ⟨H.out.fB k hF, fun e => H.out.fT (e ▸ hF)⟩)
          · rw [← HD.out, dropW_cons, if_pos hle]
          · rw [HW.out]
            unfold winLen
            have := hbz.cell 1
            rw [show wz.cell? ⟨T, 1, none⟩ = some (.slice VA l.length VC) from this]
            exact Nat.lt_succ_self _
        replace hdone := Lib.hid hdone
        have hTl : Own wq B 156 2 (tailV gl offl capl m.length 2) m.length (flat m) ∧ (tailV gl offl capl m.length 2).ownBlock = some gl := by
          have h1 := ol.out
          rw [HXM.out] at h1
          exact h1.tail (k := 2) rfl
        have hTm : Own wq B 156 2 (tailV gm offm capm n.length 2) n.length (flat n) ∧ (tailV gm offm capm n.length 2).ownBlock = some gm := by
          have h1 := om.out
          rw [HYN.out] at h1
          exact h1.tail (k := 2) rfl
        rw [hU.out] at hTl
        rw [hZ.out] at hTm
        have hSl : Own wq B 156 2 (.slice (some ⟨gl, offl, none⟩) (m.length + 1) capl) (m.length + 1) (flat (x :: m)) := by
          have h1 := ol.out
          rw [HXM.out] at h1
          exact h1
        have hSm : Own wq B 156 2 (.slice (some ⟨gm, offm, none⟩) (n.length + 1) capm) (n.length + 1) (flat (y :: n)) := by
          have h1 := om.out
          rw [HYN.out] at h1
          exact h1
        replace hTl := Lib.hid hTl
        replace hTm := Lib.hid hTm
        replace hSl := Lib.hid hSl
        replace hSm := Lib.hid hSm
        have O1h := Lib.hid O1'
        clear O1' ol om OLh OMh HO HK HD HG HS H hV hU hZ hsm HSm HW
        have hfin : ∀ wc L', Keeps (fun k => k < wq.heap.size ∧ k ≠ T) wq wc → Blk wc T 253 (tkCells rb ro (.slice VA l.length VC) L' (.slice (some ⟨gm, offm, none⟩) (n.length + 1) capm) (S - s.2) t.state t.since t.firing t.began (clos ob)) →
            Blk wc O 156 #[.int .i64 s.1, .int .i64 s.2] → wc.cell? ⟨T, 0, none⟩ = some (.pointer (some ⟨rb, ro, none⟩)) ∧ wc.cell? ⟨T, 3, none⟩ = some (.slice (some ⟨gm, offm, none⟩) (n.length + 1) capm) ∧
            wc.frozen? ⟨T, 3, none⟩ = false ∧ wc.cell? ⟨O, 0, none⟩ = some (.int .i64 s.1) ∧ wc.cell? ⟨O, 1, none⟩ = some (.int .i64 s.2) ∧ wc.cell? ⟨gm, offm, none⟩ = some (.int .i64 y.1) ∧ wc.cell? ⟨gm, offm + 1, none⟩ = some (.int .i64 y.2) := by
          intro wc L' hk hb ho
          have hO := hSm.out.same (w' := wc) fun g hg => hk.block g ⟨(hSm.out.lt g hg).2, by cases hg; exact nm⟩
          obtain ⟨q0, q1⟩ := hO.at_ (i := 0) (s := y) rfl
          simp only [Nat.zero_mul, Nat.add_zero] at q0 q1
          exact ⟨hb.cell 0, hb.cell 3, hb.frozen 3, ho.cell 0, ho.cell 1, q0, q1⟩
        replace hfin := Lib.hid hfin
        rcases hxc' with ⟨rfl, hm⟩ | ⟨hx, hm⟩
        · replace hm := Lib.hid hm
          go_wp2_with fail
          go_quiet (fail)
          go_wp2_with fail
          have K2 := (K1h.out.drewN nq).setCell (p := ⟨T, 2, none⟩) (by simp) (.slice UA m.length UC)
          have B2 : Blk ((wb.drewN nq).setCell ⟨T, 2, none⟩ (.slice UA m.length UC)) T 253 (tkCells rb ro (.slice VA l.length VC) (.slice UA m.length UC) (.slice (some ⟨gm, offm, none⟩) (n.length + 1) capm) (S - s.2) t.state t.since t.firing t.began (clos ob)) := (B1h.out.drewN nq).set_ 2 _
          have O2 := (O1h.out.drewN nq).far (p := ⟨T, 2, none⟩) hTn2 (.slice UA m.length UC)
          have L2 : Own wq B 156 2 (.slice UA m.length UC) (lmin l).length (flat (lmin l)) ∧ (Value.slice UA m.length UC).ownBlock = some gl := by rw [← hm.out]; exact hTl.out
          generalize (wb.drewN nq).setCell ⟨T, 2, none⟩ (.slice UA m.length UC) = wc at *
          clear hm
          generalize Value.slice UA m.length UC = L' at B2 L2
          obtain ⟨c0, c3, f3, o0, o1, q0, q1⟩ := hfin.out wc L' K2 B2 O2
          replace K2 := Lib.hid K2
          replace B2 := Lib.hid B2
          replace L2 := Lib.hid L2
          clear O2 hfin hTl hSl
          rcases hyc'.out with ⟨rfl, hn⟩ | ⟨hy, hn⟩
          · have M2 : Own wq B 156 2 (.slice ZA n.length ZC) (lmax l).length (flat (lmax l)) ∧ (Value.slice ZA n.length ZC).ownBlock = some gm := by rw [← hn]; exact hTm.out
            replace M2 := Lib.hid M2
            clear hn hyc'
            go_wp2_with fail
            go_quiet (fail)
            go_wp2_with fail
            exact hdone.out _ L' _ ((K2.out.drewN _).setCell (by simp) _) ((B2.out.drewN _).set_ 3 _) L2.out.1 L2.out.2 M2.out.1 M2.out.2
          · have M2 : Own wq B 156 2 (.slice (some ⟨gm, offm, none⟩) (n.length + 1) capm) (lmax l).length (flat (lmax l)) := by rw [← hn]; exact hSm.out
            replace M2 := Lib.hid M2
            clear hn hyc'
            have hy2 : (y.1 == s.1) = false := by simpa using hy
            go_wp2_with fail
            go_quiet (fail)
            go_wp2_with fail
            exact hdone.out _ L' _ (K2.out.drewN _) (B2.out.drewN _) L2.out.1 L2.out.2 M2.out rfl
        · replace hm := Lib.hid hm
          have hx2 : (x.1 == s.1) = false := by simpa using hx
          go_wp2_with fail
          go_quiet (fail)
          have K2 := K1h.out.drewN nq
          have B2 : Blk (wb.drewN nq) T 253 (tkCells rb ro (.slice VA l.length VC) (.slice (some ⟨gl, offl, none⟩) (m.length + 1) capl) (.slice (some ⟨gm, offm, none⟩) (n.length + 1) capm) (S - s.2) t.state t.since t.firing t.began (clos ob)) := (B1h.out.drewN nq)
          have O2 := O1h.out.drewN nq
          have L2 : Own wq B 156 2 (.slice (some ⟨gl, offl, none⟩) (m.length + 1) capl) (lmin l).length (flat (lmin l)) ∧ (Value.slice (some ⟨gl, offl, none⟩) (m.length + 1) capl).ownBlock = some gl := by rw [← hm.out]; exact ⟨hSl.out, rfl⟩
          clear c0 c2 c3 f2 f3 o0 o1 p0 p1 q0 q1 B1h
          generalize wb.drewN nq = wc at *
          clear hm
          generalize Value.slice (some ⟨gl, offl, none⟩) (m.length + 1) capl = L' at B2 L2
          obtain ⟨c0, c3, f3, o0, o1, q0, q1⟩ := hfin.out wc L' K2 B2 O2
          replace K2 := Lib.hid K2
          replace B2 := Lib.hid B2
          replace L2 := Lib.hid L2
          clear O2 hfin hTl hSl
          rcases hyc'.out with ⟨rfl, hn⟩ | ⟨hy, hn⟩
          · have M2 : Own wq B 156 2 (.slice ZA n.length ZC) (lmax l).length (flat (lmax l)) ∧ (Value.slice ZA n.length ZC).ownBlock = some gm := by rw [← hn]; exact hTm.out
            replace M2 := Lib.hid M2
            clear hn hyc'
            go_wp2_with fail
            go_quiet (fail)
            go_wp2_with fail
            exact hdone.out _ L' _ ((K2.out.drewN _).setCell (by simp) _) ((B2.out.drewN _).set_ 3 _) L2.out.1 L2.out.2 M2.out.1 M2.out.2
          · have M2 : Own wq B 156 2 (.slice (some ⟨gm, offm, none⟩) (n.length + 1) capm) (lmax l).length (flat (lmax l)) := by rw [← hn]; exact hSm.out
            replace M2 := Lib.hid M2
            clear hn hyc'
            have hy2 : (y.1 == s.1) = false := by simpa using hy
            go_wp2_with fail
            go_quiet (fail)
            go_wp2_with fail
            exact hdone.out _ L' _ (K2.out.drewN _) (B2.out.drewN _) L2.out.1 L2.out.2 M2.out rfl
      · have H := Lib.hid h
        have HK := Lib.hid hk
        have HD := Lib.hid hd
        clear h hk hd hg hs hlen ho
        go_wp2_with fail
        have hd : decide (s.1 + r.long ≤ at_) = false := decide_eq_false (by omega)
        go_quiet (fail)
        go_wp2_with fail
        go_end0
        exact ⟨rfl, ⟨_, _, _, by rw [← HD.out, dropW_cons, if_neg (by omega)]; exact H.out.drewN _⟩, HK.out.drewN _⟩

end Go.Proofs.YteandmolnbcmmaaGreatDoor
