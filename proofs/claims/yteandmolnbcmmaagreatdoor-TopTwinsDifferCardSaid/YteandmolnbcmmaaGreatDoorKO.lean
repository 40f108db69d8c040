/- Walk: the closure that keeps the spans. Walk: (*track).advance. Walks: newTrack, spansOf. No condition beyond what each theorem states. -/
import Derived.Deep.LoopGhost
import Derived.Test.YteandmolnbcmmaaGreatDoorKN

namespace Go.Proofs.YteandmolnbcmmaaGreatDoor
open Go.RowKit Go.Sort

theorem info161 : (Tryz.prog.info? 161).map (fun i => (i.zero, i.size, i.bytes)) = some (some (.agg #[.int .i64 0, .int .i64 0]), 2, 16) := by kernel_rfl
theorem u158 : Tryz.prog.underlying 158 = some (.slice 161) := by kernel_rfl

/-- A store into a slice of the call's own. -/
theorem Own.setAt {w : World} {base : Nat} {e : TypeId} {k n g off cap : Nat} {xs : List Value} (h : Own w base e k (.slice (some ⟨g, off, none⟩) n cap) n xs) (j : Nat) (u : Value) :
    Own (w.setCell ⟨g, off + j, none⟩ u) base e k (.slice (some ⟨g, off, none⟩) n cap) n (xs.set j u) := by
  rcases h.2 with ⟨hv, _⟩ | ⟨g', off', cap', cur, hv, hb, hgg, hc, hm, hs, ht⟩
  · cases hv
  · simp only [Value.slice.injEq, Option.some.injEq, Addr.mk.injEq] at hv
    obtain ⟨⟨rfl, rfl, _⟩, _, rfl⟩ := hv
    refine ⟨by rw [List.length_set]; exact h.1, .inr ⟨g, off, cap, cur.setIfInBounds (off + j) u, rfl, hb, Blk.set_ hgg (off + j) u, hc, hm, by simpa using hs, ?_⟩⟩
    rw [← ht]
    simp only [Array.toList_setIfInBounds]
    rw [List.drop_set, if_neg (by omega), show off + j - off = j by omega, List.take_set]

theorem Own.free {w : World} {base : Nat} {e : TypeId} {k n g off cap : Nat} {xs : List Value} (h : Own w base e k (.slice (some ⟨g, off, none⟩) n cap) n xs) (j : Nat) : w.frozen? ⟨g, off + j, none⟩ = false := by
  rcases h.2 with ⟨hv, _⟩ | ⟨g', off', cap', cur, hv, hb, hgg, hc, hm, hs, ht⟩
  · cases hv
  · simp only [Value.slice.injEq, Option.some.injEq, Addr.mk.injEq] at hv
    obtain ⟨⟨rfl, rfl, _⟩, _, rfl⟩ := hv
    exact Blk.frozen hgg _

theorem flat_setTo (l : List Span) (h : l ≠ []) (a : Int) : flat (setTo l a) = (flat l).set ((l.length - 1) * 2 + 1) (.int .i64 a) := by
  obtain ⟨m, s, rfl⟩ : ∃ m s, l = m ++ [s] := ⟨l.dropLast, l.getLast h, (List.dropLast_concat_getLast h).symm⟩
  have : setTo (m ++ [s]) a = m ++ [(s.1, a)] := by simp [setTo]
  rw [this, flat_snoc, flat_snoc, List.length_append, List.length_singleton, Nat.add_sub_cancel, List.set_append]
  rw [flat_length, if_neg (by omega), show m.length * 2 + 1 - m.length * 2 = 1 by omega]
  rfl

/-- What the closure leaves. -/
def outOf (up : Bool) (a : Int) (l : List Span) : List Span := if up then l ++ [(a, END)] else setTo l a

structure Spun (w w' : World) (B ob : Nat) (ov ov' : Value) (out' : List Span) : Prop where
  outb : Blk w' ob 158 #[ov']
  oo : Own w' B 161 2 ov' out'.length (flat out')
  keeps : Keeps (fun k => k < w.heap.size ∧ k ≠ ob ∧ some k ≠ ov.ownBlock) w w'
  fresh : ov'.ownBlock = ov.ownBlock ∨ ∃ g, ov'.ownBlock = some g ∧ w.heap.size ≤ g

set_option maxHeartbeats 2000000 in
set_option maxRecDepth 100000 in
theorem changes_calls {w : World} {B ob : Nat} {ov : Value} {out : List Span} (hb : Blk w ob 158 #[ov]) (ho : Own w B 161 2 ov out.length (flat out)) (hB : B ≤ w.heap.size) (hlen : out.length ≤ 3000000) (a : Int) (up : Bool) (hne : up = false → out ≠ []) :
    Calls Tryz.prog 152 #[.int .i64 a, .bool up, .pointer (some ⟨ob, 0, none⟩)] w fun e w' => e = .returned (.tuple #[]) ∧ ∃ ov', Spun w w' B ob ov ov' (outOf up a out) := by
  obtain ⟨i0, hi0, hz0, hz1, hz2⟩ := info_parts info161
  have c0 : w.cell? ⟨ob, 0, none⟩ = some ov := hb.cell 0
  have f0 : w.frozen? ⟨ob, 0, none⟩ = false := hb.frozen 0
  have HB := Lib.hid hb
  have HO := Lib.hid ho
  cases up with
  | true =>
    clear hb ho hne
    go_enter Tryz.func152, Tryz.ntmps152
    go_wp2_with
      (at_builtin; refine wpList_append_Own _ (by rfl) _ _ _ (by rfl) B 161 i0 _ 2 16 u158 hi0 hz0 hz1 hz2 rfl (by omega) ov out.length (flat out) (by rfl) (HO.out.alloc _)
          ⟨w.heap.size, 0, none⟩ 1 1 [.int .i64 a, .int .i64 345686400000] (by rfl) (by rfl) (World.news_of_block (cs := #[.int .i64 a, .int .i64 345686400000]) (t := 161) (fr := (0, 0)) (heap_alloc_new w _)) (by simp [Value.oneCell'])
          (by unfold maxLen; omega) (by omega) (by simp; omega) ?_; intro v' w2 hown2 hgrow hfr; obtain ⟨vA, vC, hv', hvc⟩ := hown2.slice; rw [hv']; have hn1 : ov.ownBlock ≠ some ob := HO.out.ne_blk HB.out (by decide); have hf2 : w2.frozen? ⟨ob, 0, none⟩ = false := ((HB.out.alloc _).grown hgrow (Ne.symm hn1)).frozen 0; have hc2 : w2.cell? ⟨ob, 0, none⟩ = some ov := ((HB.out.alloc _).grown hgrow (Ne.symm hn1)).cell 0)
    go_end0
    refine ⟨rfl, .slice vA (out.length + 1) vC, ?_, ?_, ?_, ?_⟩
    · exact ((HB.out.alloc _).grown hgrow (Ne.symm hn1)).set_ 0 _
    · rw [← hv']
      unfold outOf
      rw [if_pos rfl, flat_snoc, List.length_append]
      refine hown2.same fun g hg => Below.heap_setCell _ _ _ _ fun e => ?_
      exact hown2.ne_blk ((HB.out.alloc _).grown hgrow (Ne.symm hn1)) (by decide) (hg.trans (congrArg some e))
    · exact (((Keeps.refl _ w).alloc (fun _ h => h.1) _).trans ((Keeps.refl _ _).grown hgrow (fun k h => Nat.lt_of_lt_of_le h.1 (by simp)) (fun k e h => h.2.2 e.symm))).setCell (fun h => h.2.1 rfl) _
    · rw [← hv']
      exact hfr.imp id fun ⟨g, h1, h2⟩ => ⟨g, h1, by simp at h2; omega⟩
  | false =>
    replace hne : out ≠ [] := hne rfl
    have hpos : 0 < out.length := List.length_pos_iff.2 hne
    obtain ⟨g, off, cap, rfl, hcap, _, _⟩ := ho.form hpos
    have hx : ∃ u, w.cell? ⟨g, off + (out.length - 1) * 2 + 1, none⟩ = some u := by
      obtain ⟨_, d⟩ := ho.at_ (i := out.length - 1) (s := out[out.length - 1]'(by omega)) (List.getElem?_eq_getElem (by omega))
      exact ⟨_, d⟩
    obtain ⟨u, d1⟩ := hx
    have f1 : w.frozen? ⟨g, off + (out.length - 1) * 2 + 1, none⟩ = false := by rw [Nat.add_assoc]; exact ho.free _
    have w3 : IntKind.i64.wrap ((out.length : Int) - 1) = (out.length : Int) - 1 := IntWalk.i64_in _ (by omega)
    have w4 : ((out.length : Int) - 1).toNat = out.length - 1 := by omega
    have w5 : (0 : Int) ≤ (out.length : Int) - 1 := by omega
    have w6 : (1 : Int) ≤ (out.length : Int) := by omega
    clear hb ho
    go_enter Tryz.func152, Tryz.ntmps152
    go_wp2_with fail
    go_end0
    have hgo : g ≠ ob := fun e => HO.out.ne_blk HB.out (by decide) (by rw [← e]; rfl)
    refine ⟨rfl, .slice (some ⟨g, off, none⟩) out.length cap, ?_, ?_, ?_, .inl rfl⟩
    · exact HB.out.far (fun e => hgo e.symm) _
    · unfold outOf
      rw [if_neg (by simp), flat_setTo out hne, setTo_length _ hne, Nat.add_assoc]
      exact HO.out.setAt _ _
    · exact (Keeps.refl _ w).setCell (fun h => h.2.2 rfl) _

end Go.Proofs.YteandmolnbcmmaaGreatDoor

namespace Go.Proofs.YteandmolnbcmmaaGreatDoor
open Go.RowKit Go.Sort

section
variable {w w' : World} {B T ob rb ro : Nat} {F : Nat → Prop} {r : Rule} {t : Tk} {wv lv mv ov ov' : Value} {out' : List Span}

theorem TkV.spun (h : TkV w B F T ob rb ro r t wv lv mv ov) (hs : Spun w w' B ob ov ov' out') : TkV w' B F T ob rb ro r { t with out := out' } wv lv mv ov' ∧ Keeps F w w' := by
  have hk := hs.keeps
  have nOv : ∀ g t cs, Blk w g t cs → t ≠ 161 → some g ≠ ov.ownBlock := fun g t cs hb ht e => h.oo.ne_blk hb (fun e => ht e.symm) e.symm
  have hb : ∀ g t cs, Blk w g t cs → t ≠ 161 → t ≠ 158 → w'.heap[g]? = w.heap[g]? := fun g t cs hb h1 h2 => hk.block g ⟨hb.lt, blk_ne hb h.outb h2, nOv g t cs hb h1⟩
  have ho : ∀ {u : Value} {n : Nat} {xs : List Value}, Own w B 156 2 u n xs → Own w' B 156 2 u n xs := fun hu => hu.same fun g hg => by obtain ⟨cs, hc⟩ := hu.blk hg; exact hb g _ _ hc (by decide) (by decide)
  have nF : ∀ k, F k → k < w.heap.size ∧ k ≠ ob ∧ some k ≠ ov.ownBlock := fun k hF => ⟨h.fB k hF, fun e => h.fo (e ▸ hF), fun e => h.fv k e.symm hF⟩
  exact ⟨
  { blk := (hb T _ _ h.blk (by decide) (by decide)).trans h.blk
    outb := hs.outb
    ow := ho h.ow
    ol := ho h.ol
    om := ho h.om
    oo := hs.oo
    wl := h.wl
    wm := h.wm
    lm := h.lm
    fT := h.fT
    fo := h.fo
    fw := h.fw
    fl := h.fl
    fm := h.fm
    fv := fun g hg hF => by
      rcases hs.fresh with e | ⟨g', e, hlt⟩
      · exact h.fv g (e ▸ hg) hF
      · rw [e] at hg
        cases hg
        exact absurd (h.fB g hF) (by omega)
    fB := fun k hF => Nat.lt_of_lt_of_le (h.fB k hF) hk.size
    fr := h.fr
    rule := hk.cells (nF rb h.fr) h.rule
    base := Nat.le_trans h.base hk.size }, hk.mono nF⟩
end

theorem upd_since (r : Rule) (a : Int) (t : Tk) (h : 0 ≤ t.since ∧ t.since ≤ END) (ha : 0 ≤ a ∧ a < END) : 0 ≤ (upd r a t).since ∧ (upd r a t).since ≤ END := by
  unfold upd
  split
  · exact h
  · dsimp only; omega

theorem upd_keeps (r : Rule) (a : Int) (t : Tk) : (upd r a t).firing = t.firing ∧ (upd r a t).out = t.out ∧ (upd r a t).win = t.win := by
  unfold upd
  split <;> exact ⟨rfl, rfl, rfl⟩

theorem stepAt_eq (r : Rule) (a : Int) (t v : Tk) (hv : upd r a (t.with (dropW r.long a t.win)) = v) : stepAt r a t = if turnOf r v = a then toggle a v else v := by
  subst hv
  rfl

set_option maxHeartbeats 4000000 in
set_option maxRecDepth 100000 in
theorem advance_calls {w : World} {B T ob rb ro : Nat} {F : Nat → Prop} {r : Rule} {t : Tk} {p : Nat} (h : TkAt w B F T ob rb ro r t) (hr : GoodR r) (hi : Inv r p t) (hp : p ≤ 1000000) (before : Int) :
    Calls Tryz.prog 153 #[.pointer (some ⟨T, 0, none⟩), .int .i64 before] w fun e w' => e = .returned (.tuple #[]) ∧ TkAt w' B F T ob rb ro r (adv r before t) ∧ Keeps F w w' := by
  have HT := Lib.hid h
  have HR := Lib.hid hr
  have HI := Lib.hid hi
  clear h hr hi
  go_enter Tryz.func153, Tryz.ntmps153
  go_wp2_with fail
  go_loopg [4] (pot r t) (fun g _ wr => ∃ u, pot r u = g ∧ TkAt wr B F T ob rb ro r u ∧ Keeps F w wr ∧ Inv r p u ∧ adv r before u = adv r before t)
  case atStart => exact ⟨t, rfl, HT.out, Keeps.refl _ _, HI.out, rfl⟩
  case round =>
    obtain ⟨u, rfl, ⟨wv, lv, mv, ov, hV⟩, hK, hI, hA⟩ := hrel
    have hdue := due_calls r u T rb ro B wv lv mv _ _ _ wr HR.out hI.since hI.good hV.blk hV.rule hV.ow (Nat.le_trans hI.few hp)
    have hnn := dueOf_nonneg HR.out hI
    obtain ⟨d, hd⟩ : ∃ d, dueOf r u = d := ⟨_, rfl⟩
    rw [hd] at hdue hnn
    have HV := Lib.hid hV
    have HK := Lib.hid hK
    have HI2 := Lib.hid hI
    have HA := Lib.hid hA
    have HD := Lib.hid hd
    have HDue := Lib.hid hdue
    clear hV hK hI hA hd hdue
    go_wp2_with fail
    refine HDue.out.mono ?_
    rintro e w1 ⟨rfl, n, rfl⟩
    by_cases hst : min before END ≤ d
    · have hb : decide (min before 345686400000 ≤ d) = true := decide_eq_true hst
      go_wp2_with fail
      (try simp only [Exit.inBlock, Exit.then])
      refine bodyPost_ret (results_none rfl _ _ _) rfl ?_
      refine ⟨rfl, ?_, HK.out.drewN _⟩
      rw [← HA.out, adv_stop (by rw [HD.out]; exact hst)]
      exact ⟨_, _, _, _, HV.out.drewN _⟩
    · have hb : decide (min before 345686400000 ≤ d) = false := decide_eq_false hst
      go_wp2_with fail
      have hlt : d < END := by omega
      refine (drop_calls (HV.out.drewN n) HR.out HI2.out.good HI2.out.sorted (Nat.le_trans HI2.out.few hp) d).mono ?_
      rintro e w2 ⟨rfl, ⟨wv2, lv2, mv2, hV2⟩, hk2⟩
      have HV2 := Lib.hid hV2
      have HK2 := Lib.hid ((HK.out.drewN n).trans hk2)
      clear hV2 hk2 HV HK HDue
      go_wp2_with fail
      refine (update_calls HV2.out HR.out (dropW_good HI2.out.good) (Nat.le_trans (dropW_length _ _ _) (Nat.le_trans HI2.out.few hp)) d).mono ?_
      rintro e w3 ⟨rfl, hV3, hk3⟩
      obtain ⟨v, hv⟩ : ∃ v, upd r d (u.with (dropW r.long d u.win)) = v := ⟨_, rfl⟩
      rw [hv] at hV3
      have hvs : 0 ≤ v.since ∧ v.since ≤ END := by rw [← hv]; exact upd_since r d _ HI2.out.since ⟨hnn, hlt⟩
      have hvf : v.firing = u.firing := by rw [← hv]; exact (upd_keeps r d _).1
      have hvo : v.out = u.out := by rw [← hv]; exact (upd_keeps r d _).2.1
      have hstep : stepAt r (dueOf r u) u = if turnOf r v = d then toggle d v else v := by
        rw [HD.out]
        exact stepAt_eq r d u v hv
      have hinv := stepAt_inv HI2.out (by rw [HD.out]; exact hnn) (by rw [HD.out]; exact hlt)
      have hpot := stepAt_pot HI2.out (by rw [HD.out]; exact hlt)
      have hadv := adv_step (before := before) HR.out HI2.out (by rw [HD.out]; omega)
      have HS := Lib.hid hstep
      have HN := Lib.hid hinv
      have HP := Lib.hid hpot
      have HAd := Lib.hid hadv
      have HV3 := Lib.hid hV3
      have HK3 := Lib.hid (HK2.out.trans hk3)
      have HTu := Lib.hid (turn_calls r v T rb ro wv2 lv2 mv2 (sumV v.win) v.began (clos ob) w3 HR.out hvs hV3.blk hV3.rule)
      have hsome := Lib.hid HI2.out.some
      have hroom := HI2.out.room
      have hon : u.out.length ≤ 3000000 := by
        clear hb
        split at hroom <;> omega
      rw [← hvo] at hon
      replace hvo := Lib.hid hvo
      clear hv hstep hinv hpot hadv hV3 hk3 HV2 HK2 hroom
      go_wp2_with fail
      refine HTu.out.mono ?_
      rintro e w4 ⟨rfl, m, rfl⟩
      clear HTu
      have HV4 := Lib.hid (HV3.out.drewN m)
      have HK4 := Lib.hid (HK3.out.drewN m)
      clear HV3 HK3
      generalize w3.drewN m = w4 at *
      have c7 : w4.cell? ⟨T, 7, none⟩ = some (.bool v.firing) := HV4.out.blk.cell 7
      have f7 : w4.frozen? ⟨T, 7, none⟩ = false := HV4.out.blk.frozen 7
      have c8 : w4.cell? ⟨T, 8, none⟩ = some (.int .i64 v.began) := HV4.out.blk.cell 8
      have f8 : w4.frozen? ⟨T, 8, none⟩ = false := HV4.out.blk.frozen 8
      have c9 : w4.cell? ⟨T, 9, none⟩ = some (clos ob) := HV4.out.blk.cell 9
      unfold clos at c9
      have hTob : ¬ T = ob := fun e => blk_ne HV4.out.outb HV4.out.blk (by decide) e.symm
      by_cases htu : turnOf r v = d
      · have hbt : (turnOf r v == d) = true := by simpa using htu
        cases hf : v.firing with
        | false =>
          rw [hf] at c7
          replace hf := Lib.hid hf
          go_wp2_with fail
          have V5 : TkV ((w4.setCell ⟨T, 7, none⟩ (.bool true)).setCell ⟨T, 8, none⟩ (.int .i64 d)) B F T ob rb ro r { v with firing := true, began := d } wv2 lv2 mv2 ov := HV4.out.turned (by simp [World.setCell]) (fun k _ hkT => by (repeat rw [Below.heap_setCell _ _ _ _ hkT])) ((HV4.out.blk.set_ 7 _).set_ 8 _) rfl rfl
          have K5 : Keeps F w4 ((w4.setCell ⟨T, 7, none⟩ (.bool true)).setCell ⟨T, 8, none⟩ (.int .i64 d)) := ((Keeps.refl F w4).setCell HV4.out.fT _).setCell HV4.out.fT _
          generalize ((w4.setCell ⟨T, 7, none⟩ (.bool true)).setCell ⟨T, 8, none⟩ (.int .i64 d)) = w5 at *
          clear c7 c8 c9 f7 f8
          have c9 : w5.cell? ⟨T, 9, none⟩ = some (clos ob) := V5.blk.cell 9
          unfold clos at c9
          have c7 : w5.cell? ⟨T, 7, none⟩ = some (.bool true) := V5.blk.cell 7
          replace V5 := Lib.hid V5
          replace K5 := Lib.hid K5
          refine wp_region_still_tail 9 (by kernel_rfl) (by kernel_rfl) ?_
          change wpStill _ _ w5.drew _ _ _
          simp only [List.take_succ_cons, List.take_zero, List.drop_succ_cons, List.drop_zero]
          repeat still_step
          refine wpStill_nil ?_
          change wpList _ _ _ _ _ w5.drew
          go_wp2_with fail
          refine (changes_calls (w := w5.drew) V5.out.drew.outb V5.out.drew.oo V5.out.drew.base hon d true (by simp)).mono ?_
          rintro e w6 ⟨rfl, ov', hsp⟩
          have h6 := V5.out.drew.spun hsp
          have HV6 := Lib.hid h6.1
          have HK6 := Lib.hid (((HK4.out.trans K5.out).drew).trans h6.2)
          clear h6 hsp V5 K5 c7 c9
          go_wp2_with fail
          go_roundg (pot r (stepAt r (dueOf r u) u))
          case rel =>
            refine ⟨_, rfl, ?_, HK6.out, HN.out, HAd.out.symm.trans HA.out⟩
            rw [HS.out, if_pos htu]
            have htg : toggle d v = { v with firing := true, began := d, out := outOf true d v.out } := by
              unfold toggle
              rw [hf.out]
              rfl
            rw [htg]
            exact ⟨_, _, _, _, HV6.out⟩
          case measure => exact HP.out
        | true =>
          rw [hf] at c7
          replace hf := Lib.hid hf
          go_wp2_with fail
          have V5 : TkV (w4.setCell ⟨T, 7, none⟩ (.bool false)) B F T ob rb ro r { v with firing := false } wv2 lv2 mv2 ov := HV4.out.turned (by simp [World.setCell]) (fun k _ hkT => by (repeat rw [Below.heap_setCell _ _ _ _ hkT])) (HV4.out.blk.set_ 7 _) rfl rfl
          have K5 : Keeps F w4 (w4.setCell ⟨T, 7, none⟩ (.bool false)) := (Keeps.refl F w4).setCell HV4.out.fT _
          generalize (w4.setCell ⟨T, 7, none⟩ (.bool false)) = w5 at *
          clear c7 c8 c9 f7 f8
          have c9 : w5.cell? ⟨T, 9, none⟩ = some (clos ob) := V5.blk.cell 9
          unfold clos at c9
          have c7 : w5.cell? ⟨T, 7, none⟩ = some (.bool false) := V5.blk.cell 7
          replace V5 := Lib.hid V5
          replace K5 := Lib.hid K5
          refine wp_region_still_tail 9 (by kernel_rfl) (by kernel_rfl) ?_
          change wpStill _ _ w5.drew _ _ _
          simp only [List.take_succ_cons, List.take_zero, List.drop_succ_cons, List.drop_zero]
          repeat still_step
          refine wpStill_nil ?_
          change wpList _ _ _ _ _ w5.drew
          go_wp2_with fail
          refine (changes_calls (w := w5.drew) V5.out.drew.outb V5.out.drew.oo V5.out.drew.base hon d false (fun _ => by rw [hvo.out]; exact hsome.out (hvf ▸ hf.out))).mono ?_
          rintro e w6 ⟨rfl, ov', hsp⟩
          have h6 := V5.out.drew.spun hsp
          have HV6 := Lib.hid h6.1
          have HK6 := Lib.hid (((HK4.out.trans K5.out).drew).trans h6.2)
          clear h6 hsp V5 K5 c7 c9
          go_wp2_with fail
          go_roundg (pot r (stepAt r (dueOf r u) u))
          case rel =>
            refine ⟨_, rfl, ?_, HK6.out, HN.out, HAd.out.symm.trans HA.out⟩
            rw [HS.out, if_pos htu]
            have htg : toggle d v = { v with firing := false, out := outOf false d v.out } := by
              unfold toggle
              rw [hf.out]
              rfl
            rw [htg]
            exact ⟨_, _, _, _, HV6.out⟩
          case measure => exact HP.out
      · have hbt : (turnOf r v == d) = false := by simpa using htu
        go_wp2_with fail
        go_roundg (pot r (stepAt r (dueOf r u) u))
        case rel => exact ⟨_, rfl, by rw [HS.out, if_neg htu]; exact ⟨_, _, _, _, HV4.out⟩, HK4.out, HN.out, HAd.out.symm.trans HA.out⟩
        case measure => exact HP.out

end Go.Proofs.YteandmolnbcmmaaGreatDoor

namespace Go.Proofs.YteandmolnbcmmaaGreatDoor
open Go.RowKit Go.Sort

set_option maxHeartbeats 2000000 in
set_option maxRecDepth 100000 in
theorem newTrack_calls {w : World} {B ob rb ro : Nat} {F : Nat → Prop} {r : Rule} (hr : GoodR r) (hob : Blk w ob 158 #[.slice none 0 0]) (hF : ¬ F ob) (hFr : F rb) (hFB : ∀ k, F k → k < w.heap.size) (hc : Cells w rb ro (encR r)) (hB : B ≤ w.heap.size) :
    Calls Tryz.prog 151 #[.pointer (some ⟨rb, ro, none⟩), clos ob] w fun e w' => e = .returned (.pointer (some ⟨w.heap.size, 0, none⟩)) ∧ TkAt w' B F w.heap.size ob rb ro r (init r) ∧ Keeps F w w' := by
  obtain ⟨x, hx⟩ : ∃ x, nowOf r [] = x := ⟨_, rfl⟩
  have hi : init r = ⟨[], x, 0, false, 0, []⟩ := by unfold init; rw [hx]
  rw [hi]
  clear hi
  have HX := Lib.hid hx
  clear hx
  have V0 : TkV (w.alloc (.cells (tkCells rb ro (.slice none 0 0) (.slice none 0 0) (.slice none 0 0) 0 0 0 false 0 (clos ob)) 253)) B F w.heap.size ob rb ro r ⟨[], 0, 0, false, 0, []⟩ (.slice none 0 0) (.slice none 0 0) (.slice none 0 0) (.slice none 0 0) :=
  { blk := Blk.new w 253 _
    outb := hob.alloc _
    ow := Own.nil _ _ _ _
    ol := Own.nil _ _ _ _
    om := Own.nil _ _ _ _
    oo := Own.nil _ _ _ _
    wl := fun g h => by cases h
    wm := fun g h => by cases h
    lm := fun g h => by cases h
    fT := fun h => Nat.lt_irrefl _ (hFB _ h)
    fo := hF
    fw := fun g h => by cases h
    fl := fun g h => by cases h
    fm := fun g h => by cases h
    fv := fun g h => by cases h
    fB := fun k h => Nat.lt_of_lt_of_le (hFB k h) (by simp)
    fr := hFr
    rule := ((Keeps.refl F w).alloc hFB _).cells hFr hc
    base := Nat.le_trans hB (by simp) }
  have K0 := Lib.hid ((Keeps.refl F w).alloc hFB (.cells (tkCells rb ro (.slice none 0 0) (.slice none 0 0) (.slice none 0 0) 0 0 0 false 0 (clos ob)) 253))
  replace V0 := Lib.hid V0
  unfold tkCells clos at V0 K0
  clear hob hF hFr hFB hc hB
  unfold clos
  go_enter Tryz.func151, Tryz.ntmps151
  go_wp2_with fail
  have HN := now_calls V0.out hr (fun s hs => by simp at hs) (by simp)
  dsimp only at HN
  rw [HX.out] at HN
  refine HN.mono ?_
  clear HN
  rintro e w1 ⟨rfl, hg1⟩
  have V1 := V0.out.grows hg1
  have K1 := Lib.hid (K0.out.trans (Keeps.of_grows hg1 V0.out.fB))
  have c5 : w1.cell? ⟨w.heap.size, 5, none⟩ = some (.int .i64 0) := V1.blk.cell 5
  have f5 : w1.frozen? ⟨w.heap.size, 5, none⟩ = false := V1.blk.frozen 5
  replace V1 := Lib.hid V1
  clear V0 K0 hg1
  go_wp2_with fail
  go_ret
  refine ⟨rfl, ⟨_, _, _, _, V1.out.turned (t' := ⟨[], x, 0, false, 0, []⟩) (by simp [World.setCell]) (fun k _ hkT => by rw [Below.heap_setCell _ _ _ _ hkT]) (V1.out.blk.set_ 5 _) rfl rfl⟩, K1.out.setCell V1.out.fT _⟩

end Go.Proofs.YteandmolnbcmmaaGreatDoor
