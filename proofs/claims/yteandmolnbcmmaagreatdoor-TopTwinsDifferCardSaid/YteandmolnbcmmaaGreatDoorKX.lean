/- The closed facts: hub.offset. The closed facts: hub.Repair. The closed facts: tenant.isAct. No condition beyond what each theorem states. -/
import Derived.Test.YteandmolnbcmmaaGreatDoorKV
import Derived.Test.YteandmolnbcmmaaGreatDoorKW

namespace Go.Proofs.YteandmolnbcmmaaGreatDoor
open Go.RowKit Go.Sort

theorem encSm_len (s : Sm) : (encSm s).length = 2 := rfl
theorem encSm_one (x : Sm) : ∀ v ∈ encSm x, v.oneCell' = true := by
  intro v hv
  simp [encSm] at hv
  rcases hv with rfl | rfl <;> rfl

set_option maxHeartbeats 1000000 in
theorem edgeCmp_calls (x y : Sm) (w : World) : Calls Tryz.prog 178 #[.agg (encSm x).toArray, .agg (encSm y).toArray] w fun e w' => e = .returned (.int .i64 (iCmp x.1 y.1)) ∧ Grows w w' := by
  show Calls Tryz.prog 178 #[.agg #[.int .i64 x.1, .int .i64 x.2], .agg #[.int .i64 y.1, .int .i64 y.2]] w _
  have HG := Lib.hid (((Grows.refl w).alloc (.cells #[.int .i64 x.1, .int .i64 x.2] 243)).alloc (.cells #[.int .i64 y.1, .int .i64 y.2] 243))
  go_enter Tryz.func178, Tryz.ntmps178
  go_wp2_with (go_at_call 50; refine (cmpInt_calls _ _ _).mono ?_; rintro e w' ⟨rfl, rfl⟩)
  go_ret
  exact ⟨rfl, HG.out⟩

theorem sort177_calls {w : World} {base : Nat} {v : Value} {X : List Sm} (h : Own w base 243 2 v X.length (flatE encSm X)) (hn : X.length ≤ 100000000000000) :
    Calls Tryz.prog 177 #[v, .func (.func 178) #[] #[]] w fun e' w' => e' = .returned (.tuple #[]) ∧ (∃ Y : List Sm, Y.Perm X ∧ (Y.Pairwise fun a b => ¬ iCmp b.1 a.1 < 0) ∧ Own w' base 243 2 v X.length (flatE encSm Y)) ∧ Keeps (fun k => k < w.heap.size ∧ some k ≠ v.ownBlock) w w' :=
  sortF_calls Tryz.laysSort177 encSm_len encSm_one (fun w => Tryz.isAgg243 w) (fun w => Tryz.sizeOf243 w) (fun (x y : Sm) => iCmp x.1 y.1) (swo_iCmp fun (x : Sm) => x.1) 178 (enters_of Tryz.func178 (by kernel_rfl) rfl) edgeCmp_calls h hn

theorem two_sorted {Y : List Sm} (hp : Y.Perm [(5, 1), (6, -1)]) (hs : Y.Pairwise fun a b => ¬ iCmp b.1 a.1 < 0) : Y = [(5, 1), (6, -1)] := by
  match Y, hp.length_eq with
  | [x, y], _ =>
    have hx : x ∈ [((5 : Int), (1 : Int)), (6, -1)] := hp.subset (by simp)
    simp only [List.mem_cons, List.not_mem_nil, or_false] at hx
    rcases hx with rfl | rfl
    · have h1 := (List.perm_cons _).1 hp
      have := h1.subset (List.mem_singleton.2 rfl)
      simp only [List.mem_cons, List.not_mem_nil, or_false] at this
      rw [this]
    · have h1 := (List.perm_cons _).1 (hp.trans (List.Perm.swap _ _ _))
      have := h1.subset (List.mem_singleton.2 rfl)
      simp only [List.mem_cons, List.not_mem_nil, or_false] at this
      subst this
      have := (List.pairwise_cons.1 hs).1 (5, 1) (by simp)
      rw [iCmp_neg] at this
      omega

theorem info243 : (Tryz.prog.info? 243).map (fun i => (i.zero, i.size, i.bytes)) = some (some (.agg #[.int .i64 0, .int .i64 0]), 2, 16) := by kernel_rfl
theorem under241 : Tryz.prog.underlying 241 = some (.slice 243) := by kernel_rfl

set_option maxHeartbeats 4000000 in
set_option maxRecDepth 100000 in
theorem offset_calls (b : Nat) (w : World) (c0 : w.cell? ⟨b, 0, none⟩ = some (.string strH)) (c1 : w.cell? ⟨b, 1, none⟩ = some (.int .i64 10)) (c2 : w.cell? ⟨b, 2, none⟩ = some (.int .i64 15)) (c3 : w.cell? ⟨b, 3, none⟩ = some (.int .i64 10)) :
    Calls Tryz.prog 133 #[.slice (some ⟨b, 0, none⟩) 1 1, .string strH] w fun e w' => e = .returned (.tuple #[.agg #[.int .i64 5, .int .i64 5, .int .i64 1], .bool true]) ∧ Below w.heap.size w w' := by
  obtain ⟨i0, hi0, hz0, hz1, hz2⟩ := info_parts info243
  obtain ⟨h, hh⟩ : ∃ h, strH = h := ⟨_, rfl⟩
  rw [hh] at c0 ⊢
  clear hh
  have c0' := cell_alloc_old c0 (.cells #[.int .i64 0, .int .i64 0, .int .i64 0] 203)
  have c1' := cell_alloc_old c1 (.cells #[.int .i64 0, .int .i64 0, .int .i64 0] 203)
  have c2' := cell_alloc_old c2 (.cells #[.int .i64 0, .int .i64 0, .int .i64 0] 203)
  have c3' := cell_alloc_old c3 (.cells #[.int .i64 0, .int .i64 0, .int .i64 0] 203)
  clear c0 c1 c2 c3
  have G0 : Hid (Grows w (w.alloc (.cells #[.int .i64 0, .int .i64 0, .int .i64 0] 203))) := Lib.hid ((Grows.refl w).alloc _)
  have P0 := Lib.hid (Blk.new w 203 #[.int .i64 0, .int .i64 0, .int .i64 0])
  obtain ⟨W, hW⟩ : ∃ W, ((w.alloc (.cells #[.int .i64 0, .int .i64 0, .int .i64 0] 203)).alloc (.cells #[.string h, .int .i64 10, .int .i64 15, .int .i64 10] 86)).alloc (.cells #[.int .i64 5, .int .i64 1, .int .i64 6, .int .i64 (-1)] 243) = W := ⟨_, rfl⟩
  have N0 : ∀ j u, [Value.int .i64 5, .int .i64 1, .int .i64 6, .int .i64 (-1)][j]? = some u → (((w.alloc (.cells #[.int .i64 0, .int .i64 0, .int .i64 0] 203)).alloc (.cells #[.string h, .int .i64 10, .int .i64 15, .int .i64 10] 86)).alloc (.cells #[.int .i64 5, .int .i64 1, .int .i64 6, .int .i64 (-1)] 243)).cell? ((⟨w.heap.size + 1 + 1, 0, none⟩ : Addr).add j) = some u := by
    have := World.news_of_block (cs := #[.int .i64 5, .int .i64 1, .int .i64 6, .int .i64 (-1)]) (t := 243) (fr := (0, 0)) (heap_alloc_new ((w.alloc (.cells #[.int .i64 0, .int .i64 0, .int .i64 0] 203)).alloc (.cells #[.string h, .int .i64 10, .int .i64 15, .int .i64 10] 86)) (.cells #[.int .i64 5, .int .i64 1, .int .i64 6, .int .i64 (-1)] 243))
    simpa using this
  have HN := Lib.hid N0
  have BW : Hid (Below w.heap.size w W) := Lib.hid (by rw [← hW]; exact ((G0.out.alloc _).alloc _).below)
  have PW : Hid (Blk W w.heap.size 203 #[.int .i64 0, .int .i64 0, .int .i64 0]) := Lib.hid (by rw [← hW]; exact (P0.out.alloc _).alloc _)
  have HW := Lib.hid hW
  clear hW N0
  go_enter Tryz.func133, Tryz.ntmps133
  go_wp2
  refine wp_loop_rounds 2 ?_
  rw [rounds_succ]
  go_wp2_with (at_builtin; refine wpList_append_Own _ (by rfl) _ _ _ (by rfl) w.heap.size 243 i0 _ 2 16 under241 hi0 hz0 hz1 hz2 rfl (by omega) _ _ _ (by rfl) (Own.nil _ _ _ _) ⟨w.heap.size + 1 + 1, 0, none⟩ 2 2 [.int .i64 5, .int .i64 1, .int .i64 6, .int .i64 (-1)] (by rfl) (by rfl) HN.out (by simp [Value.oneCell']) (by unfold maxLen; omega) (by omega) (by simp; omega) ?_; intro v' w2 hown hgrow hfr)
  rw [HW.out] at hgrow
  have B2 : Hid (Below w.heap.size w w2) := Lib.hid (BW.out.grown hgrow BW.out.size (by intro k hk; simp [Value.ownBlock] at hk))
  have P2 : Hid (Blk w2 w.heap.size 203 #[.int .i64 0, .int .i64 0, .int .i64 0]) := Lib.hid (PW.out.grown hgrow (by simp [Value.ownBlock]))
  have O2 : Hid (Own w2 w.heap.size 243 2 v' [((5 : Int), (1 : Int)), (6, -1)].length (flatE encSm [((5 : Int), (1 : Int)), (6, -1)])) := Lib.hid hown
  clear hown hgrow hfr HN HW PW BW c0' c1' c2' c3'
  go_wp2_with fail
  rw [rounds_succ]
  go_wp2_with fail
  obtain ⟨g, off, cap, hv, _, _, _⟩ := O2.out.form (by decide)
  subst hv
  refine (sort177_calls O2.out (by decide)).mono ?_
  rintro e w3 ⟨rfl, ⟨Y, hp, hs, hO⟩, hK⟩
  have hY := two_sorted hp hs
  subst hY
  have B3 : Hid (Below w.heap.size w w3) := Lib.hid (((Keeps.of_below B2.out).trans (hK.mono fun k h => ⟨Nat.lt_of_lt_of_le h B2.out.size, fun e => by have := (O2.out.lt k e.symm).1; omega⟩)).below)
  have P3 : Hid (Blk w3 w.heap.size 203 #[.int .i64 0, .int .i64 0, .int .i64 0]) := Lib.hid (hK.blk P2.out ⟨P2.out.lt, fun e => O2.out.ne_blk P2.out (by decide) e.symm⟩)
  have d0 : w3.cell? ⟨g, off, none⟩ = some (.int .i64 5) := by simpa using hO.cell 0 _ rfl
  have d1 : w3.cell? ⟨g, off + 1, none⟩ = some (.int .i64 1) := hO.cell 1 _ rfl
  have d2 : w3.cell? ⟨g, off + 2, none⟩ = some (.int .i64 6) := hO.cell 2 _ rfl
  have d3 : w3.cell? ⟨g, off + 3, none⟩ = some (.int .i64 (-1)) := hO.cell 3 _ rfl
  clear hp hs hO hK P2 B2 O2
  go_wp2_with fail
  have hgl : g < w3.heap.size := World.block_lt_of_cell? w3 _ d0
  have hwl := P3.out.lt
  have P4 : Hid (Blk (w3.alloc (.cells #[.int .i64 0, .int .i64 0, .int .i64 0] 203)) w3.heap.size 203 #[.int .i64 0, .int .i64 0, .int .i64 0]) := Lib.hid (Blk.new _ _ _)
  have P5 : Hid (Blk (w3.alloc (.cells #[.int .i64 0, .int .i64 0, .int .i64 0] 203)) w.heap.size 203 #[.int .i64 0, .int .i64 0, .int .i64 0]) := Lib.hid (P3.out.alloc _)
  have B4 : Hid (Below w.heap.size w (w3.alloc (.cells #[.int .i64 0, .int .i64 0, .int .i64 0] 203))) := Lib.hid (B3.out.alloc B3.out.size _)
  replace d0 := cell_alloc_old d0 (.cells #[.int .i64 0, .int .i64 0, .int .i64 0] 203)
  replace d1 := cell_alloc_old d1 (.cells #[.int .i64 0, .int .i64 0, .int .i64 0] 203)
  replace d2 := cell_alloc_old d2 (.cells #[.int .i64 0, .int .i64 0, .int .i64 0] 203)
  replace d3 := cell_alloc_old d3 (.cells #[.int .i64 0, .int .i64 0, .int .i64 0] 203)
  obtain ⟨w4, hw4⟩ : ∃ W, w3.alloc (.cells #[.int .i64 0, .int .i64 0, .int .i64 0] 203) = W := ⟨_, rfl⟩
  obtain ⟨N, hN⟩ : ∃ N, w3.heap.size = N := ⟨_, rfl⟩
  rw [hw4] at P4 P5 B4 d0 d1 d2 d3
  rw [hN] at P4 hgl hwl
  rw [hw4, hN]
  clear hw4 hN B3 P3
  have n1 : ¬ g = N := by omega
  have n2 : ¬ N = g := by omega
  have n3 : ¬ w.heap.size = N := by omega
  have n4 : ¬ N = w.heap.size := by omega
  have b0 : w4.cell? ⟨N, 0, none⟩ = some (.int .i64 0) := P4.out.cell 0
  have b1 : w4.cell? ⟨N, 1, none⟩ = some (.int .i64 0) := P4.out.cell 1
  have b2 : w4.cell? ⟨N, 2, none⟩ = some (.int .i64 0) := P4.out.cell 2
  have f0 : w4.frozen? ⟨N, 0, none⟩ = false := P4.out.frozen 0
  have f1 : w4.frozen? ⟨N, 1, none⟩ = false := P4.out.frozen 1
  have f2 : w4.frozen? ⟨N, 2, none⟩ = false := P4.out.frozen 2
  refine wp_loop_rounds 2 ?_
  rw [rounds_succ]
  go_wp2_with fail
  refine wp_loop_rounds 2 ?_
  rw [rounds_succ]
  go_wp2_with fail
  rw [rounds_succ]
  go_wp2_with fail
  have P6 : Hid (Blk (((w4.setCell ⟨N, 0, none⟩ (.int .i64 5)).setCell ⟨N, 1, none⟩ (.int .i64 5)).setCell ⟨N, 2, none⟩ (.int .i64 1)) N 203 #[.int .i64 5, .int .i64 5, .int .i64 1]) := Lib.hid (((P4.out.set_ 0 _).set_ 1 _).set_ 2 _)
  have P7 : Hid (Blk (((w4.setCell ⟨N, 0, none⟩ (.int .i64 5)).setCell ⟨N, 1, none⟩ (.int .i64 5)).setCell ⟨N, 2, none⟩ (.int .i64 1)) w.heap.size 203 #[.int .i64 0, .int .i64 0, .int .i64 0]) := Lib.hid (((P5.out.far (p := ⟨N, 0, none⟩) n3 _).far (p := ⟨N, 1, none⟩) n3 _).far (p := ⟨N, 2, none⟩) n3 _)
  have B5 : Hid (Below w.heap.size w (((w4.setCell ⟨N, 0, none⟩ (.int .i64 5)).setCell ⟨N, 1, none⟩ (.int .i64 5)).setCell ⟨N, 2, none⟩ (.int .i64 1))) := Lib.hid (((B4.out.setCell (p := ⟨N, 0, none⟩) (by dsimp only; omega) _).setCell (p := ⟨N, 1, none⟩) (by dsimp only; omega) _).setCell (p := ⟨N, 2, none⟩) (by dsimp only; omega) _)
  have far : ∀ o v, w4.cell? ⟨g, o, none⟩ = some v → (((w4.setCell ⟨N, 0, none⟩ (.int .i64 5)).setCell ⟨N, 1, none⟩ (.int .i64 5)).setCell ⟨N, 2, none⟩ (.int .i64 1)).cell? ⟨g, o, none⟩ = some v := by
    intro o v hv
    rw [World.cell?_of_block (w := w4) ?_]
    · exact hv
    · exact ((Below.heap_setCell _ ⟨N, 2, none⟩ _ g n1).trans (Below.heap_setCell _ ⟨N, 1, none⟩ _ g n1)).trans (Below.heap_setCell w4 ⟨N, 0, none⟩ _ g n1)
  replace d0 := far _ _ d0
  replace d1 := far _ _ d1
  replace d2 := far _ _ d2
  replace d3 := far _ _ d3
  clear far b0 b1 b2 f0 f1 f2 P4 P5 B4
  generalize (((w4.setCell ⟨N, 0, none⟩ (.int .i64 5)).setCell ⟨N, 1, none⟩ (.int .i64 5)).setCell ⟨N, 2, none⟩ (.int .i64 1)) = w5 at *
  have b0 : w5.cell? ⟨N, 0, none⟩ = some (.int .i64 5) := P6.out.cell 0
  have b1 : w5.cell? ⟨N, 1, none⟩ = some (.int .i64 5) := P6.out.cell 1
  have b2 : w5.cell? ⟨N, 2, none⟩ = some (.int .i64 1) := P6.out.cell 2
  have r0 : w5.cell? ⟨w.heap.size, 0, none⟩ = some (.int .i64 0) := P7.out.cell 0
  have r1 : w5.cell? ⟨w.heap.size, 1, none⟩ = some (.int .i64 0) := P7.out.cell 1
  have r2 : w5.cell? ⟨w.heap.size, 2, none⟩ = some (.int .i64 0) := P7.out.cell 2
  have f0 : w5.frozen? ⟨w.heap.size, 0, none⟩ = false := P7.out.frozen 0
  have f1 : w5.frozen? ⟨w.heap.size, 1, none⟩ = false := P7.out.frozen 1
  have f2 : w5.frozen? ⟨w.heap.size, 2, none⟩ = false := P7.out.frozen 2
  rw [rounds_succ]
  go_wp2_with fail
  refine wp_loop_rounds 2 ?_
  rw [rounds_succ]
  go_wp2_with fail
  rw [rounds_succ]
  go_wp2_with fail
  go_region
  go_wp2_with fail
  have P8 : Blk (((w5.setCell ⟨w.heap.size, 0, none⟩ (.int .i64 5)).setCell ⟨w.heap.size, 1, none⟩ (.int .i64 5)).setCell ⟨w.heap.size, 2, none⟩ (.int .i64 1)).drew w.heap.size 203 #[.int .i64 5, .int .i64 5, .int .i64 1] := ((P7.out.set_ 0 _).set_ 1 _).set_ 2 _
  have B8 : Hid (Below w.heap.size w (((w5.setCell ⟨w.heap.size, 0, none⟩ (.int .i64 5)).setCell ⟨w.heap.size, 1, none⟩ (.int .i64 5)).setCell ⟨w.heap.size, 2, none⟩ (.int .i64 1)).drew) := Lib.hid ((((B5.out.setCell (p := ⟨w.heap.size, 0, none⟩) (Nat.le_refl _) _).setCell (p := ⟨w.heap.size, 1, none⟩) (Nat.le_refl _) _).setCell (p := ⟨w.heap.size, 2, none⟩) (Nat.le_refl _) _).drew)
  clear r0 r1 r2 f0 f1 f2
  generalize (((w5.setCell ⟨w.heap.size, 0, none⟩ (.int .i64 5)).setCell ⟨w.heap.size, 1, none⟩ (.int .i64 5)).setCell ⟨w.heap.size, 2, none⟩ (.int .i64 1)).drew = w6 at *
  have r0 : w6.cell? ⟨w.heap.size, 0, none⟩ = some (.int .i64 5) := P8.cell 0
  have r1 : w6.cell? ⟨w.heap.size, 1, none⟩ = some (.int .i64 5) := P8.cell 1
  have r2 : w6.cell? ⟨w.heap.size, 2, none⟩ = some (.int .i64 1) := P8.cell 2
  exact bodyPost_ret (v := .tuple #[.agg #[.int .i64 5, .int .i64 5, .int .i64 1], .bool true]) (by simp [results, Tryz.results133, go_sem, r0, r1, r2]) rfl ⟨rfl, B8.out⟩

end Go.Proofs.YteandmolnbcmmaaGreatDoor

namespace Go.Proofs.YteandmolnbcmmaaGreatDoor
open Go.RowKit Go.Sort

theorem MapIs.look_ok {P : Program} {k t e : TypeId} {w : World} {b n : Nat} {f : ByteArray → Option Value} (h : MapIs P k w b n f) (hk : P.underlying k = some .string) (ht : P.underlying t = some (.map k e)) {z : Value} (hz : (zeroValue e).run P w = .ok z w) (key : ByteArray) (hs : key.size ≤ maxLen) (hf0 : f key = none) :
    (Instr.lookup t (.map (some b)) (.string key) true).run P w = .ok (.tuple #[z, .bool false]) w := by
  obtain ⟨es, clock, hb, F, hn, hf⟩ := h
  obtain ⟨l, hl⟩ := keyOf_str hk key hs
  rcases Maps.fit_look true (Maps.string_keyed hk) ht hz hb F hl with ⟨hrun, hno, _⟩ | ⟨e0, y, hm, hke, hrun, _⟩
  · exact hrun
  · have : f key = some e0.val := (hf key e0.val hs).2 ⟨e0, hm, hke, rfl⟩
    rw [this] at hf0
    cases hf0

theorem under199 : Tryz.prog.underlying 199 = some (.map 9 3) := by kernel_rfl

set_option maxHeartbeats 1000000 in
theorem down_calls (w : World) : Calls Tryz.prog 134 #[.int .i64 10, .int .i64 2] w fun e w' => e = .returned (.int .i64 5) ∧ w = w' := by
  go_enter Tryz.func134, Tryz.ntmps134
  go_wp2
  go_ret
  exact ⟨rfl, rfl⟩

set_option maxHeartbeats 2000000 in
theorem repair_calls (b cb mb : Nat) (w : World) (c0 : w.cell? ⟨b, 0, none⟩ = some (.string strH)) (c1 : w.cell? ⟨b, 1, none⟩ = some (.int .i64 10)) (c2 : w.cell? ⟨b, 2, none⟩ = some (.int .i64 15)) (c3 : w.cell? ⟨b, 3, none⟩ = some (.int .i64 10))
    (hc : Blk w cb 201 #[.slice (some ⟨b, 0, none⟩) 1 1, .map (some mb)]) (hm : MapIs Tryz.prog 9 w mb 0 (fun _ => none)) :
    Calls Tryz.prog 86 #[.pointer (some ⟨cb, 0, none⟩), .string strH, .int .i64 20] w fun e w' => e = .returned (.int .i64 15) ∧ Keeps (fun k => k < w.heap.size ∧ k ≠ mb) w w' := by
  have l1 := hm.look_ok under9 under199 (Tryz.zeroValue3 w) strH strH_size rfl
  have H0 := Lib.hid (offset_calls b w c0 c1 c2 c3)
  have HM := Lib.hid hm
  have HC := Lib.hid hc
  have e0 : w.cell? ⟨cb, 0, none⟩ = some (.slice (some ⟨b, 0, none⟩) 1 1) := hc.cell 0
  have e1 : w.cell? ⟨cb, 1, none⟩ = some (.map (some mb)) := hc.cell 1
  have HS := Lib.hid strH_size
  obtain ⟨h, hh⟩ : ∃ h, strH = h := ⟨_, rfl⟩
  rw [hh] at l1 H0 HS ⊢
  clear c0 c1 c2 c3 hc hm hh
  go_enter Tryz.func86, Tryz.ntmps86
  go_wp2_with fail
  refine H0.out.mono ?_
  rintro e w2 ⟨rfl, hb⟩
  have e1' : w2.cell? ⟨cb, 1, none⟩ = some (.map (some mb)) := (Keeps.of_below hb).cell HC.out.lt e1
  have HM2 : Hid (MapIs Tryz.prog 9 (w2.alloc (.cells #[.int .i64 5, .int .i64 5, .int .i64 1] 203)) mb 0 (fun _ => none)) := Lib.hid ((HM.out.same (hb.block _ HM.out.lt)).same (Below.heap_alloc w2 _ mb (Nat.lt_of_lt_of_le HM.out.lt hb.size)))
  have HB := Lib.hid hb
  have e1'' := cell_alloc_old e1' (.cells #[.int .i64 5, .int .i64 5, .int .i64 1] 203)
  clear hb e0 e1 l1
  obtain ⟨w3, hrun, hM3, hK3⟩ := HM2.out.store under9 under199 (by unfold maxLen; omega) h HS.out (.int .i64 5)
  have HK3 : Hid (Keeps (fun k => k < w.heap.size ∧ k ≠ mb) w w3) := Lib.hid ((((Keeps.of_below HB.out).mono fun _ h => h.1).alloc (fun k h => Nat.lt_of_lt_of_le h.1 HB.out.size) _).trans (hK3.mono fun _ h => h.2))
  clear hM3 hK3
  go_wp2_with (go_at_call 134; refine (down_calls _).mono ?_; rintro e w' ⟨rfl, rfl⟩)
  go_ret
  exact ⟨rfl, HK3.out⟩

set_option maxHeartbeats 1000000 in
theorem hubFault_calls (b : Nat) (w : World) (c0 : w.cell? ⟨b, 0, none⟩ = some (.string strH)) (c1 : w.cell? ⟨b, 1, none⟩ = some (.int .i64 10)) (c2 : w.cell? ⟨b, 2, none⟩ = some (.int .i64 15)) (c3 : w.cell? ⟨b, 3, none⟩ = some (.int .i64 10)) :
    Calls Tryz.prog 84 #[.slice (some ⟨b, 0, none⟩) 1 1, .string strH] w fun e w' => e = .returned (.int .i64 0) ∧ Grows w w' := by
  have H0 := Lib.hid (checkPings_calls b w c0 c1 c2 c3)
  have H1 := Lib.hid keyH_calls
  obtain ⟨h, hh⟩ : ∃ h, strH = h := ⟨_, rfl⟩
  rw [hh] at H1 ⊢
  clear c0 c1 c2 c3 hh
  go_enter Tryz.func84, Tryz.ntmps84
  go_wp2_with fail
  refine H0.out.mono ?_
  rintro e w2 ⟨rfl, hg⟩
  have HG := Lib.hid hg
  clear hg
  go_wp2_with fail
  refine (H1.out _).mono ?_
  rintro e w3 ⟨rfl, rfl⟩
  go_wp2_with fail
  go_ret
  exact ⟨rfl, HG.out⟩

set_option maxHeartbeats 1000000 in
theorem newClocks_calls (b : Nat) (w : World) :
    Calls Tryz.prog 85 #[.slice (some ⟨b, 0, none⟩) 1 1] w fun e w' => e = .returned (.pointer (some ⟨w.heap.size + 1, 0, none⟩)) ∧ w' = (w.alloc (.map #[] 0)).alloc (.cells #[.slice (some ⟨b, 0, none⟩) 1 1, .map (some w.heap.size)] 201) := by
  have hmm := @run_makeMap Tryz.prog
  go_enter Tryz.func85, Tryz.ntmps85
  go_wp2
  go_ret
  exact ⟨rfl, rfl⟩

set_option maxHeartbeats 2000000 in
theorem repairTop_calls (b : Nat) (w : World) (c0 : w.cell? ⟨b, 0, none⟩ = some (.string strH)) (c1 : w.cell? ⟨b, 1, none⟩ = some (.int .i64 10)) (c2 : w.cell? ⟨b, 2, none⟩ = some (.int .i64 15)) (c3 : w.cell? ⟨b, 3, none⟩ = some (.int .i64 10)) :
    Calls Tryz.prog 46 #[.slice (some ⟨b, 0, none⟩) 1 1, .string strH, .int .i64 20] w fun e w' => e = .returned (.tuple #[.int .i64 15, .int .i64 0]) ∧ Below w.heap.size w w' := by
  have H0 := Lib.hid (hubFault_calls b w c0 c1 c2 c3)
  have H2 : Hid (∀ w2, Grows w w2 → Calls Tryz.prog 86 #[.pointer (some ⟨w2.heap.size + 1, 0, none⟩), .string strH, .int .i64 20] ((w2.alloc (.map #[] 0)).alloc (.cells #[.slice (some ⟨b, 0, none⟩) 1 1, .map (some w2.heap.size)] 201)) fun e w' => e = .returned (.int .i64 15) ∧ Keeps (· < w2.heap.size) w2 w') := Lib.hid fun w2 hg => by
    have hk := ((Grows.refl w2).alloc (.map #[] 0)).alloc (.cells #[.slice (some ⟨b, 0, none⟩) 1 1, .map (some w2.heap.size)] 201)
    have h := repair_calls b (w2.heap.size + 1) w2.heap.size ((w2.alloc (.map #[] 0)).alloc (.cells #[.slice (some ⟨b, 0, none⟩) 1 1, .map (some w2.heap.size)] 201)) (hk.cell (hg.cell c0)) (hk.cell (hg.cell c1)) (hk.cell (hg.cell c2)) (hk.cell (hg.cell c3))
      (by have := Blk.new (w2.alloc (.map #[] 0)) 201 #[.slice (some ⟨b, 0, none⟩) 1 1, .map (some w2.heap.size)]; simpa using this)
      ((MapIs.made Tryz.prog 9 w2).same (Below.heap_alloc _ _ _ (by simp)))
    exact h.mono fun e w' ⟨he, hk2⟩ => ⟨he, (Keeps.of_grows hk fun _ h => h).trans (hk2.mono fun k hk => ⟨by simp; omega, by omega⟩)⟩
  obtain ⟨h, hh⟩ : ∃ h, strH = h := ⟨_, rfl⟩
  rw [hh] at H0 H2 ⊢
  clear c0 c1 c2 c3 hh
  go_enter Tryz.func46, Tryz.ntmps46
  go_wp2_with fail
  refine H0.out.mono ?_
  rintro e w2 ⟨rfl, hg⟩
  have HG := Lib.hid hg
  clear hg
  go_wp2_with (first | (go_at_call 76; refine (momT_calls _ true (by decide) _).mono ?_; rintro e w' ⟨rfl, rfl⟩) | (go_at_call 85; refine (newClocks_calls _ _).mono ?_; rintro e w' ⟨rfl, rfl⟩))
  refine (H2.out w2 HG.out).mono ?_
  rintro e w3 ⟨rfl, hk⟩
  have HB := Lib.hid (((Keeps.of_below HG.out.below).trans (hk.mono fun k h => Nat.lt_of_lt_of_le h HG.out.below.size)).below)
  clear hk
  go_wp2_with fail
  go_ret2
  exact ⟨rfl, HB.out⟩

end Go.Proofs.YteandmolnbcmmaaGreatDoor

namespace Go.Proofs.YteandmolnbcmmaaGreatDoor
open Go.RowKit Go.Sort

def dot : ByteArray := ⟨#[46]⟩
def star : ByteArray := ⟨#[42]⟩
def sA : ByteArray := ⟨#[97]⟩
def sB : ByteArray := ⟨#[98]⟩
def sAB : ByteArray := ⟨#[97, 46, 98]⟩
def sAS : ByteArray := ⟨#[97, 46, 42]⟩
def sAd : ByteArray := ⟨#[97, 46]⟩

theorem index_calls (s : ByteArray) (i : Int) (h : Lib.indexByte s.data.toList 46 = i) (w : World) :
    Calls Tryz.prog 246 #[.string s, .string dot] w fun e w' => e = .returned (.int .i64 i) ∧ w = w' := by
  subst h
  exact (Any.stringslite_Index_one Tryz.lays219 s 46 w).mono fun _ _ ⟨he, hw⟩ => ⟨he, hw.symm⟩

set_option maxHeartbeats 1000000 in
theorem lcut_no (s : ByteArray) (h : Lib.indexByte s.data.toList 46 = -1) (w : World) :
    Calls Tryz.prog 209 #[.string s, .string dot] w fun e w' => e = .returned (.tuple #[.string s, .string ByteArray.empty, .bool false]) ∧ w = w' := by
  have H := Lib.hid h
  clear h
  go_enter Tryz.func209, Tryz.ntmps209
  go_wp2_with (go_at_call 246; refine (index_calls _ _ H.out _).mono ?_; rintro e w' ⟨rfl, rfl⟩)
  go_ret3
  exact ⟨rfl, rfl⟩

set_option maxHeartbeats 1000000 in
theorem cut_no (s : ByteArray) (h : Lib.indexByte s.data.toList 46 = -1) (w : World) :
    Calls Tryz.prog 173 #[.string s, .string dot] w fun e w' => e = .returned (.tuple #[.string s, .string ByteArray.empty, .bool false]) ∧ w = w' := by
  have H := Lib.hid h
  clear h
  go_enter Tryz.func173, Tryz.ntmps173
  go_wp2_with (go_at_call 209; refine (lcut_no _ H.out _).mono ?_; rintro e w' ⟨rfl, rfl⟩)
  go_ret3
  exact ⟨rfl, rfl⟩

set_option maxHeartbeats 1000000 in
theorem lcut_yes (w : World) :
    Calls Tryz.prog 209 #[.string sAB, .string dot] w fun e w' => e = .returned (.tuple #[.string sA, .string sB, .bool true]) ∧ Grows w w' := by
  have H := Lib.hid (show Lib.indexByte sAB.data.toList 46 = 1 by decide)
  have h1 : (1 : Int) ≤ (sAB.size : Int) := by decide
  have h2 : (2 : Int) ≤ (sAB.size : Int) := by decide
  have h3 : (dot.size : Int) = 1 := rfl
  go_enter Tryz.func209, Tryz.ntmps209
  go_wp2_with (go_at_call 246; refine (index_calls _ _ H.out _).mono ?_; rintro e w' ⟨rfl, rfl⟩)
  go_quiet (fail)
  go_wp2_with fail
  go_ret3
  refine ⟨?_, (Grows.refl w).drewN _⟩
  rw [show sAB.extract 0 1 = sA from by decide, show sAB.extract 2 sAB.size = sB from by decide]
  rfl

set_option maxHeartbeats 1000000 in
theorem cut_yes (w : World) :
    Calls Tryz.prog 173 #[.string sAB, .string dot] w fun e w' => e = .returned (.tuple #[.string sA, .string sB, .bool true]) ∧ Grows w w' := by
  have H := Lib.hid lcut_yes
  obtain ⟨s, hs⟩ : ∃ s, sAB = s := ⟨_, rfl⟩
  obtain ⟨a, ha⟩ : ∃ s, sA = s := ⟨_, rfl⟩
  obtain ⟨b, hb⟩ : ∃ s, sB = s := ⟨_, rfl⟩
  rw [hs, ha, hb] at H ⊢
  clear hs ha hb
  go_enter Tryz.func173, Tryz.ntmps173
  go_wp2_with fail
  refine (H.out _).mono ?_
  rintro e w' ⟨rfl, hg⟩
  have HG := Lib.hid hg
  clear hg
  go_wp2_with fail
  go_ret3
  exact ⟨rfl, HG.out⟩

theorem keyOf_calls (s : ByteArray) (h1 : s.size ≤ maxLen) (h : keyB s = true) (w : World) : Calls Tryz.prog 100 #[.string s] w fun e w' => e = .returned (.bool true) ∧ w = w' := by
  have := key_calls s w h1
  rw [h] at this
  exact this

set_option maxHeartbeats 1000000 in
theorem dotted_one (s : ByteArray) (n : Int) (h1 : s.size ≤ maxLen) (hk : keyB s = true) (hi : Lib.indexByte s.data.toList 46 = -1) (hn : 1 ≤ n) (w : World) :
    Calls Tryz.prog 129 #[.string s, .int .i64 n] w fun e w' => e = .returned (.bool true) ∧ w = w' := by
  have H1 := Lib.hid (cut_no s hi)
  have H2 := Lib.hid (keyOf_calls s h1 hk)
  have h0 : (0 : Int) < n := by omega
  clear h1 hk hi
  go_enter Tryz.func129, Tryz.ntmps129
  go_wp2
  refine wp_loop_rounds 1 ?_
  rw [rounds_succ]
  go_wp2_with (first | (go_at_call 173; refine (H1.out _).mono ?_; rintro e w' ⟨rfl, rfl⟩) | (go_at_call 100; refine (H2.out _).mono ?_; rintro e w' ⟨rfl, rfl⟩))
  go_ret
  exact ⟨rfl, rfl⟩

set_option maxHeartbeats 1000000 in
theorem dotted_two (w : World) : Calls Tryz.prog 129 #[.string sAB, .int .i64 5] w fun e w' => e = .returned (.bool true) ∧ Grows w w' := by
  have H1 := Lib.hid cut_yes
  have H2 := Lib.hid (keyOf_calls sA (by decide) (by decide))
  have H3 := Lib.hid (keyOf_calls sB (by decide) (by decide))
  have H4 := Lib.hid (cut_no sB (by decide))
  obtain ⟨s, hs⟩ : ∃ s, sAB = s := ⟨_, rfl⟩
  obtain ⟨a, ha⟩ : ∃ s, sA = s := ⟨_, rfl⟩
  obtain ⟨b, hb⟩ : ∃ s, sB = s := ⟨_, rfl⟩
  rw [hs, ha, hb] at H1
  rw [ha] at H2
  rw [hb] at H3 H4
  rw [hs]
  clear hs ha hb
  go_enter Tryz.func129, Tryz.ntmps129
  go_wp2
  refine wp_loop_rounds 2 ?_
  rw [rounds_succ]
  go_wp2_with fail
  refine (H1.out _).mono ?_
  rintro e w2 ⟨rfl, hg⟩
  have HG := Lib.hid hg
  clear hg
  go_wp2_with fail
  refine (H2.out _).mono ?_
  rintro e w3 ⟨rfl, rfl⟩
  go_wp2_with fail
  rw [rounds_succ]
  go_wp2_with fail
  refine (H4.out _).mono ?_
  rintro e w3 ⟨rfl, rfl⟩
  go_wp2_with fail
  refine (H3.out _).mono ?_
  rintro e w3 ⟨rfl, rfl⟩
  go_wp2_with fail
  go_ret
  exact ⟨rfl, HG.out⟩

set_option maxHeartbeats 1000000 in
theorem isPlain_calls (w : World) : Calls Tryz.prog 128 #[.string sAB] w fun e w' => e = .returned (.bool true) ∧ Grows w w' := by
  have H1 := Lib.hid dotted_two
  obtain ⟨s, hs⟩ : ∃ s, sAB = s := ⟨_, rfl⟩
  rw [hs] at H1 ⊢
  clear hs
  go_enter Tryz.func128, Tryz.ntmps128
  go_wp2_with fail
  refine (H1.out _).mono ?_
  rintro e w2 ⟨rfl, hg⟩
  have HG := Lib.hid hg
  clear hg
  go_wp2_with fail
  go_ret
  exact ⟨rfl, HG.out⟩

theorem suffix_calls (s p t : ByteArray) (b : Bool) (hs : s.size ≤ 9223372036854775807) (h1 : (⟨(Lib.trimSuffix s.data.toList p.data.toList).toArray⟩ : ByteArray) = t) (h2 : Lib.hasSuffix s.data.toList p.data.toList = b) (w : World) :
    Calls Tryz.prog 127 #[.string s, .string p] w fun e w' => e = .returned (.tuple #[.string t, .bool b]) ∧ w = w' := by
  subst h1 h2
  exact (Any.strings_CutSuffix Tryz.lays104 s p w hs).mono fun _ _ ⟨he, hw⟩ => ⟨he, hw.symm⟩

set_option maxHeartbeats 1000000 in
theorem isAct_plain (w : World) : Calls Tryz.prog 82 #[.string sAB] w fun e w' => e = .returned (.bool true) ∧ Grows w w' := by
  have H1 := Lib.hid isPlain_calls
  have H2 := Lib.hid (suffix_calls sAB star sAB false (by decide) (by decide) (by decide))
  obtain ⟨s, hs⟩ : ∃ s, sAB = s := ⟨_, rfl⟩
  rw [hs] at H1 H2 ⊢
  clear hs
  go_enter Tryz.func82, Tryz.ntmps82
  go_wp2_with fail
  refine (H2.out _).mono ?_
  rintro e w2 ⟨rfl, rfl⟩
  go_wp2_with fail
  refine (H1.out _).mono ?_
  rintro e w2 ⟨rfl, hg⟩
  have HG := Lib.hid hg
  clear hg
  go_wp2_with fail
  go_ret
  exact ⟨rfl, HG.out⟩

set_option maxHeartbeats 1000000 in
theorem isAct_star (w : World) : Calls Tryz.prog 82 #[.string sAS] w fun e w' => e = .returned (.bool true) ∧ w = w' := by
  have H1 := Lib.hid (suffix_calls sAS star sAd true (by decide) (by decide) (by decide))
  have H2 := Lib.hid (suffix_calls sAd dot sA true (by decide) (by decide) (by decide))
  have H3 := Lib.hid (dotted_one sA 4 (by decide) (by decide) (by decide) (by decide))
  have hne : sAd.toList.isEmpty = false := by rw [Lib.toList_data]; rfl
  obtain ⟨s, hs⟩ : ∃ s, sAS = s := ⟨_, rfl⟩
  obtain ⟨d, hd⟩ : ∃ s, sAd = s := ⟨_, rfl⟩
  obtain ⟨a, ha⟩ : ∃ s, sA = s := ⟨_, rfl⟩
  rw [hs, hd] at H1
  rw [hd, ha] at H2
  rw [hd] at hne
  rw [ha] at H3
  rw [hs]
  clear hs hd ha
  go_enter Tryz.func82, Tryz.ntmps82
  go_wp2_with fail
  refine (H1.out _).mono ?_
  rintro e w2 ⟨rfl, rfl⟩
  go_wp2_with fail
  refine (H2.out _).mono ?_
  rintro e w2 ⟨rfl, rfl⟩
  go_wp2_with fail
  refine (H3.out _).mono ?_
  rintro e w2 ⟨rfl, rfl⟩
  go_wp2_with fail
  go_ret
  exact ⟨rfl, rfl⟩

end Go.Proofs.YteandmolnbcmmaaGreatDoor
