/- The closed facts: tenant.Covers. The closed facts: tenant.Covers. The closed facts: a map of alarms' names. The closed facts: alarm.nameFault. No condition beyond what each theorem states. -/
import Derived.Test.YteandmolnbcmmaaGreatDoorKX
import Derived.Test.YteandmolnbcmmaaGreatDoorKW

namespace Go.Proofs.YteandmolnbcmmaaGreatDoor
open Go.RowKit Go.Sort

theorem prefix_calls (w : World) : Calls Tryz.prog 116 #[.string sAB, .string sAd] w fun e w' => e = .returned (.bool true) ∧ w = w' :=
  (Any.strings_HasPrefix Tryz.lays99 sAB sAd w).mono fun _ _ ⟨he, hw⟩ => ⟨by rw [he]; rfl, hw.symm⟩

theorem eqS_ne : (sAS.toList == sAB.toList) = false := eqS_false (by decide)

set_option maxHeartbeats 1000000 in
theorem covers_calls (w : World) : Calls Tryz.prog 175 #[.string sAS, .string sAB] w fun e w' => e = .returned (.bool true) ∧ w = w' := by
  have H1 := Lib.hid (suffix_calls sAS star sAd true (by decide) (by decide) (by decide))
  have H2 := Lib.hid prefix_calls
  have hne := eqS_ne
  obtain ⟨s, hs⟩ : ∃ s, sAS = s := ⟨_, rfl⟩
  obtain ⟨p, hp⟩ : ∃ s, sAB = s := ⟨_, rfl⟩
  obtain ⟨d, hd⟩ : ∃ s, sAd = s := ⟨_, rfl⟩
  rw [hs, hd] at H1
  rw [hp, hd] at H2
  rw [hs, hp] at hne ⊢
  clear hs hp hd
  go_enter Tryz.func175, Tryz.ntmps175
  go_wp2_with (first | (go_at_call 127; refine (H1.out _).mono ?_; rintro e w2 ⟨rfl, rfl⟩) | (go_at_call 116; refine (H2.out _).mono ?_; rintro e w2 ⟨rfl, rfl⟩))
  go_ret
  exact ⟨rfl, rfl⟩

set_option maxHeartbeats 1000000 in
theorem cov1_calls (ab : Nat) (w : World) (ca : w.cell? ⟨ab, 0, none⟩ = some (.string sAB)) : Calls Tryz.prog 174 #[.string sAS, .pointer (some ⟨ab, 0, none⟩)] w fun e w' => e = .returned (.bool true) ∧ w = w' := by
  have H1 := Lib.hid covers_calls
  obtain ⟨s, hs⟩ : ∃ s, sAS = s := ⟨_, rfl⟩
  obtain ⟨p, hp⟩ : ∃ s, sAB = s := ⟨_, rfl⟩
  rw [hs, hp] at H1
  rw [hp] at ca
  rw [hs]
  clear hs hp
  go_enter Tryz.func174, Tryz.ntmps174
  go_wp2_with (go_at_call 175; refine (H1.out _).mono ?_; rintro e w2 ⟨rfl, rfl⟩)
  go_ret
  exact ⟨rfl, rfl⟩

set_option maxHeartbeats 1000000 in
theorem idxC_calls (b c ab : Nat) (w : World) (cb : w.cell? ⟨b, 0, none⟩ = some (.string sAS)) (ca : w.cell? ⟨ab, 0, none⟩ = some (.string sAB)) :
    Calls Tryz.prog 125 #[.slice (some ⟨b, 0, none⟩) 1 c, .func (.func 174) #[] #[.pointer (some ⟨ab, 0, none⟩)]] w fun e w' => e = .returned (.int .i64 0) ∧ w = w' := by
  have H1 := Lib.hid (cov1_calls ab w ca)
  obtain ⟨s, hs⟩ : ∃ s, sAS = s := ⟨_, rfl⟩
  rw [hs] at H1 cb
  clear hs ca
  go_enter Tryz.func125, Tryz.ntmps125
  go_wp2
  refine wp_loop_rounds 1 ?_
  rw [rounds_succ]
  go_wp2_with fail
  refine H1.out.mono ?_
  rintro e w2 ⟨rfl, rfl⟩
  go_wp2_with fail
  go_ret
  exact ⟨rfl, rfl⟩

set_option maxHeartbeats 1000000 in
theorem conC_calls (b c ab : Nat) (w : World) (cb : w.cell? ⟨b, 0, none⟩ = some (.string sAS)) (ca : w.cell? ⟨ab, 0, none⟩ = some (.string sAB)) :
    Calls Tryz.prog 79 #[.slice (some ⟨b, 0, none⟩) 1 c, .func (.func 174) #[] #[.pointer (some ⟨ab, 0, none⟩)]] w fun e w' => e = .returned (.bool true) ∧ w = w' := by
  have H1 := Lib.hid (idxC_calls b c ab w cb ca)
  clear cb ca
  go_enter Tryz.func79, Tryz.ntmps79
  go_wp2_with (go_at_call 125; refine H1.out.mono ?_; rintro e w2 ⟨rfl, rfl⟩)
  go_ret
  exact ⟨rfl, rfl⟩

set_option maxHeartbeats 1000000 in
theorem covered_calls (b c : Nat) (w : World) (cb : w.cell? ⟨b, 0, none⟩ = some (.string sAS)) :
    Calls Tryz.prog 131 #[.slice (some ⟨b, 0, none⟩) 1 c, .string sAB] w fun e w' => e = .returned (.bool true) ∧ Grows w w' := by
  have H1 := Lib.hid (conC_calls b c w.heap.size (w.alloc (.cells #[.string sAB] 9)) (cell_alloc_old cb _) (cell_new w _ 9 0 _ _ rfl rfl))
  have HG := Lib.hid ((Grows.refl w).alloc (.cells #[.string sAB] 9))
  obtain ⟨s, hs⟩ : ∃ s, sAB = s := ⟨_, rfl⟩
  rw [hs] at H1 HG ⊢
  clear hs cb
  go_enter Tryz.func131, Tryz.ntmps131
  go_wp2_with (go_at_call 79; refine H1.out.mono ?_; rintro e w2 ⟨rfl, rfl⟩)
  go_ret
  exact ⟨rfl, HG.out⟩

set_option maxHeartbeats 1000000 in
theorem all1_calls (b c hb : Nat) (w : World) (cb : w.cell? ⟨b, 0, none⟩ = some (.string sAS)) (ch : w.cell? ⟨hb, 0, none⟩ = some (.slice (some ⟨b, 0, none⟩) 1 c)) :
    Calls Tryz.prog 130 #[.string sAB, .pointer (some ⟨hb, 0, none⟩)] w fun e w' => e = .returned (.bool false) ∧ Grows w w' := by
  have H1 := Lib.hid (covered_calls b c w cb)
  obtain ⟨s, hs⟩ : ∃ s, sAB = s := ⟨_, rfl⟩
  rw [hs] at H1 ⊢
  clear hs cb
  go_enter Tryz.func130, Tryz.ntmps130
  go_wp2_with fail
  refine H1.out.mono ?_
  rintro e w2 ⟨rfl, hg⟩
  have HG := Lib.hid hg
  clear hg
  go_wp2_with fail
  go_ret
  exact ⟨rfl, HG.out⟩

set_option maxHeartbeats 1000000 in
theorem idxA_calls (b c hb b2 c2 : Nat) (w : World) (cb : w.cell? ⟨b, 0, none⟩ = some (.string sAS)) (ch : w.cell? ⟨hb, 0, none⟩ = some (.slice (some ⟨b, 0, none⟩) 1 c)) (cw : w.cell? ⟨b2, 0, none⟩ = some (.string sAB)) :
    Calls Tryz.prog 125 #[.slice (some ⟨b2, 0, none⟩) 1 c2, .func (.func 130) #[] #[.pointer (some ⟨hb, 0, none⟩)]] w fun e w' => e = .returned (.int .i64 (-1)) ∧ Grows w w' := by
  have H1 := Lib.hid (all1_calls b c hb w cb ch)
  obtain ⟨s, hs⟩ : ∃ s, sAB = s := ⟨_, rfl⟩
  rw [hs] at H1 cw
  clear hs cb ch
  go_enter Tryz.func125, Tryz.ntmps125
  go_wp2
  refine wp_loop_rounds 2 ?_
  rw [rounds_succ]
  go_wp2_with fail
  refine H1.out.mono ?_
  rintro e w2 ⟨rfl, hg⟩
  have HG := Lib.hid hg
  clear hg
  go_wp2_with fail
  rw [rounds_succ]
  go_wp2_with fail
  go_ret
  exact ⟨rfl, HG.out⟩

set_option maxHeartbeats 1000000 in
theorem conA_calls (b c hb b2 c2 : Nat) (w : World) (cb : w.cell? ⟨b, 0, none⟩ = some (.string sAS)) (ch : w.cell? ⟨hb, 0, none⟩ = some (.slice (some ⟨b, 0, none⟩) 1 c)) (cw : w.cell? ⟨b2, 0, none⟩ = some (.string sAB)) :
    Calls Tryz.prog 79 #[.slice (some ⟨b2, 0, none⟩) 1 c2, .func (.func 130) #[] #[.pointer (some ⟨hb, 0, none⟩)]] w fun e w' => e = .returned (.bool false) ∧ Grows w w' := by
  have H1 := Lib.hid (idxA_calls b c hb b2 c2 w cb ch cw)
  clear cb ch cw
  go_enter Tryz.func79, Tryz.ntmps79
  go_wp2_with fail
  refine H1.out.mono ?_
  rintro e w2 ⟨rfl, hg⟩
  have HG := Lib.hid hg
  clear hg
  go_wp2_with fail
  go_ret
  exact ⟨rfl, HG.out⟩

set_option maxHeartbeats 1000000 in
theorem allCovered_calls (b c b2 c2 : Nat) (w : World) (cb : w.cell? ⟨b, 0, none⟩ = some (.string sAS)) (cw : w.cell? ⟨b2, 0, none⟩ = some (.string sAB)) :
    Calls Tryz.prog 83 #[.slice (some ⟨b, 0, none⟩) 1 c, .slice (some ⟨b2, 0, none⟩) 1 c2] w fun e w' => e = .returned (.bool true) ∧ Grows w w' := by
  have H1 := Lib.hid (conA_calls b c w.heap.size b2 c2 (w.alloc (.cells #[.slice (some ⟨b, 0, none⟩) 1 c] 62)) (cell_alloc_old cb _) (cell_new w _ 62 0 _ _ rfl rfl) (cell_alloc_old cw _))
  have HG := Lib.hid ((Grows.refl w).alloc (.cells #[.slice (some ⟨b, 0, none⟩) 1 c] 62))
  clear cb cw
  go_enter Tryz.func83, Tryz.ntmps83
  go_wp2_with fail
  refine H1.out.mono ?_
  rintro e w2 ⟨rfl, hg⟩
  have HG2 := Lib.hid (HG.out.trans hg)
  clear hg
  go_wp2_with fail
  go_ret
  exact ⟨rfl, HG2.out⟩

set_option maxHeartbeats 1000000 in
theorem act1_calls (s : ByteArray) (w : World) (hs : ∀ w, Calls Tryz.prog 82 #[.string s] w fun e w' => e = .returned (.bool true) ∧ Grows w w') :
    Calls Tryz.prog 81 #[.string s] w fun e w' => e = .returned (.bool false) ∧ Grows w w' := by
  have H1 := Lib.hid (hs w)
  clear hs
  go_enter Tryz.func81, Tryz.ntmps81
  go_wp2_with fail
  refine H1.out.mono ?_
  rintro e w2 ⟨rfl, hg⟩
  have HG := Lib.hid hg
  clear hg
  go_wp2_with fail
  go_ret
  exact ⟨rfl, HG.out⟩

set_option maxHeartbeats 1000000 in
theorem idx2_calls (g off c : Nat) (s t : ByteArray) (w : World) (c0 : w.cell? ⟨g, off, none⟩ = some (.string s)) (c1 : w.cell? ⟨g, off + 1, none⟩ = some (.string t))
    (hs : ∀ w, Calls Tryz.prog 82 #[.string s] w fun e w' => e = .returned (.bool true) ∧ Grows w w') (ht : ∀ w, Calls Tryz.prog 82 #[.string t] w fun e w' => e = .returned (.bool true) ∧ Grows w w') :
    Calls Tryz.prog 125 #[.slice (some ⟨g, off, none⟩) 2 c, .func (.func 81) #[] #[]] w fun e w' => e = .returned (.int .i64 (-1)) ∧ Grows w w' := by
  have H1 := Lib.hid hs
  have H2 := Lib.hid ht
  clear hs ht
  go_enter Tryz.func125, Tryz.ntmps125
  go_wp2
  refine wp_loop_rounds 3 ?_
  rw [rounds_succ]
  go_wp2_with fail
  refine (act1_calls s _ H1.out).mono ?_
  rintro e w2 ⟨rfl, hg⟩
  have HG := Lib.hid hg
  replace c1 := hg.cell c1
  clear hg c0
  go_wp2_with fail
  rw [rounds_succ]
  go_wp2_with fail
  refine (act1_calls t _ H2.out).mono ?_
  rintro e w3 ⟨rfl, hg⟩
  have HG2 := Lib.hid (HG.out.trans hg)
  clear hg
  go_wp2_with fail
  rw [rounds_succ]
  go_wp2_with fail
  go_ret
  exact ⟨rfl, HG2.out⟩

set_option maxHeartbeats 1000000 in
theorem con2_calls (g off c : Nat) (s t : ByteArray) (w : World) (c0 : w.cell? ⟨g, off, none⟩ = some (.string s)) (c1 : w.cell? ⟨g, off + 1, none⟩ = some (.string t))
    (hs : ∀ w, Calls Tryz.prog 82 #[.string s] w fun e w' => e = .returned (.bool true) ∧ Grows w w') (ht : ∀ w, Calls Tryz.prog 82 #[.string t] w fun e w' => e = .returned (.bool true) ∧ Grows w w') :
    Calls Tryz.prog 79 #[.slice (some ⟨g, off, none⟩) 2 c, .func (.func 81) #[] #[]] w fun e w' => e = .returned (.bool false) ∧ Grows w w' := by
  have H1 := Lib.hid (idx2_calls g off c s t w c0 c1 hs ht)
  clear c0 c1 hs ht
  go_enter Tryz.func79, Tryz.ntmps79
  go_wp2_with fail
  refine H1.out.mono ?_
  rintro e w2 ⟨rfl, hg⟩
  have HG := Lib.hid hg
  clear hg
  go_wp2_with fail
  go_ret
  exact ⟨rfl, HG.out⟩

end Go.Proofs.YteandmolnbcmmaaGreatDoor

namespace Go.Proofs.YteandmolnbcmmaaGreatDoor
open Go.RowKit Go.Sort

theorem readsOne {w : World} {b : Nat} {s : ByteArray} (c : w.cell? ⟨b, 0, none⟩ = some (.string s)) : ReadsK w 1 (.slice (some ⟨b, 0, none⟩) 1 1) ([s].map encStr1) := by
  refine ⟨_, 1, rfl, Nat.le_refl _, fun _ => ⟨b, 0, rfl, fun i x hi => ?_⟩⟩
  match i with
  | 0 =>
    simp at hi
    subst hi
    intro j u hu
    match j with
    | 0 => simp [encStr1] at hu; subst hu; simpa using c
    | j + 1 => simp [encStr1] at hu
  | i + 1 => simp at hi

set_option maxHeartbeats 2000000 in
theorem coversTop_calls (b b2 : Nat) (w : World) (cb : w.cell? ⟨b, 0, none⟩ = some (.string sAS)) (cw : w.cell? ⟨b2, 0, none⟩ = some (.string sAB)) :
    Calls Tryz.prog 45 #[.slice (some ⟨b, 0, none⟩) 1 1, .slice (some ⟨b2, 0, none⟩) 1 1] w fun e w' => e = .returned (.tuple #[.bool true, .int .i64 0]) ∧ Below w.heap.size w w' := by
  have hb := World.block_lt_of_cell? w _ cb
  have hb2 := World.block_lt_of_cell? w _ cw
  have HC := Lib.hid (concat80_calls (q := w.heap.size) (c := 2) (w := w.alloc (.cells #[.slice (some ⟨b, 0, none⟩) 1 1, .slice (some ⟨b2, 0, none⟩) 1 1] 62)) (cell_new w _ 62 0 _ _ rfl rfl) (cell_new w _ 62 1 _ _ rfl rfl) (readsOne (cell_alloc_old cb _)) (readsOne (cell_alloc_old cw _)) (by simp))
  have HG := Lib.hid ((Grows.refl w).alloc (.cells #[.slice (some ⟨b, 0, none⟩) 1 1, .slice (some ⟨b2, 0, none⟩) 1 1] 62))
  have HA : Hid (∀ w2, Below w.heap.size w w2 → Calls Tryz.prog 83 #[.slice (some ⟨b, 0, none⟩) 1 1, .slice (some ⟨b2, 0, none⟩) 1 1] w2 fun e w' => e = .returned (.bool true) ∧ Grows w2 w') := Lib.hid fun w2 h => allCovered_calls b 1 b2 1 w2 ((Keeps.of_below h).cell hb cb) ((Keeps.of_below h).cell hb2 cw)
  clear cb cw
  go_enter Tryz.func45, Tryz.ntmps45
  go_wp2_with fail
  refine HC.out.mono ?_
  rintro e w2 ⟨⟨ov, rfl, hO⟩, hB⟩
  have hO2 : Own w2 (w.heap.size + 1) 9 1 ov 2 [.string sAS, .string sAB] := by simpa [flatE, encStr1] using hO
  obtain ⟨g, off, cap, hv, _, _, _⟩ := hO2.form (by omega)
  subst hv
  have H2 := Lib.hid (con2_calls g off cap sAS sAB w2 (by simpa using hO2.cell 0 _ rfl) (hO2.cell 1 _ rfl) (fun w => (isAct_star w).mono fun e w' ⟨he, hw⟩ => ⟨he, by subst hw; exact Grows.refl _⟩) isAct_plain)
  have HB : Hid (Below w.heap.size w w2) := Lib.hid (HG.out.below.trans (hB.mono (by simp)))
  clear hO hO2 hB
  go_wp2_with fail
  refine H2.out.mono ?_
  rintro e w3 ⟨rfl, hg⟩
  have HB3 : Hid (Below w.heap.size w w3) := Lib.hid (HB.out.trans (hg.below.mono HB.out.size))
  clear hg
  go_wp2_with fail
  refine (HA.out _ HB3.out).mono ?_
  rintro e w4 ⟨rfl, hg⟩
  have HB4 : Hid (Below w.heap.size w w4) := Lib.hid (HB3.out.trans (hg.below.mono HB3.out.size))
  clear hg
  go_wp2_with fail
  go_ret2
  exact ⟨rfl, HB4.out⟩

end Go.Proofs.YteandmolnbcmmaaGreatDoor

namespace Go.Proofs.YteandmolnbcmmaaGreatDoor
open Go.RowKit Go.Sort Go.ChangeMaps

theorem under118 : Tryz.prog.underlying 118 = some (.map 125 117) := by kernel_rfl

theorem check9 (n : Nat) (d : ByteArray) (em : Bool) (w : World) : (Instr.checkKey em (n + 1) 9 (.string d)).run Tryz.prog w = .ok () w := by
  simp [Instr.checkKey, run_underlying under9]

theorem check125n (n : Nat) (d r : ByteArray) (em : Bool) (w : World) : (Instr.checkKey em (n + 1 + 1) 125 (.agg #[.string d, .string r])).run Tryz.prog w = .ok () w := by
  rw [Instr.checkKey]
  simp [run_underlying Tryz.underlying125, check9, go_sem]

theorem check125 (d r : ByteArray) (em : Bool) (w : World) : (Instr.checkKey em 10000 125 (.agg #[.string d, .string r])).run Tryz.prog w = .ok () w := check125n 9998 d r em w

theorem find125_none (d r : ByteArray) (w : World) : (Instr.findKey 125 (.agg #[.string d, .string r]) []).run Tryz.prog w = .ok none w := by
  simp [Instr.findKey, Instr.findNow]

theorem find125_one (d r : ByteArray) (v : Value) (n : Nat) (w : World) : (Instr.findKey 125 (.agg #[.string d, .string r]) [⟨.agg #[.string d, .string r], v, n⟩]).run Tryz.prog w = .ok (some (0, v)) w := by
  simp [Instr.findKey, Instr.findNow, Instr.sameNow, Instr.findAsking, Op.equal, Op.maxDepth, go_sem]

theorem look125_none {w : World} {b c : Nat} (hb : w.heap[b]? = some (.map #[] c)) (d r : ByteArray) : (Instr.lookup 118 (.map (some b)) (.agg #[.string d, .string r]) false).run Tryz.prog w = .ok (.pointer none) w := by
  simp [Instr.lookup, run_underlying under118, MapKept.run_getObj_map hb, check125, find125_none, Result.andThen, Tryz.zeroValue117]

theorem look125_one {w : World} {b c n : Nat} (d r : ByteArray) (v : Value) (hb : w.heap[b]? = some (.map #[⟨.agg #[.string d, .string r], v, n⟩] c)) : (Instr.lookup 118 (.map (some b)) (.agg #[.string d, .string r]) false).run Tryz.prog w = .ok v w := by
  simp [Instr.lookup, run_underlying under118, MapKept.run_getObj_map hb, check125, find125_one, Result.andThen]

theorem upd125 {w : World} {b c : Nat} (hb : w.heap[b]? = some (.map #[] c)) (d r : ByteArray) (v : Value) : (Instr.mapUpdate 118 (.map (some b)) (.agg #[.string d, .string r]) v).run Tryz.prog w = .ok () (setBlock w b (.map #[⟨.agg #[.string d, .string r], v, c⟩] (c + 1))) := by
  simp [Instr.mapUpdate, run_underlying under118, MapKept.run_getObj_map hb, check125, find125_none, Result.andThen, MapKept.run_setObj_map _ hb, setBlock]

end Go.Proofs.YteandmolnbcmmaaGreatDoor

namespace Go.Proofs.YteandmolnbcmmaaGreatDoor
open Go.RowKit Go.Sort Go.ChangeMaps

def strD : ByteArray := ⟨#[100]⟩
def strR : ByteArray := ⟨#[114]⟩

set_option maxHeartbeats 2000000 in
theorem signalFault_calls (w : World) : Calls Tryz.prog 166 #[.agg #[.int .i64 1, .int .i64 1, .string strD, .string strR, .string ⟨#[]⟩, .int .i64 0]] w fun e w' => e = .returned (.int .i64 0) ∧ Grows w w' := by
  have H1 := Lib.hid (keyOf_calls strD (by decide) (by decide))
  have H2 := Lib.hid (keyOf_calls strR (by decide) (by decide))
  obtain ⟨d, hd⟩ : ∃ s, strD = s := ⟨_, rfl⟩
  obtain ⟨r, hr⟩ : ∃ s, strR = s := ⟨_, rfl⟩
  rw [hd] at H1 ⊢
  rw [hr] at H2 ⊢
  have HG := Lib.hid ((Grows.refl w).alloc (.cells #[.int .i64 1, .int .i64 1, .string d, .string r, .string ⟨#[]⟩, .int .i64 0] 79))
  clear hd hr
  go_enter Tryz.func166, Tryz.ntmps166
  go_wp2_with (first | (go_at_call 76; refine (momT_calls _ true (by decide) _).mono ?_; rintro e w' ⟨rfl, rfl⟩) | (go_at_call 65; refine (outT_calls _ _ _ false (by decide) _).mono ?_; rintro e w' ⟨rfl, rfl⟩))
  refine (H1.out _).mono ?_
  rintro e w2 ⟨rfl, rfl⟩
  go_wp2_with fail
  refine (H2.out _).mono ?_
  rintro e w2 ⟨rfl, rfl⟩
  go_wp2_with (first | (go_at_call 76; refine (momT_calls _ true (by decide) _).mono ?_; rintro e w' ⟨rfl, rfl⟩) | (go_at_call 65; refine (outT_calls _ _ _ false (by decide) _).mono ?_; rintro e w' ⟨rfl, rfl⟩))
  go_ret
  exact ⟨rfl, HG.out⟩

/-- The one signal, in memory. -/
structure SigAt (w : World) (b : Nat) (d r : ByteArray) : Prop where
  c0 : w.cell? ⟨b, 0, none⟩ = some (.int .i64 1)
  c1 : w.cell? ⟨b, 1, none⟩ = some (.int .i64 1)
  c2 : w.cell? ⟨b, 2, none⟩ = some (.string d)
  c3 : w.cell? ⟨b, 3, none⟩ = some (.string r)
  c4 : w.cell? ⟨b, 4, none⟩ = some (.string ⟨#[]⟩)
  c5 : w.cell? ⟨b, 5, none⟩ = some (.int .i64 0)

theorem SigAt.lt {w : World} {b : Nat} {d r : ByteArray} (h : SigAt w b d r) : b < w.heap.size := World.block_lt_of_cell? w _ h.c0
theorem SigAt.keeps {F : Nat → Prop} {w w' : World} {b : Nat} {d r : ByteArray} (h : SigAt w b d r) (hk : Keeps F w w') (hb : F b) : SigAt w' b d r :=
  ⟨hk.cell hb h.c0, hk.cell hb h.c1, hk.cell hb h.c2, hk.cell hb h.c3, hk.cell hb h.c4, hk.cell hb h.c5⟩

set_option maxHeartbeats 1000000 in
theorem checkSignals_calls (b : Nat) (w : World) (hs : SigAt w b strD strR) : Calls Tryz.prog 122 #[.slice (some ⟨b, 0, none⟩) 1 1] w fun e w' => e = .returned (.int .i64 0) ∧ Grows w w' := by
  have H1 := Lib.hid signalFault_calls
  obtain ⟨c0, c1, c2, c3, c4, c5⟩ := hs
  obtain ⟨d, hd⟩ : ∃ s, strD = s := ⟨_, rfl⟩
  obtain ⟨r, hr⟩ : ∃ s, strR = s := ⟨_, rfl⟩
  rw [hd, hr] at H1
  rw [hd] at c2
  rw [hr] at c3
  have HG := Lib.hid ((Grows.refl w).alloc (.cells #[.int .i64 1, .int .i64 1, .string d, .string r, .string ⟨#[]⟩, .int .i64 0] 79))
  clear hd hr
  go_enter Tryz.func122, Tryz.ntmps122
  go_wp2
  refine wp_loop_rounds 2 ?_
  rw [rounds_succ]
  go_wp2_with fail
  refine (H1.out _).mono ?_
  rintro e w2 ⟨rfl, hg⟩
  have HG2 := Lib.hid (HG.out.trans hg)
  clear hg
  go_wp2_with fail
  go_quiet (fail)
  go_wp2_with fail
  rw [rounds_succ]
  go_wp2_with fail
  go_ret
  exact ⟨rfl, HG2.out.drewN _⟩

set_option maxHeartbeats 1000000 in
theorem nameFault_calls (b : Nat) (w : World) (hs : SigAt w b strD strR) : Calls Tryz.prog 75 #[.slice (some ⟨b, 0, none⟩) 1 1, .string strD, .string strR] w fun e w' => e = .returned (.int .i64 0) ∧ Grows w w' := by
  have H0 := Lib.hid (checkSignals_calls b w hs)
  have H1 := Lib.hid (keyOf_calls strD (by decide) (by decide))
  have H2 := Lib.hid (keyOf_calls strR (by decide) (by decide))
  obtain ⟨d, hd⟩ : ∃ s, strD = s := ⟨_, rfl⟩
  obtain ⟨r, hr⟩ : ∃ s, strR = s := ⟨_, rfl⟩
  rw [hd] at H1 ⊢
  rw [hr] at H2 ⊢
  clear hd hr hs
  go_enter Tryz.func75, Tryz.ntmps75
  go_wp2_with fail
  refine H0.out.mono ?_
  rintro e w2 ⟨rfl, hg⟩
  have HG := Lib.hid hg
  clear hg
  go_wp2_with fail
  refine (H1.out _).mono ?_
  rintro e w3 ⟨rfl, rfl⟩
  go_wp2_with fail
  refine (H2.out _).mono ?_
  rintro e w3 ⟨rfl, rfl⟩
  go_wp2_with fail
  go_ret
  exact ⟨rfl, HG.out⟩

end Go.Proofs.YteandmolnbcmmaaGreatDoor
