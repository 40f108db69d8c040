/- TopRulesApart: the card. No condition beyond what each theorem states. -/
import Derived.Test.YteandmolnbcmmaaGreatDoorLC

namespace Go.Proofs.YteandmolnbcmmaaGreatDoor
open Go.ChangeShapes Go.WideShapes Go.ChangeAt Go.RowKit Go.Deep

theorem readable3 : ∀ t ∈ [22, 23, 25], Tryz.prog.readableRec t = true ∧ t < Tryz.prog.types.size := by
  intro t ht
  simp only [List.mem_cons, List.mem_nil_iff, or_false] at ht
  rcases ht with rfl | rfl | rfl
  · exact ⟨by kernel_rfl, of_decide_eq_true (by kernel_rfl)⟩
  · exact ⟨by kernel_rfl, of_decide_eq_true (by kernel_rfl)⟩
  · exact ⟨by kernel_rfl, of_decide_eq_true (by kernel_rfl)⟩

namespace fn3
set_option maxRecDepth 100000 in
theorem contract (H : Type) (enc : TypeId × Value → H) (W : World) (base : Nat) (args : Array Value) (ds gs : List (DataW H)) (before : List MemPlace)
    (hval : ∀ (j : Nat) t v, Tryz.f3.params[j]? = some t → args[j]? = some v → Value.okWide Tryz.prog W .any base t v)
    (hW : DataW.Whole enc Tryz.prog Tryz.f3.params.toList Rows.topRulesApartSpec.vars false W args.toList ds gs before) :
    Calls Tryz.prog 3 args W fun e W' => ∃ v, e = .returned v ∧ Rows.topRulesApartSpec.post enc Tryz.prog Tryz.f3 false true false false W args v W' := by
  have hW' := hW
  obtain ⟨p, q, hA0, hV, rfl, hfz, hnd⟩ := hW
  have hA : DataW.TrodAll enc Tryz.prog W 0 (fun _ => true) true Tryz.f3.params.toList args.toList ds p := hA0
  rw [Tryz.params3] at hA hval
  obtain ⟨v0, v1, v2, d0, d1, d2, p0, p1, p2, rfl, rfl, rfl, h0, h1, h2⟩ := trodAll_three hA
  obtain ⟨rs, r0, z0⟩ := open_rules (hval 0 22 v0 rfl rfl) h0
  obtain ⟨l, r1, z1⟩ := open_samples (hval 1 23 v1 rfl rfl) h1
  obtain ⟨f, t, rfl⟩ := open_window (hval 2 25 v2 rfl rfl) h2
  refine (apart_calls r0 r1 z0 z1).mono fun e W' ⟨he, hb⟩ => ⟨.bool true, he, ?_⟩
  exact yes_post rfl rfl (by rw [Tryz.params3]; exact readable3) rfl hW' hb

theorem reads (os : Os) {H : Type} (enc : TypeId × Value → H) : ∃ x : List (DataW H) × List (DataW H) × List MemPlace, DataW.whole enc Tryz.prog ((laidWorld os).forCall (fun _ _ => 0) ⟨#[], args3, []⟩).memory Tryz.f3.params.toList Rows.topRulesApartSpec.vars false args3.toList 8 = some x :=
  ⟨([.nil, .nil, .agg [.lit (.int .i64 0), .lit (.int .i64 0)]], [], []), by kernel_rfl⟩

theorem os_met (os : Os) : (laidWorld os).os = os := by kernel_rfl
theorem t1 : Tryz.checked.prog.inits.idxOf? 3 = none := by kernel_rfl
theorem t2 (os : Os) : Input.okWideB Tryz.checked.prog ((laidWorld os).forCall (fun _ _ => 0) ⟨#[], args3, []⟩) 3 ⟨#[], args3, []⟩ = true := by kernel_rfl
theorem t3 (H : Type) (ds gs : List (DataW H)) : Rows.topRulesApartRow.domain.all (PathCond.test Tryz.prog ⟨Tryz.f3.params.toList, ds, (OpenSpec.ofChange Rows.topRulesApartSpec).bare.plain.varTypes Tryz.prog, gs⟩) = true := rfl
theorem t4 (os : Os) (H : Type) (enc : TypeId × Value → H) : (OpenSpec.ofChange Rows.topRulesApartSpec).bare.sizedB enc Tryz.prog Tryz.f3 false ((laidWorld os).forCall (fun _ _ => 0) ⟨#[], args3, []⟩).memory args3 8 = true := by kernel_rfl
set_option maxRecDepth 100000 in
theorem lifted (os : Os) (started : os.Started) (H : Type) (enc : TypeId × Value → H) (F : Stop.Interp) :
    ReturnsInHanded {} Tryz.checked os 3 .any ((OpenSpec.ofChange Rows.topRulesApartSpec).preRow enc Tryz.prog Tryz.f3 Rows.topRulesApartRow.domain false Rows.topRulesApartRow.laid) (((OpenSpec.ofChange Rows.topRulesApartSpec).at F).post enc Tryz.prog Tryz.f3 false true false false) := by
  obtain ⟨x, hx⟩ := reads os enc
  refine returnsInHanded_of_row (C := Tryz.checked) (s := OpenSpec.ofChange Rows.topRulesApartSpec) own_ started t1 Tryz.func3
    (witness_row_at (enc := enc) (C := Tryz.checked) false (laidWorld os) args3 (os_met os) (vars_met os args3) (heap_met os args3) (t2 os)
      (OpenSpec.preRow_of_cond 8 hx (t3 H x.1 x.2.1) (fun k hk => by cases hk) (t4 os H enc) (laid_met os args3))) ?_
  intro W base args ds gs before hval hW _ _ _ _ _ _
  exact contract H enc W base args ds gs before hval hW

theorem facts : joinedFacts Tryz.prog 3 Tryz.f3 (OpenSpec.ofChange Rows.topRulesApartSpec).bare Rows.topRulesApartRow = true := by
  unfold joinedFacts
  rw [lifts_, make_, enters_]
  kernel_rfl

theorem said : Rows.TopRulesApartSaid :=
  OpenClaim.holds_of_cond 3 Tryz.f3 rfl rfl rfl rfl rfl rfl rfl ⟨rfl, rfl, rfl, rfl, rfl⟩ rfl rfl rfl rfl rfl (by kernel_rfl) Tryz.func3 facts
    (of_decide_eq_true (by kernel_rfl)) (by unfold Func.isWrapper; first | (rw [if_pos (by decide +kernel)]; kernel_rfl) | (rw [if_neg (by decide +kernel)]; exact ⟨rfl, rfl⟩))
    (fun os started H enc _ F => by rw [OpenClaim.pre_eq_preRow]; exact lifted os started H enc F)

theorem plain (f : FuncId) (fn : Func) (hf : Tryz.pinned.checked.prog.funcNamed "beaconfleet/fleettop.TopRulesApart" = some f) (hfn : Tryz.pinned.checked.prog.funcs[f]? = some fn) :
    false = Tryz.pinned.checked.prog.looks [] ∧ ∀ (j : Nat) t, fn.params[j]? = some t → Tryz.pinned.checked.prog.wantsStandIn t = false := by
  obtain rfl : f = 3 := Option.some.inj ((show Tryz.prog.funcNamed "beaconfleet/fleettop.TopRulesApart" = some 3 by kernel_rfl).symm.trans hf) |>.symm
  obtain rfl : fn = Tryz.f3 := (Option.some.inj (Tryz.func3.symm.trans hfn)).symm
  refine ⟨looks_, fun j t ht => ?_⟩
  rw [Tryz.params3] at ht
  have hm : t ∈ [22, 23, 25] := by simpa using Array.mem_of_getElem? ht
  simp only [List.mem_cons, List.mem_nil_iff, or_false] at hm
  rcases hm with rfl | rfl | rfl
  · exact (show Tryz.prog.wantsStandIn 22 = false by kernel_rfl)
  · exact (show Tryz.prog.wantsStandIn 23 = false by kernel_rfl)
  · exact (show Tryz.prog.wantsStandIn 25 = false by kernel_rfl)

theorem card : Rows.TopRulesApartCardSaid :=
  Claim7.holds_tied_plain_at .later [] _ _ _ _ said (fun _ h => by cases h) (by kernel_rfl) (fun _ h => by cases h) topRulesApart_row_tie rfl ⟨rfl, rfl⟩ mainIs_ rfl plain (by kernel_rfl)
end fn3
end Go.Proofs.YteandmolnbcmmaaGreatDoor
