/- TopTwinsDiffer: the card: whatever the input, the law returns true, and the input reads as it did. No condition beyond what each theorem states. -/
import Derived.Test.YteandmolnbcmmaaGreatDoorLC
import Derived.Test.YteandmolnbcmmaaGreatDoorRG

namespace Go.Proofs.YteandmolnbcmmaaGreatDoor.fn7
open Go.ChangeShapes Go.WideShapes Go.ChangeAt Go.RowKit Go.Deep

theorem readable : ∀ t ∈ [31, 23, 25], Tryz.prog.readableRec t = true ∧ t < Tryz.prog.types.size ∧ Tryz.prog.wantsStandIn t = false := by
  intro t ht
  simp only [List.mem_cons, List.mem_nil_iff, or_false] at ht
  rcases ht with rfl | rfl | rfl
  · exact ⟨by kernel_rfl, of_decide_eq_true (by kernel_rfl), by kernel_rfl⟩
  · exact ⟨by kernel_rfl, of_decide_eq_true (by kernel_rfl), by kernel_rfl⟩
  · exact ⟨by kernel_rfl, of_decide_eq_true (by kernel_rfl), by kernel_rfl⟩

set_option maxRecDepth 100000 in
theorem contract (H : Type) (enc : TypeId × Value → H) (W : World) (base : Nat) (args : Array Value) (ds gs : List (DataW H)) (before : List MemPlace)
    (hval : ∀ (j : Nat) t v, Tryz.f7.params[j]? = some t → args[j]? = some v → Value.okWide Tryz.prog W .any base t v)
    (hW : DataW.Whole enc Tryz.prog Tryz.f7.params.toList Rows.topTwinsDifferSpec.vars false W args.toList ds gs before)
    (hz : (DataW.weightsEach Tryz.prog (Tryz.f7.params.toList ++ (OpenSpec.ofChange Rows.topTwinsDifferSpec).bare.plain.varTypes Tryz.prog) (ds ++ gs)).all (· ≤ reachBytes) = true)
    : Calls Tryz.prog 7 args W fun e W' => ∃ v, e = .returned v ∧ Rows.topTwinsDifferSpec.post enc Tryz.prog Tryz.f7 false true false false W args v W' := by
  have hW' := hW
  obtain ⟨p, q, hA0, hV, rfl, hfz, hnd⟩ := hW
  have hA : DataW.TrodAll enc Tryz.prog W 0 (fun _ => true) true Tryz.f7.params.toList args.toList ds p := hA0
  rw [Tryz.params7] at hA hval
  rw [Tryz.params7] at hz
  obtain ⟨v0, vs0, d0, ds0, p0, q0, hargs, rfl, rfl, h0, t0⟩ := trodAll_cons hA
  obtain ⟨v1, vs1, d1, ds1, p1, q1, rfl, rfl, rfl, h1, t1⟩ := trodAll_cons t0
  obtain ⟨v2, vs2, d2, ds2, p2, q2, rfl, rfl, rfl, h2, t2⟩ := trodAll_cons t1
  obtain ⟨rfl, rfl, rfl⟩ := trodAll_nil t2
  obtain rfl : args = #[v0, v1, v2] := by cases args; simp_all
  obtain ⟨x, rfl, z0, m0, y0⟩ := open_rule (hval 0 31 v0 rfl rfl) h0
  obtain ⟨l, r1, z1, y1⟩ := open_samples (hval 1 23 v1 rfl rfl) h1
  obtain ⟨f, t, rfl⟩ := open_window (hval 2 25 v2 rfl rfl) h2
  have hreach := reach_key (j := 0) hz rfl rfl y0
  refine (twins_calls r1 z1 z0 m0 hreach).mono fun e W' ⟨he, hb⟩ => ⟨.bool true, he, ?_⟩
  exact yes_post rfl rfl (by rw [Tryz.params7]; exact fun t ht => ⟨(readable t ht).1, (readable t ht).2.1⟩) rfl hW' hb

def args : Array Value := #[.agg #[.string ⟨#[]⟩, .string ⟨#[]⟩, .int .i64 0, .int .i64 0, .bool false, .int .i64 0, .int .i64 0, .int .i64 0, .int .i64 0, .int .i64 0], .slice none 0 0, .agg #[.int .i64 0, .int .i64 0]]

theorem reads (os : Os) {H : Type} (enc : TypeId × Value → H) : ∃ x : List (DataW H) × List (DataW H) × List MemPlace, DataW.whole enc Tryz.prog ((laidWorld os).forCall (fun _ _ => 0) ⟨#[], args, []⟩).memory Tryz.f7.params.toList Rows.topTwinsDifferSpec.vars false args.toList 8 = some x :=
  ⟨([.agg [.lit (.string []), .lit (.string []), .lit (.int .i64 0), .lit (.int .i64 0), .lit (.bool false), .lit (.int .i64 0), .lit (.int .i64 0), .lit (.int .i64 0), .lit (.int .i64 0), .lit (.int .i64 0)], .nil, .agg [.lit (.int .i64 0), .lit (.int .i64 0)]], [], []), by kernel_rfl⟩

theorem os_met (os : Os) : (laidWorld os).os = os := by kernel_rfl
theorem t1 : Tryz.checked.prog.inits.idxOf? 7 = none := by kernel_rfl
theorem t2 (os : Os) : Input.okWideB Tryz.checked.prog ((laidWorld os).forCall (fun _ _ => 0) ⟨#[], args, []⟩) 7 ⟨#[], args, []⟩ = true := by kernel_rfl
theorem t3 (H : Type) (ds gs : List (DataW H)) : Rows.topTwinsDifferRow.domain.all (PathCond.test Tryz.prog ⟨Tryz.f7.params.toList, ds, (OpenSpec.ofChange Rows.topTwinsDifferSpec).bare.plain.varTypes Tryz.prog, gs⟩) = true := rfl
theorem t4 (os : Os) (H : Type) (enc : TypeId × Value → H) : (OpenSpec.ofChange Rows.topTwinsDifferSpec).bare.sizedB enc Tryz.prog Tryz.f7 false ((laidWorld os).forCall (fun _ _ => 0) ⟨#[], args, []⟩).memory args 8 = true := by kernel_rfl

set_option maxRecDepth 100000 in
theorem lifted (os : Os) (started : os.Started) (H : Type) (enc : TypeId × Value → H) (F : Stop.Interp) :
    ReturnsInHanded {} Tryz.checked os 7 .any ((OpenSpec.ofChange Rows.topTwinsDifferSpec).preRow enc Tryz.prog Tryz.f7 Rows.topTwinsDifferRow.domain false Rows.topTwinsDifferRow.laid) (((OpenSpec.ofChange Rows.topTwinsDifferSpec).at F).post enc Tryz.prog Tryz.f7 false true false false) := by
  obtain ⟨x, hx⟩ := reads os enc
  refine returnsInHanded_of_row (C := Tryz.checked) (s := OpenSpec.ofChange Rows.topTwinsDifferSpec) own_ started t1 Tryz.func7
    (witness_row_at (enc := enc) (C := Tryz.checked) false (laidWorld os) args (os_met os) (vars_met os args) (heap_met os args) (t2 os)
      (OpenSpec.preRow_of_cond 8 hx (t3 H x.1 x.2.1) (fun k hk => by cases hk) (t4 os H enc) (laid_met os args))) ?_
  intro W base args ds gs before hval hW _ _ hz _ _ _
  exact contract H enc W base args ds gs before hval hW hz

theorem facts : joinedFacts Tryz.prog 7 Tryz.f7 (OpenSpec.ofChange Rows.topTwinsDifferSpec).bare Rows.topTwinsDifferRow = true := by
  unfold joinedFacts
  rw [lifts_, make_, enters_]
  kernel_rfl

theorem said : Rows.TopTwinsDifferSaid :=
  OpenClaim.holds_of_cond 7 Tryz.f7 rfl rfl rfl rfl rfl rfl rfl ⟨rfl, rfl, rfl, rfl, rfl⟩ rfl rfl rfl rfl rfl (by kernel_rfl) Tryz.func7 facts
    (of_decide_eq_true (by kernel_rfl)) (by unfold Func.isWrapper; first | (rw [if_pos (by decide +kernel)]; kernel_rfl) | (rw [if_neg (by decide +kernel)]; exact ⟨rfl, rfl⟩))
    (fun os started H enc _ F => by rw [OpenClaim.pre_eq_preRow]; exact lifted os started H enc F)

theorem plain (f : FuncId) (fn : Func) (hf : Tryz.pinned.checked.prog.funcNamed "beaconfleet/fleettop.TopTwinsDiffer" = some f) (hfn : Tryz.pinned.checked.prog.funcs[f]? = some fn) :
    false = Tryz.pinned.checked.prog.looks [] ∧ ∀ (j : Nat) t, fn.params[j]? = some t → Tryz.pinned.checked.prog.wantsStandIn t = false := by
  obtain rfl : f = 7 := Option.some.inj ((show Tryz.prog.funcNamed "beaconfleet/fleettop.TopTwinsDiffer" = some 7 by kernel_rfl).symm.trans hf) |>.symm
  obtain rfl : fn = Tryz.f7 := (Option.some.inj (Tryz.func7.symm.trans hfn)).symm
  refine ⟨looks_, fun j t ht => ?_⟩
  rw [Tryz.params7] at ht
  exact (readable t (by simpa using Array.mem_of_getElem? ht)).2.2

theorem card : Rows.TopTwinsDifferCardSaid :=
  Claim7.holds_tied_plain_at .later [] _ _ _ _ said (fun _ h => by cases h) (by kernel_rfl) (fun _ h => by cases h) topTwinsDiffer_row_tie rfl ⟨rfl, rfl⟩ mainIs_ rfl plain (by kernel_rfl)
end Go.Proofs.YteandmolnbcmmaaGreatDoor.fn7
