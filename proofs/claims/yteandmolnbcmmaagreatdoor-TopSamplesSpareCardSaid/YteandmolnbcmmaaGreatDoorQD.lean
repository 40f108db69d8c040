/- TopSamplesSpare: the card: whatever the input, the law returns true, and the input reads as it did. No condition beyond what each theorem states. -/
import Derived.Test.YteandmolnbcmmaaGreatDoorLC
import Derived.Test.YteandmolnbcmmaaGreatDoorQC

namespace Go.Proofs.YteandmolnbcmmaaGreatDoor.fn6
open Go.ChangeShapes Go.WideShapes Go.ChangeAt Go.RowKit Go.Deep

theorem readable : ∀ t ∈ [22, 23, 25, 3, 9], Tryz.prog.readableRec t = true ∧ t < Tryz.prog.types.size ∧ Tryz.prog.wantsStandIn t = false := by
  intro t ht
  simp only [List.mem_cons, List.mem_nil_iff, or_false] at ht
  rcases ht with rfl | rfl | rfl | rfl | rfl
  · exact ⟨by kernel_rfl, of_decide_eq_true (by kernel_rfl), by kernel_rfl⟩
  · exact ⟨by kernel_rfl, of_decide_eq_true (by kernel_rfl), by kernel_rfl⟩
  · exact ⟨by kernel_rfl, of_decide_eq_true (by kernel_rfl), by kernel_rfl⟩
  · exact ⟨by kernel_rfl, of_decide_eq_true (by kernel_rfl), by kernel_rfl⟩
  · exact ⟨by kernel_rfl, of_decide_eq_true (by kernel_rfl), by kernel_rfl⟩

set_option maxRecDepth 100000 in
theorem contract (H : Type) (enc : TypeId × Value → H) (W : World) (base : Nat) (args : Array Value) (ds gs : List (DataW H)) (before : List MemPlace)
    (hval : ∀ (j : Nat) t v, Tryz.f6.params[j]? = some t → args[j]? = some v → Value.okWide Tryz.prog W .any base t v)
    (hW : DataW.Whole enc Tryz.prog Tryz.f6.params.toList Rows.topSamplesSpareSpec.vars false W args.toList ds gs before)
    : Calls Tryz.prog 6 args W fun e W' => ∃ v, e = .returned v ∧ Rows.topSamplesSpareSpec.post enc Tryz.prog Tryz.f6 false true false false W args v W' := by
  have hW' := hW
  obtain ⟨p, q, hA0, hV, rfl, hfz, hnd⟩ := hW
  have hA : DataW.TrodAll enc Tryz.prog W 0 (fun _ => true) true Tryz.f6.params.toList args.toList ds p := hA0
  rw [Tryz.params6] at hA hval
  obtain ⟨v0, vs0, d0, ds0, p0, q0, hargs, rfl, rfl, h0, t0⟩ := trodAll_cons hA
  obtain ⟨v1, vs1, d1, ds1, p1, q1, rfl, rfl, rfl, h1, t1⟩ := trodAll_cons t0
  obtain ⟨v2, vs2, d2, ds2, p2, q2, rfl, rfl, rfl, h2, t2⟩ := trodAll_cons t1
  obtain ⟨v3, vs3, d3, ds3, p3, q3, rfl, rfl, rfl, h3, t3⟩ := trodAll_cons t2
  obtain ⟨v4, vs4, d4, ds4, p4, q4, rfl, rfl, rfl, h4, t4⟩ := trodAll_cons t3
  obtain ⟨rfl, rfl, rfl⟩ := trodAll_nil t4
  obtain rfl : args = #[v0, v1, v2, v3, v4] := by cases args; simp_all
  obtain ⟨rs, r0, z0, y0⟩ := open_rules (hval 0 22 v0 rfl rfl) h0
  obtain ⟨l, r1, z1, y1⟩ := open_samples (hval 1 23 v1 rfl rfl) h1
  obtain ⟨f, t, rfl⟩ := open_window (hval 2 25 v2 rfl rfl) h2
  obtain ⟨a, rfl⟩ := open_i64 (hval 3 3 v3 rfl rfl)
  obtain ⟨s4, rfl, z4⟩ := open_text (hval 4 9 v4 rfl rfl) h4
  refine (spare_calls r0 r1 z0 z1 z4).mono fun e W' ⟨he, hb⟩ => ⟨.bool true, he, ?_⟩
  exact yes_post rfl rfl (by rw [Tryz.params6]; exact fun t ht => ⟨(readable t ht).1, (readable t ht).2.1⟩) rfl hW' hb

def args : Array Value := #[.slice none 0 0, .slice none 0 0, .agg #[.int .i64 0, .int .i64 0], .int .i64 0, .string ⟨#[]⟩]

theorem reads (os : Os) {H : Type} (enc : TypeId × Value → H) : ∃ x : List (DataW H) × List (DataW H) × List MemPlace, DataW.whole enc Tryz.prog ((laidWorld os).forCall (fun _ _ => 0) ⟨#[], args, []⟩).memory Tryz.f6.params.toList Rows.topSamplesSpareSpec.vars false args.toList 8 = some x :=
  ⟨([.nil, .nil, .agg [.lit (.int .i64 0), .lit (.int .i64 0)], .lit (.int .i64 0), .lit (.string [])], [], []), by kernel_rfl⟩

theorem os_met (os : Os) : (laidWorld os).os = os := by kernel_rfl
theorem t1 : Tryz.checked.prog.inits.idxOf? 6 = none := by kernel_rfl
theorem t2 (os : Os) : Input.okWideB Tryz.checked.prog ((laidWorld os).forCall (fun _ _ => 0) ⟨#[], args, []⟩) 6 ⟨#[], args, []⟩ = true := by kernel_rfl
theorem t3 (H : Type) (ds gs : List (DataW H)) : Rows.topSamplesSpareRow.domain.all (PathCond.test Tryz.prog ⟨Tryz.f6.params.toList, ds, (OpenSpec.ofChange Rows.topSamplesSpareSpec).bare.plain.varTypes Tryz.prog, gs⟩) = true := rfl
theorem t4 (os : Os) (H : Type) (enc : TypeId × Value → H) : (OpenSpec.ofChange Rows.topSamplesSpareSpec).bare.sizedB enc Tryz.prog Tryz.f6 false ((laidWorld os).forCall (fun _ _ => 0) ⟨#[], args, []⟩).memory args 8 = true := by kernel_rfl

set_option maxRecDepth 100000 in
theorem lifted (os : Os) (started : os.Started) (H : Type) (enc : TypeId × Value → H) (F : Stop.Interp) :
    ReturnsInHanded {} Tryz.checked os 6 .any ((OpenSpec.ofChange Rows.topSamplesSpareSpec).preRow enc Tryz.prog Tryz.f6 Rows.topSamplesSpareRow.domain false Rows.topSamplesSpareRow.laid) (((OpenSpec.ofChange Rows.topSamplesSpareSpec).at F).post enc Tryz.prog Tryz.f6 false true false false) := by
  obtain ⟨x, hx⟩ := reads os enc
  refine returnsInHanded_of_row (C := Tryz.checked) (s := OpenSpec.ofChange Rows.topSamplesSpareSpec) own_ started t1 Tryz.func6
    (witness_row_at (enc := enc) (C := Tryz.checked) false (laidWorld os) args (os_met os) (vars_met os args) (heap_met os args) (t2 os)
      (OpenSpec.preRow_of_cond 8 hx (t3 H x.1 x.2.1) (fun k hk => by cases hk) (t4 os H enc) (laid_met os args))) ?_
  intro W base args ds gs before hval hW _ _ _ _ _ _
  exact contract H enc W base args ds gs before hval hW

theorem facts : joinedFacts Tryz.prog 6 Tryz.f6 (OpenSpec.ofChange Rows.topSamplesSpareSpec).bare Rows.topSamplesSpareRow = true := by
  unfold joinedFacts
  rw [lifts_, make_, enters_]
  kernel_rfl

theorem said : Rows.TopSamplesSpareSaid :=
  OpenClaim.holds_of_cond 6 Tryz.f6 rfl rfl rfl rfl rfl rfl rfl ⟨rfl, rfl, rfl, rfl, rfl⟩ rfl rfl rfl rfl rfl (by kernel_rfl) Tryz.func6 facts
    (of_decide_eq_true (by kernel_rfl)) (by unfold Func.isWrapper; first | (rw [if_pos (by decide +kernel)]; kernel_rfl) | (rw [if_neg (by decide +kernel)]; exact ⟨rfl, rfl⟩))
    (fun os started H enc _ F => by rw [OpenClaim.pre_eq_preRow]; exact lifted os started H enc F)

theorem plain (f : FuncId) (fn : Func) (hf : Tryz.pinned.checked.prog.funcNamed "beaconfleet/fleettop.TopSamplesSpare" = some f) (hfn : Tryz.pinned.checked.prog.funcs[f]? = some fn) :
    false = Tryz.pinned.checked.prog.looks [] ∧ ∀ (j : Nat) t, fn.params[j]? = some t → Tryz.pinned.checked.prog.wantsStandIn t = false := by
  obtain rfl : f = 6 := Option.some.inj ((show Tryz.prog.funcNamed "beaconfleet/fleettop.TopSamplesSpare" = some 6 by kernel_rfl).symm.trans hf) |>.symm
  obtain rfl : fn = Tryz.f6 := (Option.some.inj (Tryz.func6.symm.trans hfn)).symm
  refine ⟨looks_, fun j t ht => ?_⟩
  rw [Tryz.params6] at ht
  exact (readable t (by simpa using Array.mem_of_getElem? ht)).2.2

theorem card : Rows.TopSamplesSpareCardSaid :=
  Claim7.holds_tied_plain_at .later [] _ _ _ _ said (fun _ h => by cases h) (by kernel_rfl) (fun _ h => by cases h) topSamplesSpare_row_tie rfl ⟨rfl, rfl⟩ mainIs_ rfl plain (by kernel_rfl)
end Go.Proofs.YteandmolnbcmmaaGreatDoor.fn6
