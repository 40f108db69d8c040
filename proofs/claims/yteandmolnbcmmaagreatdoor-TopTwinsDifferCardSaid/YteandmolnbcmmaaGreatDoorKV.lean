/- The closed facts: device.Serial. The closed facts: device.Serial. No condition beyond what each theorem states. -/
import Derived.Shelf.Strings.SlTrimAscii
import Derived.Test.YteandmolnbcmmaaGreatDoorKH
import Derived.Test.YteandmolnbcmmaaGreatDoorShelfH
import Derived.Test.YteandmolnbcmmaaGreatDoorKU

namespace Go.Proofs.YteandmolnbcmmaaGreatDoor
open Go.RowKit Go.Sort

def strAB : ByteArray := ⟨#[65, 66]⟩
def strM : ByteArray := ⟨#[109]⟩
def caps : ByteArray := ⟨#[65, 66, 67, 68, 69, 70, 71, 72, 73, 74, 75, 76, 77, 78, 79, 80, 81, 82, 83, 84, 85, 86, 87, 88, 89, 90]⟩
theorem strM_key : keyB strM = true := by decide
theorem strM_size : strM.size ≤ maxLen := by decide
theorem keyM_calls (w : World) : Calls Tryz.prog 100 #[.string strM] w fun e w' => e = .returned (.bool true) ∧ w = w' := by
  have := key_calls strM w strM_size
  rw [strM_key] at this
  exact this

theorem trimAB_calls (w : World) : Calls Tryz.prog 157 #[.string strAB, .string caps] w fun e w' => e = .returned (.string ⟨#[]⟩) ∧ Below w.heap.size w w' := by
  have h := Any.strings_Trim_laid Tryz.lays160 (by kernel_rfl) strAB caps w (by decide) (by decide) (ascii_of_all (by decide))
  exact h.mono fun e w' ⟨he, hb⟩ => ⟨by rw [he]; rfl, hb⟩

set_option maxHeartbeats 1000000 in
theorem isPrefix_calls (w : World) : Calls Tryz.prog 108 #[.string strAB] w fun e w' => e = .returned (.bool true) ∧ Below w.heap.size w w' := by
  obtain ⟨s, hs⟩ : ∃ s, strAB = s := ⟨_, rfl⟩
  have h1 : s.size ≤ 2 := by rw [← hs]; decide
  have h2 : 2 ≤ s.size := by rw [← hs]; decide
  have hc := fun w => trimAB_calls w
  rw [hs] at hc ⊢
  have HC := Lib.hid hc
  clear hc hs
  have ho : outB (s.size : Int) 2 4 = false := by rw [outB_eq]; simp; omega
  go_enter Tryz.func108, Tryz.ntmps108
  go_wp2_with (go_at_call 65; refine (outT_calls _ _ _ false ho _).mono ?_; rintro e w' ⟨rfl, rfl⟩)
  refine (HC.out _).mono ?_
  rintro e w2 ⟨rfl, hb⟩
  have HB := Lib.hid hb
  clear hb
  go_wp2_with fail
  go_ret
  exact ⟨rfl, HB.out⟩

set_option maxHeartbeats 1000000 in
theorem idxModels_none (A : Option Addr) (c : Nat) (fv : Value) (w : World) : Calls Tryz.prog 112 #[.slice A 0 c, fv] w fun e w' => e = .returned (.int .i64 (-1)) ∧ w = w' := by
  go_enter Tryz.func112, Tryz.ntmps112
  go_wp2
  refine wp_loop_rounds 1 ?_
  rw [rounds_succ]
  go_wp2
  go_ret
  exact ⟨rfl, rfl⟩

set_option maxHeartbeats 1000000 in
theorem conModels_none (A : Option Addr) (c : Nat) (fv : Value) (w : World) : Calls Tryz.prog 109 #[.slice A 0 c, fv] w fun e w' => e = .returned (.bool false) ∧ w = w' := by
  go_enter Tryz.func109, Tryz.ntmps109
  go_wp2_with (go_at_call 112; refine (idxModels_none _ _ _ _).mono ?_; rintro e w' ⟨rfl, rfl⟩)
  go_ret
  exact ⟨rfl, rfl⟩

set_option maxHeartbeats 1000000 in
theorem types_none (A : Option Addr) (c : Nat) (w : World) : Calls Tryz.prog 111 #[.slice A 0 c] w fun e w' => e = .returned (.int .i64 0) ∧ w = w' := by
  go_enter Tryz.func111, Tryz.ntmps111
  go_wp2
  refine wp_loop_rounds 1 ?_
  rw [rounds_succ]
  go_wp2
  go_ret
  exact ⟨rfl, rfl⟩

set_option maxHeartbeats 2000000 in
theorem checkModels_calls (b : Nat) (w : World) (c0 : w.cell? ⟨b, 0, none⟩ = some (.string strM)) (c1 : w.cell? ⟨b, 1, none⟩ = some (.string strAB)) (c2 : w.cell? ⟨b, 2, none⟩ = some (.slice none 0 0)) :
    Calls Tryz.prog 70 #[.slice (some ⟨b, 0, none⟩) 1 1] w fun e w' => e = .returned (.int .i64 0) ∧ Below w.heap.size w w' := by
  obtain ⟨m, hm⟩ : ∃ m, strM = m := ⟨_, rfl⟩
  obtain ⟨p, hp⟩ : ∃ p, strAB = p := ⟨_, rfl⟩
  rw [hm] at c0
  rw [hp] at c1
  have hk : ∀ w, Calls Tryz.prog 100 #[.string m] w fun e w' => e = .returned (.bool true) ∧ w = w' := by subst hm; exact keyM_calls
  have hq : ∀ w, Calls Tryz.prog 108 #[.string p] w fun e w' => e = .returned (.bool true) ∧ Below w.heap.size w w' := by subst hp; exact isPrefix_calls
  have HK := Lib.hid hk
  have HQ := Lib.hid hq
  have P0 := Lib.hid (Blk.new w 72 #[.string m, .string p, .slice none 0 0])
  have HG := Lib.hid ((Grows.refl w).alloc (.cells #[.string m, .string p, .slice none 0 0] 72))
  clear hk hm hp hq
  go_enter Tryz.func70, Tryz.ntmps70
  go_wp2
  refine wp_loop_rounds 2 ?_
  rw [rounds_succ]
  go_wp2_with (go_at_call 100; refine (HK.out _).mono ?_; rintro e w' ⟨rfl, rfl⟩)
  go_quiet (fail)
  go_wp2_with fail
  refine (HQ.out _).mono ?_
  rintro e w2 ⟨rfl, hb⟩
  have K2 := Keeps.of_below hb
  have d2 : w2.cell? ⟨w.heap.size, 2, none⟩ = some (.slice none 0 0) := K2.cell (by simp) ((P0.out.drewN nq).cell 2)
  have HB : Hid (Below w.heap.size w w2) := Lib.hid ((HG.out.drewN nq).below.trans (hb.mono (by simp)))
  clear hb K2
  go_wp2_with (first | (go_at_call 109; refine (conModels_none _ _ _ _).mono ?_; rintro e w' ⟨rfl, rfl⟩) | (go_at_call 111; refine (types_none _ _ _).mono ?_; rintro e w' ⟨rfl, rfl⟩))
  rw [rounds_succ]
  go_wp2_with fail
  go_ret
  exact ⟨rfl, HB.out⟩

set_option maxHeartbeats 1000000 in
theorem modelPred_calls (kb : Nat) (p : ByteArray) (x : Value) (w : World) (ck : w.cell? ⟨kb, 0, none⟩ = some (.string strM)) :
    Calls Tryz.prog 113 #[.agg #[.string strM, .string p, x], .pointer (some ⟨kb, 0, none⟩)] w fun e w' => e = .returned (.bool true) ∧ Grows w w' := by
  obtain ⟨m, hm⟩ : ∃ m, strM = m := ⟨_, rfl⟩
  rw [hm] at ck ⊢
  clear hm
  have HG := Lib.hid ((Grows.refl w).alloc (.cells #[.string m, .string p, x] 72))
  have ck1 := cell_alloc_old ck (.cells #[.string m, .string p, x] 72)
  go_enter Tryz.func113, Tryz.ntmps113
  go_wp2
  go_ret
  exact ⟨rfl, HG.out⟩

set_option maxHeartbeats 1000000 in
theorem idxModels_one (b kb : Nat) (w : World) (c0 : w.cell? ⟨b, 0, none⟩ = some (.string strM)) (c1 : w.cell? ⟨b, 1, none⟩ = some (.string strAB)) (c2 : w.cell? ⟨b, 2, none⟩ = some (.slice none 0 0)) (ck : w.cell? ⟨kb, 0, none⟩ = some (.string strM)) :
    Calls Tryz.prog 112 #[.slice (some ⟨b, 0, none⟩) 1 1, .func (.func 113) #[] #[.pointer (some ⟨kb, 0, none⟩)]] w fun e w' => e = .returned (.int .i64 0) ∧ Grows w w' := by
  obtain ⟨p, hp⟩ : ∃ p, strAB = p := ⟨_, rfl⟩
  obtain ⟨m, hm⟩ : ∃ m, strM = m := ⟨_, rfl⟩
  have hq := modelPred_calls kb p (.slice none 0 0) w ck
  rw [hp] at c1
  rw [hm] at c0 ck hq
  have HQ := Lib.hid hq
  clear hp hm hq
  go_enter Tryz.func112, Tryz.ntmps112
  go_wp2
  refine wp_loop_rounds 1 ?_
  rw [rounds_succ]
  go_wp2_with fail
  refine HQ.out.mono ?_
  rintro e w2 ⟨rfl, hg⟩
  have HG := Lib.hid hg
  clear hg
  go_wp2_with fail
  go_ret
  exact ⟨rfl, HG.out⟩

set_option maxHeartbeats 1000000 in
theorem model_calls (b : Nat) (w : World) (c0 : w.cell? ⟨b, 0, none⟩ = some (.string strM)) (c1 : w.cell? ⟨b, 1, none⟩ = some (.string strAB)) (c2 : w.cell? ⟨b, 2, none⟩ = some (.slice none 0 0)) :
    Calls Tryz.prog 71 #[.slice (some ⟨b, 0, none⟩) 1 1, .string strM] w fun e w' => e = .returned (.int .i64 0) ∧ Grows w w' := by
  have h := idxModels_one b w.heap.size (w.alloc (.cells #[.string strM] 9)) (cell_alloc_old c0 _) (cell_alloc_old c1 _) (cell_alloc_old c2 _) (cell_new w _ 9 0 _ _ rfl rfl)
  obtain ⟨m, hm⟩ : ∃ m, strM = m := ⟨_, rfl⟩
  rw [hm] at h ⊢
  have H := Lib.hid h
  have HG := Lib.hid ((Grows.refl w).alloc (.cells #[.string m] 9))
  clear h hm c0 c1 c2
  go_enter Tryz.func71, Tryz.ntmps71
  go_wp2_with fail
  refine H.out.mono ?_
  rintro e w2 ⟨rfl, hg⟩
  have HG2 := Lib.hid (HG.out.trans hg)
  clear hg
  go_wp2_with fail
  go_ret
  exact ⟨rfl, HG2.out⟩

end Go.Proofs.YteandmolnbcmmaaGreatDoor

namespace Go.Proofs.YteandmolnbcmmaaGreatDoor
open Go.RowKit Go.Sort

def str0 : ByteArray := ⟨#[48]⟩
def str7 : ByteArray := ⟨#[55]⟩
def str0s : ByteArray := ⟨#[48, 48, 48, 48, 48, 48, 48]⟩

theorem dec7 : Lib.decDigits 7 = [55] := by rw [Lib.decDigits]; rfl

theorem itoa7_calls (w : World) : Calls Tryz.prog 72 #[.int .i64 7] w fun e w' => e = .returned (.string str7) ∧ w = w' :=
  (Any.strconv_Itoa_small Tryz.lays171 7 (by decide) w).mono fun e w' ⟨he, hw⟩ => ⟨by rw [he, dec7]; rfl, hw.symm⟩

theorem repeat7_calls (w : World) : Calls Tryz.prog 73 #[.string str0, .int .i64 7] w fun e w' => e = .returned (.string str0s) ∧ Below w.heap.size w w' :=
  (Any.strings_Repeat Tryz.lays105 Tryz.Builder_Extra_105 str0 7 w (by decide) (by decide)).mono fun e w' ⟨he, hw⟩ => ⟨by rw [he]; rfl, hw⟩

def serS : ByteArray := ⟨#[65, 66, 45, 48, 48, 48, 48, 48, 48, 48, 55, 45, 77]⟩
theorem serS_eq : strAB ++ ⟨#[45]⟩ ++ (str0s ++ str7) ++ ⟨#[45]⟩ ++ Utf8.encode 77 = serS := by decide

set_option maxHeartbeats 2000000 in
theorem serial_calls (b : Nat) (w : World) (c0 : w.cell? ⟨b, 0, none⟩ = some (.string strM)) (c1 : w.cell? ⟨b, 1, none⟩ = some (.string strAB)) (c2 : w.cell? ⟨b, 2, none⟩ = some (.slice none 0 0)) :
    Calls Tryz.prog 43 #[.slice (some ⟨b, 0, none⟩) 1 1, .string strM, .int .i64 7] w fun e w' => e = .returned (.tuple #[.string serS, .int .i64 0]) ∧ Below w.heap.size w w' := by
  have hbl := World.block_lt_of_cell? w _ c0
  have H1 := Lib.hid (checkModels_calls b w c0 c1 c2)
  have H2 : Hid (∀ w2, Below w.heap.size w w2 → Calls Tryz.prog 71 #[.slice (some ⟨b, 0, none⟩) 1 1, .string strM] w2 fun e w' => e = .returned (.int .i64 0) ∧ Grows w2 w') := Lib.hid fun w2 hb =>
    model_calls b w2 ((Keeps.of_below hb).cell hbl c0) ((Keeps.of_below hb).cell hbl c1) ((Keeps.of_below hb).cell hbl c2)
  have C1 := Lib.hid c1
  clear c0 c1 c2
  obtain ⟨m, hm⟩ : ∃ m, strM = m := ⟨_, rfl⟩
  rw [hm] at H2 ⊢
  have HM := Lib.hid hm
  clear hm
  have hs7 : wrap64 (8 - (str7.size : Int)) = 7 := by rw [show (str7.size : Int) = 1 from rfl]; unfold wrap64; omega
  have hcat : strAB ++ (str0s ++ str7) = serN := rfl
  go_enter Tryz.func43, Tryz.ntmps43
  go_wp2_with fail
  refine H1.out.mono ?_
  rintro e w2 ⟨rfl, hb2⟩
  have HB2 := Lib.hid hb2
  clear hb2
  go_wp2_with fail
  refine (H2.out w2 HB2.out).mono ?_
  rintro e w3 ⟨rfl, hg3⟩
  have HB3 := Lib.hid (HB2.out.trans (hg3.below.mono HB2.out.size))
  clear hg3
  go_wp2_with (first | (go_at_call 65; refine (outT_calls _ _ _ false (by decide) _).mono ?_; rintro e w' ⟨rfl, rfl⟩) | (go_at_call 72; refine (itoa7_calls _).mono ?_; rintro e w' ⟨rfl, rfl⟩))
  go_wp2_with fail
  rw [hs7]
  refine (repeat7_calls _).mono ?_
  rintro e w4 ⟨rfl, hb4⟩
  have HB4 : Hid (Below w.heap.size w w4) := Lib.hid (HB3.out.trans (hb4.mono HB3.out.size))
  have c1 : w4.cell? ⟨b, 1, none⟩ = some (.string strAB) := (Keeps.of_below HB4.out).cell hbl C1.out
  clear hb4 hs7
  go_wp2_with fail
  refine (checkOf_calls _).mono ?_
  rintro e w5 ⟨rfl, rfl⟩
  clear hcat
  go_wp2_with fail
  go_ret2
  exact ⟨congrArg (fun z => Ending.returned (.tuple #[.string z, .int .i64 0])) serS_eq, HB4.out⟩

end Go.Proofs.YteandmolnbcmmaaGreatDoor
