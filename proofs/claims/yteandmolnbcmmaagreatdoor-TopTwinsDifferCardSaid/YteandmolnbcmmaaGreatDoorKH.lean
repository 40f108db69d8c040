/- The closed facts: device.checkOf at AB00000007. The closed facts: hub.CheckPings, hub.hubFault. No condition beyond what each theorem states. -/
import Derived.Test.YteandmolnbcmmaaGreatDoorKG

namespace Go.Proofs.YteandmolnbcmmaaGreatDoor
open Go.RowKit Go.Sort

def digs : ByteArray := ⟨#[48, 49, 50, 51, 52, 53, 54, 55, 56, 57, 65, 66, 67, 68, 69, 70, 71, 72, 73, 74, 75, 76, 77, 78, 79, 80, 81, 82, 83, 84, 85, 86, 87, 88, 89, 90]⟩
def serN : ByteArray := ⟨#[65, 66, 48, 48, 48, 48, 48, 48, 48, 55]⟩
def ixD (c : UInt8) : Int := Lib.indexByte digs.data.toList c
def ixK (k : Nat) : Int := ixD (serN.data.toList.getD k 0)
def sumK : Nat → Int
  | 0 => 0
  | k + 1 => sumK k + (k + 2) * ixK k

theorem ixK_bd : ∀ k, k < 10 → 0 ≤ ixK k ∧ ixK k ≤ 35 := by decide
theorem sumK_bd : ∀ k, k ≤ 10 → 0 ≤ sumK k ∧ sumK k ≤ 10000 := by decide

theorem indexByte_calls (s : ByteArray) (c : Int) (w : World) :
    Calls Tryz.prog 121 #[.string s, .int .u8 c] w fun e w' => e = .returned (.int .i64 (Lib.indexByte s.data.toList c.toNat.toUInt8)) ∧ w = w' := (Any.strings_IndexByte Tryz.lays137 s c w).mono fun _ _ ⟨he, hw⟩ => ⟨he, hw.symm⟩

theorem indexDigs_calls (c v : Int) (h : Lib.indexByte digs.data.toList c.toNat.toUInt8 = v) (w : World) :
    Calls Tryz.prog 121 #[.string digs, .int .u8 c] w fun e w' => e = .returned (.int .i64 v) ∧ w = w' := by
  subst h
  exact indexByte_calls digs c w

set_option maxHeartbeats 1000000 in
theorem checkOf_calls (w : World) : Calls Tryz.prog 74 #[.string serN] w fun e w' => e = .returned (.int .u8 77) ∧ w = w' := by
  obtain ⟨s, hs⟩ : ∃ s, serN = s := ⟨_, rfl⟩
  have hn : s.size ≤ 10 := by rw [← hs]; decide
  have hn' : 10 ≤ s.size := by rw [← hs]; decide
  have hix : ∀ k (h : k < s.size), (Lib.indexByte digs.data.toList ((s[k].toNat : Int)).toNat.toUInt8) = ixK k := by
    subst hs
    intro k h
    have h2 : k < serN.data.toList.length := h
    have e1 : serN.data.toList.getD k 0 = serN[k] := by
      rw [List.getD_eq_getElem?_getD, List.getElem?_eq_getElem h2]; rfl
    unfold ixK ixD
    rw [e1]
    congr 1
    simp
  have HS := Lib.hid hs
  have HI := Lib.hid hix
  rw [hs]
  clear hs hix
  go_enter Tryz.func74, Tryz.ntmps74
  go_wp2
  go_loop [3, 7] (fun t i => ∃ k : Nat, k ≤ s.size ∧ i = .int .i64 k ∧ t = .int .i64 (sumK k)) (fun _ i => s.size - (intOf i).toNat)
  case atStart => exact ⟨0, Nat.zero_le _, rfl, rfl⟩
  case round =>
    obtain ⟨k, hk, rfl, rfl⟩ := hrel
    by_cases hlt : k < s.size
    · obtain ⟨b1, b2⟩ := ixK_bd k (by omega)
      obtain ⟨b3, b4⟩ := sumK_bd k (by omega)
      have HE := Lib.hid (HI.out k hlt)
      have x1 : (2 : Int) ≤ (k : Int) + 2 := by omega
      have x2 : (k : Int) + 2 ≤ 11 := by omega
      have x3 : 0 ≤ ((k : Int) + 2) * ixK k := Int.mul_nonneg (by omega) b1
      have x4 : ((k : Int) + 2) * ixK k ≤ 400 := by
        have := Int.mul_le_mul x2 b2 b1 (by omega)
        omega
      go_wp2_with fail
      refine (indexDigs_calls _ _ HE.out _).mono ?_
      rintro e w' ⟨rfl, rfl⟩
      go_wp2_with fail
      go_round
      case rel => exact ⟨k + 1, by omega, by go_num, by simp only [sumK]⟩
      case measure => simp [intOf]; omega
    · have hkn : k = 10 := by omega
      subst hkn
      have hsk : sumK 10 = 130 := by decide
      rw [hsk] at *
      go_wp2_with fail
      go_ret
      exact ⟨rfl, rfl⟩

end Go.Proofs.YteandmolnbcmmaaGreatDoor

namespace Go.Proofs.YteandmolnbcmmaaGreatDoor
open Go.RowKit Go.Sort

def strH : ByteArray := ⟨#[104]⟩
theorem strH_key : keyB strH = true := by decide
theorem strH_size : strH.size ≤ maxLen := by decide

theorem keyH_calls (w : World) : Calls Tryz.prog 100 #[.string strH] w fun e w' => e = .returned (.bool true) ∧ w = w' := by
  have := key_calls strH w strH_size
  rw [strH_key] at this
  exact this

theorem outT_calls (n lo hi : Int) (b : Bool) (h : outB n lo hi = b) (w : World) : Calls Tryz.prog 65 #[.int .i64 n, .int .i64 lo, .int .i64 hi] w fun e w' => e = .returned (.bool b) ∧ w = w' := by
  subst h
  exact out_calls n lo hi w

theorem momT_calls (n : Int) (b : Bool) (h : momentB n = b) (w : World) : Calls Tryz.prog 76 #[.int .i64 n] w fun e w' => e = .returned (.bool b) ∧ w = w' := by
  subst h
  exact moment_calls n w

set_option maxHeartbeats 1000000 in
theorem checkPings_calls (b : Nat) (w : World) (c0 : w.cell? ⟨b, 0, none⟩ = some (.string strH)) (c1 : w.cell? ⟨b, 1, none⟩ = some (.int .i64 10)) (c2 : w.cell? ⟨b, 2, none⟩ = some (.int .i64 15)) (c3 : w.cell? ⟨b, 3, none⟩ = some (.int .i64 10)) :
    Calls Tryz.prog 132 #[.slice (some ⟨b, 0, none⟩) 1 1] w fun e w' => e = .returned (.int .i64 0) ∧ Grows w w' := by
  obtain ⟨h, hh⟩ : ∃ h, strH = h := ⟨_, rfl⟩
  rw [hh] at c0
  have hk : ∀ w, Calls Tryz.prog 100 #[.string h] w fun e w' => e = .returned (.bool true) ∧ w = w' := by subst hh; exact keyH_calls
  have HK := Lib.hid hk
  have HG := Lib.hid ((Grows.refl w).alloc (.cells #[.string h, .int .i64 10, .int .i64 15, .int .i64 10] 86))
  clear hk hh
  go_enter Tryz.func132, Tryz.ntmps132
  go_wp2
  refine wp_loop_rounds 2 ?_
  rw [rounds_succ]
  go_wp2_with (first | (go_at_call 100; refine (HK.out _).mono ?_; rintro e w' ⟨rfl, rfl⟩) | (go_at_call 76; refine (momT_calls _ true (by decide) _).mono ?_; rintro e w' ⟨rfl, rfl⟩))
  go_quiet (fail)
  go_wp2_with fail
  rw [rounds_succ]
  go_wp2_with fail
  go_ret
  exact ⟨rfl, HG.out.drewN _⟩

end Go.Proofs.YteandmolnbcmmaaGreatDoor
