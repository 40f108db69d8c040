/- Walks of small functions of package base and of cmp. Walks: cmp.Or, base.First. Walk: base.Key. No condition beyond what each theorem states. -/
import Derived.WalkKit
import Derived.WalkSpells
import Derived.WalkLawsBesides
import Derived.Lib.Hide
import Derived.BigGuardPart
import Derived.Lib.Strings
import Derived.Test.YteandmolnbcmmaaGreatDoorProg
import Derived.Test.YteandmolnbcmmaaGreatDoorKB

namespace Go.Proofs.YteandmolnbcmmaaGreatDoor
open Go.RowKit

def outB (n lo hi : Int) : Bool := decide (n < lo) || decide (hi < n)

set_option maxHeartbeats 400000 in
theorem out_calls (n lo hi : Int) (w : World) : Calls Tryz.prog 65 #[.int .i64 n, .int .i64 lo, .int .i64 hi] w fun e w' => e = .returned (.bool (outB n lo hi)) ∧ w = w' := by
  by_cases h1 : n < lo
  · have e : outB n lo hi = true := by simp [outB, h1]
    rw [e]
    clear e
    go_enter Tryz.func65, Tryz.ntmps65
    go_wp2
    go_ret
    exact ⟨rfl, rfl⟩
  · have e : outB n lo hi = decide (hi < n) := by simp [outB, h1]
    rw [e]
    clear e
    go_enter Tryz.func65, Tryz.ntmps65
    go_wp2
    go_ret
    exact ⟨rfl, rfl⟩

def momentB (n : Int) : Bool := !outB n 0 345686399999

set_option maxHeartbeats 400000 in
theorem moment_calls (n : Int) (w : World) : Calls Tryz.prog 76 #[.int .i64 n] w fun e w' => e = .returned (.bool (momentB n)) ∧ w = w' := by
  go_enter Tryz.func76, Tryz.ntmps76
  go_wp2_with (go_at_call 65; refine (out_calls _ _ _ _).mono ?_; rintro e w' ⟨rfl, rfl⟩)
  go_ret
  exact ⟨rfl, rfl⟩

set_option maxHeartbeats 400000 in
theorem cmpInt_calls (x y : Int) (w : World) : Calls Tryz.prog 50 #[.int .i64 x, .int .i64 y] w fun e w' => e = .returned (.int .i64 (iCmp x y)) ∧ w = w' := by
  have hn : ∀ (z : Int) (w : World), Calls Tryz.prog 97 #[.int .i64 z] w fun e w' => e = .returned (.bool false) ∧ w = w' := fun z w => by
    go_enter Tryz.func97, Tryz.ntmps97
    go_wp2
    go_ret
    simp
  unfold iCmp
  by_cases h1 : x < y
  · rw [if_pos h1]
    go_enter Tryz.func50, Tryz.ntmps50
    go_wp2_with (go_at_call 97; refine (hn _ _).mono ?_; rintro e w' ⟨rfl, rfl⟩)
    go_ret
    exact ⟨rfl, rfl⟩
  · rw [if_neg h1]
    by_cases h2 : y < x
    · rw [if_pos h2]
      go_enter Tryz.func50, Tryz.ntmps50
      go_wp2_with (go_at_call 97; refine (hn _ _).mono ?_; rintro e w' ⟨rfl, rfl⟩)
      go_ret
      exact ⟨rfl, rfl⟩
    · rw [if_neg h2]
      go_enter Tryz.func50, Tryz.ntmps50
      go_wp2_with (go_at_call 97; refine (hn _ _).mono ?_; rintro e w' ⟨rfl, rfl⟩)
      go_ret
      exact ⟨rfl, rfl⟩

end Go.Proofs.YteandmolnbcmmaaGreatDoor

namespace Go.Proofs.YteandmolnbcmmaaGreatDoor
open Go.RowKit

theorem orI_drop (l : List Int) (k : Nat) (h : k < l.length) : orI (l.drop k) = if l.getD k 0 ≠ 0 then l.getD k 0 else orI (l.drop (k + 1)) := by
  rw [List.drop_eq_getElem_cons h, orI]
  simp [List.getD, h]

theorem orI_end (l : List Int) (k : Nat) (h : ¬ k < l.length) : orI (l.drop k) = 0 := by
  rw [List.drop_eq_nil_of_le (by omega)]; rfl

theorem ret_i64 {a b : Int} (h : a = b) : Ending.returned (.int .i64 a) = .returned (.int .i64 b) := by rw [h]

set_option maxHeartbeats 400000 in
theorem or_calls (l : List Int) (b off c : Nat) (w : World) (hl : l.length ≤ 1000000) (hc : ∀ i, i < l.length → w.cell? ⟨b, off + i, none⟩ = some (.int .i64 (l.getD i 0))) :
    Calls Tryz.prog 49 #[.slice (some ⟨b, off, none⟩) l.length c] w fun e w' => e = .returned (.int .i64 (orI l)) ∧ w = w' := by
  generalize hn : l.length = n at *
  have HN := Lib.hid hn
  clear hn
  have HC := Lib.hid hc
  clear hc
  go_enter Tryz.func49, Tryz.ntmps49
  go_wp2
  go_loop [8] (fun i => ∃ k : Nat, k ≤ n ∧ i = .int .i64 k ∧ Hid (orI (l.drop k) = orI l)) (fun i => n - (intOf i).toNat)
  case atStart => exact ⟨0, Nat.zero_le _, rfl, Lib.hid rfl⟩
  case round =>
    obtain ⟨k, hk, rfl, H⟩ := hrel
    by_cases hlt : k < n
    · have h1 := HC.out k hlt
      have hd := orI_drop l k (by rw [HN.out]; exact hlt)
      by_cases hz : l.getD k 0 = 0
      · rw [hz] at h1
        have H2 : Hid (orI (l.drop (k + 1)) = orI l) := Lib.hid (by rw [if_neg (by simpa using hz)] at hd; rw [← hd]; exact H.out)
        clear hd hz H
        go_wp2
        go_round
        case rel => exact ⟨k + 1, by omega, by go_num, H2⟩
        case measure => simp [intOf]; omega
      · rw [if_pos hz] at hd
        have H2 := Lib.hid hd
        clear hd
        generalize l.getD k 0 = x at *
        go_wp2
        go_ret
        exact ⟨ret_i64 (by rw [← H.out, H2.out]), rfl⟩
    · have H2 := Lib.hid (orI_end l k (by rw [HN.out]; exact hlt))
      go_wp2
      go_ret
      exact ⟨ret_i64 (by rw [← H.out, H2.out]), rfl⟩

set_option maxHeartbeats 400000 in
theorem first_calls (l : List Int) (b off c : Nat) (w : World) (hl : l.length ≤ 1000000) (hc : ∀ i, i < l.length → w.cell? ⟨b, off + i, none⟩ = some (.int .i64 (l.getD i 0))) :
    Calls Tryz.prog 55 #[.slice (some ⟨b, off, none⟩) l.length c] w fun e w' => e = .returned (.int .i64 (orI l)) ∧ w = w' := by
  generalize hn : l.length = n at *
  have HN := Lib.hid hn
  clear hn
  have HC := Lib.hid hc
  clear hc
  go_enter Tryz.func55, Tryz.ntmps55
  go_wp2
  go_loop [7] (fun i => ∃ k : Nat, k ≤ n ∧ i = .int .i64 k ∧ Hid (orI (l.drop k) = orI l)) (fun i => n - (intOf i).toNat)
  case atStart => exact ⟨0, Nat.zero_le _, rfl, Lib.hid rfl⟩
  case round =>
    obtain ⟨k, hk, rfl, H⟩ := hrel
    by_cases hlt : k < n
    · have h1 := HC.out k hlt
      have hd := orI_drop l k (by rw [HN.out]; exact hlt)
      by_cases hz : l.getD k 0 = 0
      · rw [hz] at h1
        have H2 : Hid (orI (l.drop (k + 1)) = orI l) := Lib.hid (by rw [if_neg (by simpa using hz)] at hd; rw [← hd]; exact H.out)
        clear hd hz H
        go_wp2
        go_round
        case rel => exact ⟨k + 1, by omega, by go_num, H2⟩
        case measure => simp [intOf]; omega
      · rw [if_pos hz] at hd
        have H2 := Lib.hid hd
        clear hd
        generalize l.getD k 0 = x at *
        go_wp2
        go_ret
        exact ⟨ret_i64 (by rw [← H.out, H2.out]), rfl⟩
    · have H2 := Lib.hid (orI_end l k (by rw [HN.out]; exact hlt))
      go_wp2
      go_ret
      exact ⟨ret_i64 (by rw [← H.out, H2.out]), rfl⟩
end Go.Proofs.YteandmolnbcmmaaGreatDoor

namespace Go.Proofs.YteandmolnbcmmaaGreatDoor
open Go.RowKit

theorem ret_bool {a b : Bool} (h : a = b) : Ending.returned (.bool a) = .returned (.bool b) := by rw [h]

theorem size_list (s : ByteArray) : s.data.toList.length = s.size := Array.length_toList

theorem keyB_eq (s : ByteArray) : keyB s = true ↔ 0 < s.size ∧ s.size ≤ 40 ∧ (∀ h : 0 < s.size, 97 ≤ s[0].toNat ∧ s[0].toNat ≤ 122) ∧ ∀ c ∈ s.data.toList, okC c = true := by
  unfold keyB keyL
  have hl := size_list s
  have h0 : ∀ h : 0 < s.size, s[0] = s.data.toList[0]'(by rw [hl]; exact h) := fun h => rfl
  revert hl h0
  generalize s.data.toList = l
  intro hl h0
  cases l with
  | nil => simp at hl; simp [← hl]
  | cons a m =>
    simp only [Bool.and_eq_true, decide_eq_true_eq, List.all_eq_true]
    rw [hl]
    have hp : 0 < s.size := by simp at hl; omega
    have e : s[0] = a := h0 hp
    constructor
    · rintro ⟨⟨h1, h2, h3⟩, h4⟩
      refine ⟨hp, h1, fun _ => ?_, h4⟩
      rw [e]
      simp only [UInt8.le_iff_toNat_le] at h2 h3
      exact ⟨h2, h3⟩
    · rintro ⟨_, h1, h2, h4⟩
      have := h2 hp
      rw [e] at this
      exact ⟨⟨h1, by simpa [UInt8.le_iff_toNat_le] using this.1, by simpa [UInt8.le_iff_toNat_le] using this.2⟩, h4⟩

theorem keyB_no {s : ByteArray} (h : ¬ (0 < s.size ∧ s.size ≤ 40 ∧ (∀ h : 0 < s.size, 97 ≤ s[0].toNat ∧ s[0].toNat ≤ 122) ∧ ∀ c ∈ s.data.toList, okC c = true)) : keyB s = false := by
  cases e : keyB s with
  | false => rfl
  | true => exact absurd ((keyB_eq s).1 e) h

theorem okC_eq (c : UInt8) : okC c = true ↔ (97 ≤ (c.toNat : Int) ∧ (c.toNat : Int) ≤ 122) ∨ (48 ≤ (c.toNat : Int) ∧ (c.toNat : Int) ≤ 57) ∨ (c.toNat : Int) = 45 ∨ (c.toNat : Int) = 95 := by
  unfold okC
  have e1 : (c == 45) = true ↔ c.toNat = 45 := by rw [beq_iff_eq, ← UInt8.toNat_inj]; rfl
  have e2 : (c == 95) = true ↔ c.toNat = 95 := by rw [beq_iff_eq, ← UInt8.toNat_inj]; rfl
  simp only [Bool.or_eq_true, Bool.and_eq_true, decide_eq_true_eq, UInt8.le_iff_toNat_le, e1, e2]
  simp
  omega

set_option maxHeartbeats 1000000 in
theorem key_calls (s : ByteArray) (w : World) (hs : s.size ≤ maxLen) : Calls Tryz.prog 100 #[.string s] w fun e w' => e = .returned (.bool (keyB s)) ∧ w = w' := by
  unfold maxLen at hs
  by_cases h0 : s.size = 0
  · have hk : keyB s = false := keyB_no (by omega)
    rw [hk]
    have hne : s.toList.isEmpty = true := by
      rw [Lib.toList_data, List.length_eq_zero_iff.1 ((size_list s).trans h0)]; rfl
    clear hk
    go_enter Tryz.func100, Tryz.ntmps100
    go_wp2
    go_ret
    exact ⟨rfl, rfl⟩
  have hne : s.toList.isEmpty = false := by rw [Lib.toList_data]; have := size_list s; cases hl : s.data.toList with | nil => rw [hl] at this; simp at this; omega | cons a m => rfl
  by_cases h40 : 40 < s.size
  · have hk : keyB s = false := keyB_no (by omega)
    rw [hk]
    clear hk
    go_enter Tryz.func100, Tryz.ntmps100
    go_wp2
    go_ret
    exact ⟨rfl, rfl⟩
  have hp : 0 < s.size := by omega
  have h40' : decide (40 < (s.size : Int)) = false := decide_eq_false (by omega)
  by_cases ha : s[0].toNat < 97
  · have hk : keyB s = false := keyB_no (fun h => by have := h.2.2.1 hp; omega)
    rw [hk]
    clear hk
    go_enter Tryz.func100, Tryz.ntmps100
    go_wp2
    go_ret
    exact ⟨rfl, rfl⟩
  by_cases hz : 122 < s[0].toNat
  · have hk : keyB s = false := keyB_no (fun h => by have := h.2.2.1 hp; omega)
    rw [hk]
    have hz' : decide (122 < (s[0].toNat : Int)) = true := decide_eq_true (by omega)
    have ha' : decide ((s[0].toNat : Int) < 97) = false := decide_eq_false (by omega)
    clear hk
    go_enter Tryz.func100, Tryz.ntmps100
    go_wp2
    go_ret
    exact ⟨rfl, rfl⟩
  have HF : Hid (97 ≤ s[0].toNat ∧ s[0].toNat ≤ 122) := Lib.hid (by omega)
  have hz' : decide (122 < (s[0].toNat : Int)) = false := decide_eq_false (by omega)
  have ha' : decide ((s[0].toNat : Int) < 97) = false := decide_eq_false (by omega)
  go_enter Tryz.func100, Tryz.ntmps100
  go_wp2
  go_loop [24] (fun i => ∃ k : Nat, k ≤ s.size ∧ i = .int .i64 k ∧ Hid (∀ c ∈ s.data.toList.take k, okC c = true)) (fun i => s.size - (intOf i).toNat)
  case atStart => exact ⟨0, Nat.zero_le _, rfl, Lib.hid (by simp)⟩
  case round =>
    obtain ⟨k, hk, rfl, H⟩ := hrel
    by_cases hlt : k < s.size
    · have hmem : s[k] ∈ s.data.toList := by
        have : s[k] = s.data.toList[k]'(by rw [size_list]; exact hlt) := rfl
        rw [this]; exact List.getElem_mem _
      by_cases hok : okC s[k] = true
      · have H2 : Hid (∀ c ∈ s.data.toList.take (k + 1), okC c = true) := Lib.hid (by
          rw [List.take_succ_eq_append_getElem (by rw [size_list]; exact hlt)]
          intro c hc
          rcases List.mem_append.1 hc with hc | hc
          · exact H.out c hc
          · simp at hc; rw [hc]; exact hok)
        have ho := (okC_eq _).1 hok
        clear hok hmem H
        by_cases c1 : 97 ≤ (s[k].toNat : Int) ∧ (s[k].toNat : Int) ≤ 122
        · obtain ⟨c1, c2⟩ := c1
          clear ho
          go_wp2
          go_round
          case rel => exact ⟨k + 1, by omega, by go_num, H2⟩
          case measure => simp [intOf]; omega
        · by_cases c2 : 48 ≤ (s[k].toNat : Int) ∧ (s[k].toNat : Int) ≤ 57
          · obtain ⟨c2, c3⟩ := c2
            clear ho c1
            go_wp2
            go_round
            case rel => exact ⟨k + 1, by omega, by go_num, H2⟩
            case measure => simp [intOf]; omega
          · by_cases c3 : (s[k].toNat : Int) = 45
            · have n1 : ((s[k].toNat : Int) == 45) = true := by simp [c3]
              have n2 : (s[k].toNat : Int) < 48 := by omega
              clear ho c1 c2 c3
              go_wp2
              go_round
              case rel => exact ⟨k + 1, by omega, by go_num, H2⟩
              case measure => simp [intOf]; omega
            · have n3 : (s[k].toNat : Int) = 95 := by omega
              have n1 : ((s[k].toNat : Int) == 45) = false := by simp [n3]
              have n2 : ((s[k].toNat : Int) == 95) = true := by simp [n3]
              have n4 : (s[k].toNat : Int) < 97 := by omega
              have n5 : 57 < (s[k].toNat : Int) := by omega
              clear ho c1 c2 c3 n3
              go_wp2
              all_goals
                go_round
                case rel => exact ⟨k + 1, by omega, by go_num, H2⟩
                case measure => simp [intOf]; omega
      · have hkb : keyB s = false := keyB_no (fun h => hok (h.2.2.2 _ hmem))
        have HK := Lib.hid hkb
        have ho : ¬ _ := fun x => hok ((okC_eq _).2 x)
        have n1 : ((s[k].toNat : Int) == 45) = false := by simp only [beq_eq_false_iff_ne]; omega
        have n2 : ((s[k].toNat : Int) == 95) = false := by simp only [beq_eq_false_iff_ne]; omega
        have g1 : (s[k].toNat : Int) < 97 ∨ 122 < (s[k].toNat : Int) := by omega
        have g2 : (s[k].toNat : Int) < 48 ∨ 57 < (s[k].toNat : Int) := by omega
        clear ho hok hkb hmem H
        have m1 : (!((s[k].toNat : Int) == 95)) = true := by rw [n2]; rfl
        rcases g1 with g1 | g1
        · have d1 : decide (97 ≤ (s[k].toNat : Int)) = false := decide_eq_false (by omega)
          rcases g2 with g2 | g2
          · have d2 : decide (48 ≤ (s[k].toNat : Int)) = false := decide_eq_false (by omega)
            go_wp2
            go_ret
            exact ⟨ret_bool HK.out.symm, rfl⟩
          · have d2 : decide (48 ≤ (s[k].toNat : Int)) = true := decide_eq_true (by omega)
            have d3 : decide ((s[k].toNat : Int) ≤ 57) = false := decide_eq_false (by omega)
            go_wp2
            go_ret
            exact ⟨ret_bool HK.out.symm, rfl⟩
        · have d1 : decide (97 ≤ (s[k].toNat : Int)) = true := decide_eq_true (by omega)
          have d0 : decide ((s[k].toNat : Int) ≤ 122) = false := decide_eq_false (by omega)
          have d2 : decide (48 ≤ (s[k].toNat : Int)) = true := decide_eq_true (by omega)
          have d3 : decide ((s[k].toNat : Int) ≤ 57) = false := decide_eq_false (by omega)
          go_wp2
          go_ret
          exact ⟨ret_bool HK.out.symm, rfl⟩
    · have hkk : keyB s = true := by
        rw [keyB_eq]
        refine ⟨hp, by omega, fun _ => HF.out, ?_⟩
        have := H.out
        rwa [List.take_of_length_le (by rw [size_list]; omega)] at this
      have HK := Lib.hid hkk
      have hd : decide (k < s.size) = false := decide_eq_false hlt
      clear hkk
      go_wp2
      go_ret
      exact ⟨ret_bool HK.out.symm, rfl⟩
end Go.Proofs.YteandmolnbcmmaaGreatDoor
