/- Walks: the closures of the laws of values, and wFar. No condition beyond what each theorem states. -/
import Derived.Test.YteandmolnbcmmaaGreatDoorMG

namespace Go.Proofs.YteandmolnbcmmaaGreatDoor
open Go.RowKit Go.Sort

def farB (n : Int) : Bool := decide (n < -1000000000) || decide (1000000000 < n)

theorem far_calls (n : Int) (w : World) : Calls Tryz.prog 32 #[.int .i64 n] w fun e w' => e = .returned (.bool (farB n)) ∧ w = w' := by
  by_cases h1 : n < -1000000000
  · have e : farB n = true := by simp [farB, h1]
    rw [e]
    clear e
    go_enter Tryz.func32, Tryz.ntmps32
    go_wp2
    go_ret
    exact ⟨rfl, rfl⟩
  · have e : farB n = decide (1000000000 < n) := by simp [farB, h1]
    rw [e]
    clear e
    go_enter Tryz.func32, Tryz.ntmps32
    go_wp2
    go_ret
    exact ⟨rfl, rfl⟩

theorem neg1_calls (n : Int) (w : World) : Calls Tryz.prog 22 #[.int .i64 n] w fun e w' => e = .returned (.int .i64 (wrap64 (-n))) ∧ w = w' := by
  go_enter Tryz.func22, Tryz.ntmps22
  go_wp2
  go_ret
  exact ⟨rfl, rfl⟩

theorem mul1_calls (k n : Int) (b : Nat) (w : World) (h : w.cell? ⟨b, 0, none⟩ = some (.int .i64 k)) : Calls Tryz.prog 25 #[.int .i64 n, .pointer (some ⟨b, 0, none⟩)] w fun e w' => e = .returned (.int .i64 (wrap64 (k * n))) ∧ w = w' := by
  go_enter Tryz.func25, Tryz.ntmps25
  go_wp2
  go_ret
  exact ⟨rfl, rfl⟩

theorem add1_calls (k n : Int) (b : Nat) (w : World) (h : w.cell? ⟨b, 0, none⟩ = some (.int .i64 k)) : Calls Tryz.prog 33 #[.int .i64 n, .pointer (some ⟨b, 0, none⟩)] w fun e w' => e = .returned (.int .i64 (wrap64 (n + k))) ∧ w = w' := by
  go_enter Tryz.func33, Tryz.ntmps33
  go_wp2
  go_ret
  exact ⟨rfl, rfl⟩

def negW (r : Rule) : Rule := { r with above := !r.above, on := wrap64 (-r.on), off := wrap64 (-r.off), agg := if r.agg = 2 ∨ r.agg = 3 then wrap64 (5 - r.agg) else r.agg }

set_option maxHeartbeats 4000000 in
set_option maxRecDepth 100000 in
theorem neg2_at (key metric : ByteArray) (agg long on off hold rest empty : Int) (above : Bool) (w : World) (agg' : Int) (ha : (agg = 2 ∨ agg = 3) ∧ agg' = wrap64 (5 - agg) ∨ (agg ≠ 2 ∧ agg ≠ 3) ∧ agg' = agg) :
    Calls Tryz.prog 23 #[.agg #[.string key, .string metric, .int .i64 agg, .int .i64 long, .bool above, .int .i64 on, .int .i64 off, .int .i64 hold, .int .i64 rest, .int .i64 empty]] w fun e w' =>
      e = .returned (.agg #[.string key, .string metric, .int .i64 agg', .int .i64 long, .bool (!above), .int .i64 (wrap64 (-on)), .int .i64 (wrap64 (-off)), .int .i64 hold, .int .i64 rest, .int .i64 empty]) ∧ Below w.heap.size w w' := by
  rcases ha with ⟨rfl | rfl, rfl⟩ | ⟨⟨h2, h3⟩, rfl⟩
  · go_enter Tryz.func23, Tryz.ntmps23
    go_wp2_with fail
    exact bodyPost_ret (v := .agg #[.string key, .string metric, .int .i64 3, .int .i64 long, .bool (!above), .int .i64 (wrap64 (-on)), .int .i64 (wrap64 (-off)), .int .i64 hold, .int .i64 rest, .int .i64 empty]) (by simp [results, Tryz.results23, go_sem]) rfl ⟨by first | rfl | rw [show wrap64 (5 - 2) = 3 by unfold wrap64; omega] | rw [show wrap64 (5 - 3) = 2 by unfold wrap64; omega], (((Below.refl w.heap.size w).alloc (Nat.le_refl _) _).alloc (by simp) _)⟩
  · go_enter Tryz.func23, Tryz.ntmps23
    go_wp2_with fail
    exact bodyPost_ret (v := .agg #[.string key, .string metric, .int .i64 2, .int .i64 long, .bool (!above), .int .i64 (wrap64 (-on)), .int .i64 (wrap64 (-off)), .int .i64 hold, .int .i64 rest, .int .i64 empty]) (by simp [results, Tryz.results23, go_sem]) rfl ⟨by first | rfl | rw [show wrap64 (5 - 2) = 3 by unfold wrap64; omega] | rw [show wrap64 (5 - 3) = 2 by unfold wrap64; omega], (((Below.refl w.heap.size w).alloc (Nat.le_refl _) _).alloc (by simp) _)⟩
  · go_enter Tryz.func23, Tryz.ntmps23
    go_wp2_with fail
    exact bodyPost_ret (v := .agg #[.string key, .string metric, .int .i64 agg', .int .i64 long, .bool (!above), .int .i64 (wrap64 (-on)), .int .i64 (wrap64 (-off)), .int .i64 hold, .int .i64 rest, .int .i64 empty]) (by simp [results, Tryz.results23, go_sem]) rfl ⟨by first | rfl | rw [show wrap64 (5 - 2) = 3 by unfold wrap64; omega] | rw [show wrap64 (5 - 3) = 2 by unfold wrap64; omega], (((Below.refl w.heap.size w).alloc (Nat.le_refl _) _).alloc (by simp) _)⟩

theorem neg2_calls (r : Rule) (w : World) : Calls Tryz.prog 23 #[.agg #[.string r.key, .string r.metric, .int .i64 r.agg, .int .i64 r.long, .bool r.above, .int .i64 r.on, .int .i64 r.off, .int .i64 r.hold, .int .i64 r.rest, .int .i64 r.empty]] w fun e w' =>
    e = .returned (.agg (encR (negW r)).toArray) ∧ Below w.heap.size w w' := by
  by_cases h : r.agg = 2 ∨ r.agg = 3
  · have := neg2_at r.key r.metric r.agg r.long r.on r.off r.hold r.rest r.empty r.above w _ (.inl ⟨h, rfl⟩)
    have e : (encR (negW r)).toArray = #[.string r.key, .string r.metric, .int .i64 (wrap64 (5 - r.agg)), .int .i64 r.long, .bool (!r.above), .int .i64 (wrap64 (-r.on)), .int .i64 (wrap64 (-r.off)), .int .i64 r.hold, .int .i64 r.rest, .int .i64 r.empty] := by
      simp only [encR, negW, if_pos h]
    rw [e]
    exact this
  · have := neg2_at r.key r.metric r.agg r.long r.on r.off r.hold r.rest r.empty r.above w _ (.inr ⟨by omega, rfl⟩)
    have e : (encR (negW r)).toArray = #[.string r.key, .string r.metric, .int .i64 r.agg, .int .i64 r.long, .bool (!r.above), .int .i64 (wrap64 (-r.on)), .int .i64 (wrap64 (-r.off)), .int .i64 r.hold, .int .i64 r.rest, .int .i64 r.empty] := by
      simp only [encR, negW, if_neg h]
    rw [e]
    exact this

def mulW (k : Int) (r : Rule) : Rule := { r with on := wrap64 (k * r.on), off := wrap64 (k * r.off) }
def addW (k : Int) (r : Rule) : Rule := if r.agg ≠ 6 then { r with on := wrap64 (r.on + k), off := wrap64 (r.off + k) } else r

set_option maxHeartbeats 4000000 in
set_option maxRecDepth 100000 in
theorem mul2_calls (k : Int) (r : Rule) (b : Nat) (w : World) (h : w.cell? ⟨b, 0, none⟩ = some (.int .i64 k)) : Calls Tryz.prog 26 #[.agg #[.string r.key, .string r.metric, .int .i64 r.agg, .int .i64 r.long, .bool r.above, .int .i64 r.on, .int .i64 r.off, .int .i64 r.hold, .int .i64 r.rest, .int .i64 r.empty], .pointer (some ⟨b, 0, none⟩)] w fun e w' =>
    e = .returned (.agg (encR (mulW k r)).toArray) ∧ Below w.heap.size w w' := by
  have hb := World.block_lt_of_cell? w _ h
  have hb1 : b ≠ w.heap.size := by dsimp only at hb; omega
  go_enter Tryz.func26, Tryz.ntmps26
  go_wp2_with fail
  have e0 := cell_alloc_old (cell_alloc_old h (.cells #[.string r.key, .string r.metric, .int .i64 r.agg, .int .i64 r.long, .bool r.above, .int .i64 r.on, .int .i64 r.off, .int .i64 r.hold, .int .i64 r.rest, .int .i64 r.empty] 31)) (.cells #[.string ⟨#[]⟩, .string ⟨#[]⟩, .int .i64 0, .int .i64 0, .bool false, .int .i64 0, .int .i64 0, .int .i64 0, .int .i64 0, .int .i64 0] 31)
  go_region
  go_wp2_with fail
  exact bodyPost_ret (v := .agg #[.string r.key, .string r.metric, .int .i64 r.agg, .int .i64 r.long, .bool r.above, .int .i64 (wrap64 (k * r.on)), .int .i64 (wrap64 (k * r.off)), .int .i64 r.hold, .int .i64 r.rest, .int .i64 r.empty]) (by simp [results, Tryz.results26, go_sem]) rfl ⟨rfl, ((((Below.refl w.heap.size w).alloc (Nat.le_refl _) _).alloc (by simp) _)).drew⟩

set_option maxHeartbeats 4000000 in
set_option maxRecDepth 100000 in
theorem add2_at (k g : Int) (r : Rule) (hg : r.agg = g) (b : Nat) (w : World) (h : w.cell? ⟨b, 0, none⟩ = some (.int .i64 k)) : Calls Tryz.prog 34 #[.agg #[.string r.key, .string r.metric, .int .i64 g, .int .i64 r.long, .bool r.above, .int .i64 r.on, .int .i64 r.off, .int .i64 r.hold, .int .i64 r.rest, .int .i64 r.empty], .pointer (some ⟨b, 0, none⟩)] w fun e w' =>
    e = .returned (.agg (encR (addW k r)).toArray) ∧ Below w.heap.size w w' := by
  have hb := World.block_lt_of_cell? w _ h
  have hb1 : b ≠ w.heap.size := by dsimp only at hb; omega
  by_cases h6 : g = 6
  · have e : (encR (addW k r)).toArray = #[.string r.key, .string r.metric, .int .i64 6, .int .i64 r.long, .bool r.above, .int .i64 r.on, .int .i64 r.off, .int .i64 r.hold, .int .i64 r.rest, .int .i64 r.empty] := by
      unfold addW
      rw [if_neg (by omega)]
      simp only [encR, hg, h6]
    rw [e]
    clear e
    subst h6
    clear hg
    go_enter Tryz.func34, Tryz.ntmps34
    go_wp2_with fail
    exact bodyPost_ret (v := .agg #[.string r.key, .string r.metric, .int .i64 6, .int .i64 r.long, .bool r.above, .int .i64 r.on, .int .i64 r.off, .int .i64 r.hold, .int .i64 r.rest, .int .i64 r.empty]) (by simp [results, Tryz.results34, go_sem]) rfl ⟨rfl, ((((Below.refl w.heap.size w).alloc (Nat.le_refl _) _).alloc (by simp) _))⟩
  · have e : (encR (addW k r)).toArray = #[.string r.key, .string r.metric, .int .i64 g, .int .i64 r.long, .bool r.above, .int .i64 (wrap64 (r.on + k)), .int .i64 (wrap64 (r.off + k)), .int .i64 r.hold, .int .i64 r.rest, .int .i64 r.empty] := by
      unfold addW
      rw [if_pos (by omega)]
      simp only [encR, hg]
    rw [e]
    clear e hg
    go_enter Tryz.func34, Tryz.ntmps34
    go_wp2_with fail
    have e0 := cell_alloc_old (cell_alloc_old h (.cells #[.string r.key, .string r.metric, .int .i64 g, .int .i64 r.long, .bool r.above, .int .i64 r.on, .int .i64 r.off, .int .i64 r.hold, .int .i64 r.rest, .int .i64 r.empty] 31)) (.cells #[.string ⟨#[]⟩, .string ⟨#[]⟩, .int .i64 0, .int .i64 0, .bool false, .int .i64 0, .int .i64 0, .int .i64 0, .int .i64 0, .int .i64 0] 31)
    go_region
    go_wp2_with fail
    exact bodyPost_ret (v := .agg #[.string r.key, .string r.metric, .int .i64 g, .int .i64 r.long, .bool r.above, .int .i64 (wrap64 (r.on + k)), .int .i64 (wrap64 (r.off + k)), .int .i64 r.hold, .int .i64 r.rest, .int .i64 r.empty]) (by simp [results, Tryz.results34, go_sem]) rfl ⟨rfl, ((((Below.refl w.heap.size w).alloc (Nat.le_refl _) _).alloc (by simp) _)).drew⟩

theorem add2_calls (k : Int) (r : Rule) (b : Nat) (w : World) (h : w.cell? ⟨b, 0, none⟩ = some (.int .i64 k)) : Calls Tryz.prog 34 #[.agg #[.string r.key, .string r.metric, .int .i64 r.agg, .int .i64 r.long, .bool r.above, .int .i64 r.on, .int .i64 r.off, .int .i64 r.hold, .int .i64 r.rest, .int .i64 r.empty], .pointer (some ⟨b, 0, none⟩)] w fun e w' =>
    e = .returned (.agg (encR (addW k r)).toArray) ∧ Below w.heap.size w w' := add2_at k r.agg r rfl b w h
end Go.Proofs.YteandmolnbcmmaaGreatDoor
