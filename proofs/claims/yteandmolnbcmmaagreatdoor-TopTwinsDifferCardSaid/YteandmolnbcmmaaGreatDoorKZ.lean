/- The closed facts: alarm.newHouse. The closed facts: an alarm's life turns. The closed facts: a life follows a signal. No condition beyond what each theorem states. -/
import Derived.Deep.RegionLaw
import Derived.Test.YteandmolnbcmmaaGreatDoorKY

namespace Go.Proofs.YteandmolnbcmmaaGreatDoor
open Go.RowKit Go.Sort Go.ChangeMaps

theorem len_calls (x : Int) (h0 : 0 ≤ x) (h1 : x ≤ 18446744073709551615) (w : World) : Calls Tryz.prog 48 #[.int .u64 x] w fun e w' => e = .returned (.int .i64 (Lib.bitLen x.toNat)) ∧ w = w' :=
  (Any.bits_Len Tryz.lays125 x w h0 h1).mono fun _ _ ⟨he, hw⟩ => ⟨he, hw.symm⟩

set_option maxHeartbeats 1000000 in
theorem ins237_calls (s fv : Value) (w : World) : Calls Tryz.prog 237 #[s, .int .i64 0, .int .i64 1, fv] w fun e w' => e = .returned (.tuple #[]) ∧ w = w' := by
  go_enter Tryz.func237, Tryz.ntmps237
  go_wp2
  refine wp_loop_rounds 1 ?_
  rw [rounds_succ]
  go_wp2_with fail
  go_end0
  exact ⟨rfl, rfl⟩

set_option maxHeartbeats 1000000 in
set_option maxRecDepth 100000 in
theorem pdq205_calls (s fv lim : Value) (w : World) : Calls Tryz.prog 205 #[s, .int .i64 0, .int .i64 1, lim, fv] w fun e w' => e = .returned (.tuple #[]) ∧ w = w' := by
  go_enter Tryz.func205, Tryz.ntmps205
  go_wp2
  refine wp_loop_rounds 1 ?_
  rw [rounds_succ]
  go_wp2_with (go_at_call 237; refine (ins237_calls _ _ _).mono ?_; rintro e w' ⟨rfl, rfl⟩)
  refine bodyPost_ret (results_none rfl _ _ _) rfl ?_
  exact ⟨rfl, rfl⟩

set_option maxHeartbeats 1000000 in
theorem sort168_calls (A : Option Addr) (c : Nat) (fv : Value) (w : World) : Calls Tryz.prog 168 #[.slice A 1 c, fv] w fun e w' => e = .returned (.tuple #[]) ∧ w = w' := by
  go_enter Tryz.func168, Tryz.ntmps168
  go_wp2_with (first | (go_at_call 48; refine (len_calls _ (by decide) (by decide) _).mono ?_; rintro e w' ⟨rfl, rfl⟩) | (go_at_call 205; refine (pdq205_calls _ _ _ _).mono ?_; rintro e w' ⟨rfl, rfl⟩))
  go_end0
  exact ⟨rfl, rfl⟩

theorem sigAt_new (w : World) (d r : ByteArray) : SigAt (w.alloc (.cells #[.int .i64 1, .int .i64 1, .string d, .string r, .string ⟨#[]⟩, .int .i64 0] 79)) w.heap.size d r :=
  ⟨cell_new w _ 79 0 _ _ rfl rfl, cell_new w _ 79 1 _ _ rfl rfl, cell_new w _ 79 2 _ _ rfl rfl, cell_new w _ 79 3 _ _ rfl rfl, cell_new w _ 79 4 _ _ rfl rfl, cell_new w _ 79 5 _ _ rfl rfl⟩

def life0 (d r : ByteArray) : Array Value := #[.string d, .string r, .int .i64 0, .int .i64 0, .slice none 0 0, .int .i64 0, .slice none 0 0, .slice none 0 0, .slice none 0 0, .slice none 0 0, .slice none 0 0]

/-- The house of one alarm. -/
structure House (w : World) (N L : Nat) (d r : ByteArray) (ls : Array Value) : Prop where
  map : w.heap[N]? = some (.map #[⟨.agg #[.string d, .string r], .pointer (some ⟨L, 0, none⟩), 0⟩] 1)
  house : ∃ v, Blk w (N + 1) 121 #[.map (some N), v]
  life : Blk w L 192 ls
  lt : N + 1 < L

theorem info117 : (Tryz.prog.info? 117).map (fun i => (i.zero, i.size, i.bytes)) = some (some (.pointer none), 1, 8) := by kernel_rfl
theorem under119 : Tryz.prog.underlying 119 = some (.slice 117) := by kernel_rfl

set_option maxHeartbeats 4000000 in
set_option maxRecDepth 100000 in
theorem newHouse_calls (b : Nat) (d r : ByteArray) (w : World) (hs : SigAt w b d r) :
    Calls Tryz.prog 123 #[.slice (some ⟨b, 0, none⟩) 1 1] w fun e w' => e = .returned (.pointer (some ⟨w.heap.size + 1, 0, none⟩)) ∧ (∃ L, House w' w.heap.size L d r (life0 d r)) ∧ Keeps (· < w.heap.size) w w' := by
  obtain ⟨i0, hi0, hz0, hz1, hz2⟩ := info_parts info117
  have hmm := @run_makeMap Tryz.prog
  have K2 := Lib.hid (((Keeps.refl (· < w.heap.size) w).alloc (fun _ h => h) (.map #[] 0)).alloc (fun k h => by simp; omega) (.cells #[.map (some w.heap.size), .slice none 0 0] 121))
  have HS := Lib.hid (hs.keeps K2.out hs.lt)
  have M2 : Hid (((w.alloc (.map #[] 0)).alloc (.cells #[.map (some w.heap.size), .slice none 0 0] 121)).heap[w.heap.size]? = some (.map #[] 0)) := Lib.hid ((Below.heap_alloc _ _ _ (by simp)).trans (heap_alloc_new w _))
  have P2 : Hid (Blk ((w.alloc (.map #[] 0)).alloc (.cells #[.map (some w.heap.size), .slice none 0 0] 121)) (w.heap.size + 1) 121 #[.map (some w.heap.size), .slice none 0 0]) := Lib.hid (by have := Blk.new (w.alloc (.map #[] 0)) 121 #[.map (some w.heap.size), .slice none 0 0]; simpa using this)
  clear hs
  go_enter Tryz.func123, Tryz.ntmps123
  go_wp2
  generalize (w.alloc (.map #[] 0)).alloc (.cells #[.map (some w.heap.size), .slice none 0 0] 121) = w2 at *
  obtain ⟨N, hN⟩ : ∃ N, w.heap.size = N := ⟨_, rfl⟩
  rw [hN] at M2 P2 K2 ⊢
  have HNN := Lib.hid hN
  clear hN
  obtain ⟨c0, c1, c2, c3, c4, c5⟩ := HS.out
  have n1 : N + 1 < w2.heap.size := P2.out.lt
  refine wp_loop_rounds 2 ?_
  rw [rounds_succ]
  go_wp2_with fail
  have M4 : Hid (((w2.alloc (.cells #[.int .i64 1, .int .i64 1, .string d, .string r, .string ⟨#[]⟩, .int .i64 0] 79)).alloc (.cells #[.string d, .string r] 125)).heap[N]? = some (.map #[] 0)) := Lib.hid ((Below.heap_alloc _ _ _ (by simp; omega)).trans ((Below.heap_alloc w2 _ _ (by omega)).trans M2.out))
  have P4 := Lib.hid ((P2.out.alloc (.cells #[.int .i64 1, .int .i64 1, .string d, .string r, .string ⟨#[]⟩, .int .i64 0] 79)).alloc (.cells #[.string d, .string r] 125))
  have K4 := Lib.hid ((K2.out.alloc (fun k h => by omega) (.cells #[.int .i64 1, .int .i64 1, .string d, .string r, .string ⟨#[]⟩, .int .i64 0] 79)).alloc (fun k h => by simp; omega) (.cells #[.string d, .string r] 125))
  have Q4 : Hid (Blk ((w2.alloc (.cells #[.int .i64 1, .int .i64 1, .string d, .string r, .string ⟨#[]⟩, .int .i64 0] 79)).alloc (.cells #[.string d, .string r] 125)) (w2.heap.size + 1) 125 #[.string d, .string r]) := Lib.hid (by have := Blk.new (w2.alloc (.cells #[.int .i64 1, .int .i64 1, .string d, .string r, .string ⟨#[]⟩, .int .i64 0] 79)) 125 #[.string d, .string r]; simpa using this)
  obtain ⟨S, hS⟩ : ∃ S, w2.heap.size = S := ⟨_, rfl⟩
  rw [hS] at n1 Q4 ⊢
  clear hS c0 c1 c2 c3 c4 c5 P2 M2 K2 HS
  generalize (w2.alloc (.cells #[.int .i64 1, .int .i64 1, .string d, .string r, .string ⟨#[]⟩, .int .i64 0] 79)).alloc (.cells #[.string d, .string r] 125) = w4 at *
  have e0 : w4.cell? ⟨N + 1, 0, none⟩ = some (.map (some N)) := P4.out.cell 0
  have e1 : w4.cell? ⟨N + 1, 1, none⟩ = some (.slice none 0 0) := P4.out.cell 1
  have e2 : w4.cell? ⟨S + 1, 0, none⟩ = some (.string d) := Q4.out.cell 0
  have e3 : w4.cell? ⟨S + 1, 1, none⟩ = some (.string r) := Q4.out.cell 1
  have lk : ∀ n, (Instr.lookup 118 (.map (some N)) (.agg #[.string d, .string r]) false).run Tryz.prog (w4.drewN n) = .ok (.pointer none) (w4.drewN n) := fun n => look125_none (w := w4.drewN n) M4.out d r
  go_quiet (fail)
  go_wp2_with fail
  have M5 : Hid (((w4.drewN nq).alloc (.cells #[.string d, .string r, .int .i64 0, .int .i64 0, .slice none 0 0, .int .i64 0, .slice none 0 0, .slice none 0 0, .slice none 0 0, .slice none 0 0, .slice none 0 0] 192)).heap[N]? = some (.map #[] 0)) := Lib.hid ((Below.heap_alloc (w4.drewN nq) _ _ (Nat.lt_of_succ_lt P4.out.lt)).trans M4.out)
  have P5 := Lib.hid ((P4.out.drewN nq).alloc (.cells #[.string d, .string r, .int .i64 0, .int .i64 0, .slice none 0 0, .int .i64 0, .slice none 0 0, .slice none 0 0, .slice none 0 0, .slice none 0 0, .slice none 0 0] 192))
  have Q5 := Lib.hid ((Q4.out.drewN nq).alloc (.cells #[.string d, .string r, .int .i64 0, .int .i64 0, .slice none 0 0, .int .i64 0, .slice none 0 0, .slice none 0 0, .slice none 0 0, .slice none 0 0, .slice none 0 0] 192))
  have K5 : Hid (Keeps (· < N) w ((w4.drewN nq).alloc (.cells #[.string d, .string r, .int .i64 0, .int .i64 0, .slice none 0 0, .int .i64 0, .slice none 0 0, .slice none 0 0, .slice none 0 0, .slice none 0 0, .slice none 0 0] 192))) := Lib.hid ((K4.out.drewN nq).alloc (fun k h => Nat.lt_trans h (Nat.lt_of_succ_lt P4.out.lt)) (.cells #[.string d, .string r, .int .i64 0, .int .i64 0, .slice none 0 0, .int .i64 0, .slice none 0 0, .slice none 0 0, .slice none 0 0, .slice none 0 0, .slice none 0 0] 192))
  have L5 : Hid (Blk ((w4.drewN nq).alloc (.cells #[.string d, .string r, .int .i64 0, .int .i64 0, .slice none 0 0, .int .i64 0, .slice none 0 0, .slice none 0 0, .slice none 0 0, .slice none 0 0, .slice none 0 0] 192)) w4.heap.size 192 #[.string d, .string r, .int .i64 0, .int .i64 0, .slice none 0 0, .int .i64 0, .slice none 0 0, .slice none 0 0, .slice none 0 0, .slice none 0 0, .slice none 0 0]) := Lib.hid (Blk.new (w4.drewN nq) 192 _)
  obtain ⟨L, hL⟩ : ∃ L, w4.heap.size = L := ⟨_, rfl⟩
  have hNL : N + 1 < L := by rw [← hL]; exact P4.out.lt
  rw [hL] at L5 ⊢
  clear hL e0 e1 e2 e3 lk P4 Q4 K4 M4
  generalize (w4.drewN nq).alloc (.cells #[.string d, .string r, .int .i64 0, .int .i64 0, .slice none 0 0, .int .i64 0, .slice none 0 0, .slice none 0 0, .slice none 0 0, .slice none 0 0, .slice none 0 0] 192) = w5 at *
  have e0 : w5.cell? ⟨N + 1, 0, none⟩ = some (.map (some N)) := P5.out.cell 0
  have e1 : w5.cell? ⟨N + 1, 1, none⟩ = some (.slice none 0 0) := P5.out.cell 1
  have e2 : w5.cell? ⟨S + 1, 0, none⟩ = some (.string d) := Q5.out.cell 0
  have e3 : w5.cell? ⟨S + 1, 1, none⟩ = some (.string r) := Q5.out.cell 1
  have hu : (Instr.mapUpdate 118 (.map (some N)) (.agg #[.string d, .string r]) (.pointer (some ⟨L, 0, none⟩))).run Tryz.prog w5.drew = .ok () (setBlock w5.drew N (.map #[⟨.agg #[.string d, .string r], .pointer (some ⟨L, 0, none⟩), 0⟩] (0 + 1))) := upd125 (w := w5.drew) M5.out d r _
  go_cut [] (fun wx => wx = setBlock w5.drew N (.map #[⟨.agg #[.string d, .string r], .pointer (some ⟨L, 0, none⟩), 0⟩] (0 + 1)))
  case first =>
    go_region
    all_goals
      go_wp2_with fail
      go_meet
      rfl
  case rest =>
  subst hcut
  have hne1 : N + 1 ≠ N := by omega
  have hne2 : L ≠ N := by omega
  have M6 : Hid ((setBlock w5.drew N (.map #[⟨.agg #[.string d, .string r], .pointer (some ⟨L, 0, none⟩), 0⟩] (0 + 1))).heap[N]? = some (.map #[⟨.agg #[.string d, .string r], .pointer (some ⟨L, 0, none⟩), 0⟩] 1)) := Lib.hid (heap_setBlock_same (w := w5.drew) M5.out _)
  have P6 : Hid (Blk (setBlock w5.drew N (.map #[⟨.agg #[.string d, .string r], .pointer (some ⟨L, 0, none⟩), 0⟩] (0 + 1))) (N + 1) 121 #[.map (some N), .slice none 0 0]) := Lib.hid ((heap_setBlock_other (w := w5.drew) M5.out _ hne1).trans P5.out)
  have L6 : Hid (Blk (setBlock w5.drew N (.map #[⟨.agg #[.string d, .string r], .pointer (some ⟨L, 0, none⟩), 0⟩] (0 + 1))) L 192 (life0 d r)) := Lib.hid ((heap_setBlock_other (w := w5.drew) M5.out _ hne2).trans L5.out)
  have K6 : Hid (Keeps (· < N) w (setBlock w5.drew N (.map #[⟨.agg #[.string d, .string r], .pointer (some ⟨L, 0, none⟩), 0⟩] (0 + 1)))) := Lib.hid (K5.out.drew.trans ⟨rfl, rfl, rfl, by simp [setBlock], fun k h => heap_setBlock_other (w := w5.drew) M5.out _ (Nat.ne_of_lt h)⟩)
  clear e0 e1 e2 e3 hu M5 P5 L5 K5 Q5
  generalize setBlock w5.drew N (.map #[⟨.agg #[.string d, .string r], .pointer (some ⟨L, 0, none⟩), 0⟩] (0 + 1)) = w6 at *
  have e1 : w6.cell? ⟨N + 1, 1, none⟩ = some (.slice none 0 0) := P6.out.cell 1
  have f1 : w6.frozen? ⟨N + 1, 1, none⟩ = false := P6.out.frozen 1
  have hLs : L < w6.heap.size := L6.out.lt
  go_wp2_with (at_builtin; refine wpList_append_Own _ (by rfl) _ _ _ (by rfl) N 117 i0 _ 1 8 under119 hi0 hz0 hz1 hz2 rfl (by omega) _ _ _ (by rfl) (Own.nil _ _ _ _) ⟨w6.heap.size, 0, none⟩ 1 1 [.pointer (some ⟨L, 0, none⟩)] (by rfl) (by rfl) (World.news_of_block (cs := #[.pointer (some ⟨L, 0, none⟩)]) (t := 117) (fr := (0, 0)) (heap_alloc_new w6 _)) (by simp [Value.oneCell']) (by unfold maxLen; omega) (by omega) (by simp; omega) ?_; intro v' w7 hown hgrow hfr; obtain ⟨g, off, cap, hvv, hcc, hgb, hgl⟩ := hown.form (by omega); subst hvv; have P7 : Hid (Blk w7 (N + 1) 121 #[.map (some N), .slice none 0 0]) := Lib.hid ((P6.out.alloc _).grown hgrow (by simp [Value.ownBlock])); have f7 : w7.frozen? ⟨N + 1, 1, none⟩ = false := P7.out.frozen 1; have c7 : w7.cell? ⟨N + 1, 1, none⟩ = some (.slice none 0 0) := P7.out.cell 1)
  have M7 : Hid (w7.heap[N]? = some (.map #[⟨.agg #[.string d, .string r], .pointer (some ⟨L, 0, none⟩), 0⟩] 1)) := Lib.hid ((hgrow.block N (by simp; omega) (by simp [Value.ownBlock])).trans ((Below.heap_alloc w6 _ N (by omega)).trans M6.out))
  have L7 : Hid (Blk w7 L 192 (life0 d r)) := Lib.hid ((L6.out.alloc _).grown hgrow (by simp [Value.ownBlock]))
  have K7 : Hid (Keeps (· < N) w w7) := Lib.hid ((K6.out.alloc (fun k h => by omega) _).trans ((Keeps.refl _ _).grown hgrow (fun k h => by simp; omega) (fun k hk => by simp [Value.ownBlock] at hk)))
  have P8 : Hid (Blk (w7.setCell ⟨N + 1, 1, none⟩ (.slice (some ⟨g, off, none⟩) 1 cap)) (N + 1) 121 #[.map (some N), .slice (some ⟨g, off, none⟩) 1 cap]) := Lib.hid (P7.out.set_ 1 _)
  have M8 : Hid ((w7.setCell ⟨N + 1, 1, none⟩ (.slice (some ⟨g, off, none⟩) 1 cap)).heap[N]? = some (.map #[⟨.agg #[.string d, .string r], .pointer (some ⟨L, 0, none⟩), 0⟩] 1)) := Lib.hid ((Below.heap_setCell w7 ⟨N + 1, 1, none⟩ _ N (by dsimp only; omega)).trans M7.out)
  have L8 : Hid (Blk (w7.setCell ⟨N + 1, 1, none⟩ (.slice (some ⟨g, off, none⟩) 1 cap)) L 192 (life0 d r)) := Lib.hid (L7.out.far (p := ⟨N + 1, 1, none⟩) (by dsimp only; omega) _)
  have K8 : Hid (Keeps (· < N) w (w7.setCell ⟨N + 1, 1, none⟩ (.slice (some ⟨g, off, none⟩) 1 cap))) := Lib.hid (K7.out.setCell (p := ⟨N + 1, 1, none⟩) (by dsimp only; omega) _)
  clear hown hgrow hfr P7 f7 c7 M7 L7 K7 M6 L6 P6 K6 e1 f1
  generalize w7.setCell ⟨N + 1, 1, none⟩ (.slice (some ⟨g, off, none⟩) 1 cap) = w8 at *
  have e1 : w8.cell? ⟨N + 1, 1, none⟩ = some (.slice (some ⟨g, off, none⟩) 1 cap) := P8.out.cell 1
  rw [rounds_succ]
  go_wp2_with (go_at_call 168; refine (sort168_calls _ _ _ _).mono ?_; rintro e w' ⟨rfl, rfl⟩)
  go_ret
  rw [HNN.out]
  exact ⟨rfl, ⟨L, M8.out, ⟨_, P8.out⟩, L8.out, hNL⟩, K8.out⟩

end Go.Proofs.YteandmolnbcmmaaGreatDoor

namespace Go.Proofs.YteandmolnbcmmaaGreatDoor
open Go.RowKit Go.Sort Go.ChangeMaps

theorem info25 : (Tryz.prog.info? 25).map (fun i => (i.zero, i.size, i.bytes)) = some (some (.agg #[.int .i64 0, .int .i64 0]), 2, 16) := by kernel_rfl
theorem under190 : Tryz.prog.underlying 190 = some (.slice 25) := by kernel_rfl

def life1 (d r : ByteArray) (raises up fresh : Value) : Array Value := #[.string d, .string r, .int .i64 1, .int .i64 1, raises, .int .i64 0, up, fresh, .slice none 0 0, .slice none 0 0, .slice none 0 0]

theorem news2 (w : World) (L : Nat) (c : Nat) (v : Value) : ∀ j u, [Value.int .i64 1, .int .i64 345686400000][j]? = some u → ((w.setCell ⟨L, c, none⟩ v).alloc (.cells #[.int .i64 1, .int .i64 345686400000] 25)).cell? ((⟨w.heap.size, 0, none⟩ : Addr).add j) = some u := by
  have := World.news_of_block (cs := #[.int .i64 1, .int .i64 345686400000]) (t := 25) (fr := (0, 0)) (heap_alloc_new (w.setCell ⟨L, c, none⟩ v) (.cells #[.int .i64 1, .int .i64 345686400000] 25))
  simpa using this

set_option maxHeartbeats 4000000 in
set_option maxRecDepth 100000 in
theorem turn206_calls (L : Nat) (d r : ByteArray) (w : World) (hl : Blk w L 192 (life0 d r)) :
    Calls Tryz.prog 206 #[.pointer (some ⟨L, 0, none⟩), .int .i64 1, .int .i64 1] w fun e w' => e = .returned (.tuple #[]) ∧ (∃ u f, Blk w' L 192 (life1 d r (.slice none 0 0) u f)) ∧ Keeps (fun k => k < w.heap.size ∧ k ≠ L) w w' := by
  obtain ⟨i0, hi0, hz0, hz1, hz2⟩ := info_parts info25
  have c2 : w.cell? ⟨L, 2, none⟩ = some (.int .i64 0) := hl.cell 2
  have c7 : w.cell? ⟨L, 7, none⟩ = some (.slice none 0 0) := hl.cell 7
  have HL := Lib.hid hl
  have hlt := hl.lt
  clear hl
  go_enter Tryz.func206, Tryz.ntmps206
  go_wp2_with (first
    | (at_builtin; refine wpList_append_Own _ (by rfl) _ _ _ (by rfl) w.heap.size 25 i0 _ 2 16 under190 hi0 hz0 hz1 hz2 rfl (by omega) _ _ _ (by rfl) (Own.nil _ _ _ _) ⟨w.heap.size, 0, none⟩ 1 1 [.int .i64 1, .int .i64 345686400000] (by rfl) (by rfl) (World.news_of_block (cs := #[.int .i64 1, .int .i64 345686400000]) (t := 25) (fr := (0, 0)) (heap_alloc_new w _)) (by simp [Value.oneCell']) (by unfold maxLen; omega) (by omega) (by simp) ?_
       intro v' w2 hown hgrow hfr
       obtain ⟨g, off, cap, hvv, hcc, hgb, hgl⟩ := hown.form (by omega)
       subst hvv
       have P2 : Hid (Blk w2 L 192 (life0 d r)) := Lib.hid ((HL.out.alloc _).grown hgrow (by simp [Value.ownBlock]))
       have d2 : w2.cell? ⟨L, 2, none⟩ = some (.int .i64 0) := P2.out.cell 2
       have d3 : w2.cell? ⟨L, 3, none⟩ = some (.int .i64 0) := P2.out.cell 3
       have d6 : w2.cell? ⟨L, 6, none⟩ = some (.slice none 0 0) := P2.out.cell 6
       have d7 : w2.cell? ⟨L, 7, none⟩ = some (.slice none 0 0) := P2.out.cell 7
       have f7 : w2.frozen? ⟨L, 7, none⟩ = false := P2.out.frozen 7
       have K2 : Hid (Keeps (fun k => k < w.heap.size ∧ k ≠ L) w w2) := Lib.hid ((((Keeps.refl _ w).alloc (fun _ h => h.1) _).trans ((Keeps.refl _ _).grown hgrow (fun k h => Nat.lt_of_lt_of_le h.1 (by simp)) (fun k hk => by simp [Value.ownBlock] at hk))))
       have hlt2 : L < w2.heap.size := P2.out.lt
       have N2 := Lib.hid (news2 w2 L 7 (.slice (some ⟨g, off, none⟩) 1 cap))
       clear hown hgrow hfr c2 c7)
    | (at_builtin; refine wpList_append_Own _ (by rfl) _ _ _ (by rfl) w.heap.size 25 i0 _ 2 16 under190 hi0 hz0 hz1 hz2 rfl (by omega) _ _ _ (by rfl) (Own.nil _ _ _ _) ⟨w2.heap.size, 0, none⟩ 1 1 [.int .i64 1, .int .i64 345686400000] (by rfl) (by rfl) N2.out (by simp [Value.oneCell']) (by unfold maxLen; omega) (by omega) (by have := K2.out.size; simp; omega) ?_
       intro v3 w3 hown hgrow hfr
       obtain ⟨g3, off3, cap3, hvv, hcc3, hgb3, hgl3⟩ := hown.form (by omega)
       subst hvv
       have P3 : Hid (Blk w3 L 192 #[.string d, .string r, .int .i64 0, .int .i64 0, .slice none 0 0, .int .i64 0, .slice none 0 0, .slice (some ⟨g, off, none⟩) 1 cap, .slice none 0 0, .slice none 0 0, .slice none 0 0]) := Lib.hid (((P2.out.set_ 7 _).alloc _).grown hgrow (by simp [Value.ownBlock]))
       have d2 : w3.cell? ⟨L, 2, none⟩ = some (.int .i64 0) := P3.out.cell 2
       have d3 : w3.cell? ⟨L, 3, none⟩ = some (.int .i64 0) := P3.out.cell 3
       have d6 : w3.cell? ⟨L, 6, none⟩ = some (.slice none 0 0) := P3.out.cell 6
       have f6 : w3.frozen? ⟨L, 6, none⟩ = false := P3.out.frozen 6
       have f2 : w3.frozen? ⟨L, 2, none⟩ = false := P3.out.frozen 2
       have f3 : w3.frozen? ⟨L, 3, none⟩ = false := P3.out.frozen 3
       have K3 : Hid (Keeps (fun k => k < w.heap.size ∧ k ≠ L) w w3) := Lib.hid (((K2.out.setCell (p := ⟨L, 7, none⟩) (fun h => h.2 rfl) _).alloc (fun k h => Nat.lt_of_lt_of_le h.1 (by have := K2.out.size; simpa using this)) _).trans ((Keeps.refl _ _).grown hgrow (fun k h => Nat.lt_of_lt_of_le h.1 (by have := K2.out.size; simp; omega)) (fun k hk => by simp [Value.ownBlock] at hk)))
       clear hown hgrow hfr P2 K2 N2))
  go_end0
  exact ⟨rfl, ⟨_, _, ((P3.out.set_ 6 _).set_ 2 _).set_ 3 _⟩, ((K3.out.setCell (p := ⟨L, 6, none⟩) (fun h => h.2 rfl) _).setCell (p := ⟨L, 2, none⟩) (fun h => h.2 rfl) _).setCell (p := ⟨L, 3, none⟩) (fun h => h.2 rfl) _⟩

end Go.Proofs.YteandmolnbcmmaaGreatDoor

namespace Go.Proofs.YteandmolnbcmmaaGreatDoor
open Go.RowKit Go.Sort Go.ChangeMaps

theorem info3 : (Tryz.prog.info? 3).map (fun i => (i.zero, i.size, i.bytes)) = some (some (.int .i64 0), 1, 8) := by kernel_rfl
theorem under106 : Tryz.prog.underlying 106 = some (.slice 3) := by kernel_rfl

set_option maxHeartbeats 4000000 in
set_option maxRecDepth 100000 in
theorem follow171_calls (L : Nat) (d r : ByteArray) (w : World) (hl : Blk w L 192 (life0 d r)) :
    Calls Tryz.prog 171 #[.pointer (some ⟨L, 0, none⟩), .agg #[.int .i64 1, .int .i64 1, .string d, .string r, .string ⟨#[]⟩, .int .i64 0]] w fun e w' => e = .returned (.int .i64 0) ∧ (∃ A c u f, Blk w' L 192 (life1 d r (.slice A 1 c) u f)) ∧ Keeps (fun k => k < w.heap.size ∧ k ≠ L) w w' := by
  obtain ⟨i0, hi0, hz0, hz1, hz2⟩ := info_parts info3
  have HL := Lib.hid (hl.alloc (.cells #[.int .i64 1, .int .i64 1, .string d, .string r, .string ⟨#[]⟩, .int .i64 0] 79))
  have c2 : (w.alloc (.cells #[.int .i64 1, .int .i64 1, .string d, .string r, .string ⟨#[]⟩, .int .i64 0] 79)).cell? ⟨L, 2, none⟩ = some (.int .i64 0) := HL.out.cell 2
  have hlt := hl.lt
  have HK := Lib.hid ((Keeps.refl (fun k => k < w.heap.size ∧ k ≠ L) w).alloc (fun _ h => h.1) (.cells #[.int .i64 1, .int .i64 1, .string d, .string r, .string ⟨#[]⟩, .int .i64 0] 79))
  have HS := Lib.hid (Blk.new w 79 #[.int .i64 1, .int .i64 1, .string d, .string r, .string ⟨#[]⟩, .int .i64 0])
  clear hl
  go_enter Tryz.func171, Tryz.ntmps171
  go_wp2_with fail
  refine (turn206_calls L d r _ HL.out).mono ?_
  rintro e w2 ⟨rfl, ⟨u, f, hL⟩, hK⟩
  have L2 := Lib.hid hL
  have K2 := Lib.hid (HK.out.trans (hK.mono fun k h => ⟨by simp; omega, h.2⟩))
  have S2 : Hid (Blk w2 w.heap.size 79 #[.int .i64 1, .int .i64 1, .string d, .string r, .string ⟨#[]⟩, .int .i64 0]) := Lib.hid (hK.blk HS.out ⟨by simp, by omega⟩)
  have c4 : w2.cell? ⟨L, 4, none⟩ = some (.slice none 0 0) := hL.cell 4
  have f4 : w2.frozen? ⟨L, 4, none⟩ = false := hL.frozen 4
  have s0 : w2.cell? ⟨w.heap.size, 0, none⟩ = some (.int .i64 1) := S2.out.cell 0
  have c4' := cell_alloc_old c4 (.cells #[.int .i64 1] 3)
  clear hL hK c2
  go_wp2_with fail
  go_cut [] (fun wx => (∃ A c, Blk wx L 192 (life1 d r (.slice A 1 c) u f)) ∧ Keeps (fun k => k < w.heap.size ∧ k ≠ L) w wx)
  case first =>
    go_region_law
      ((refine step_append_Own (by rfl) _ _ _ (by rfl) w.heap.size 3 i0 _ 1 8 under106 hi0 hz0 hz1 hz2 rfl (by omega) _ _ _ (by rfl) (Own.nil _ _ _ _)
          ⟨w2.heap.size, 0, none⟩ 1 1 [.int .i64 1] (by rfl) (by rfl) (World.news_of_block (cs := #[.int .i64 1]) (t := 3) (fr := (0, 0)) (heap_alloc_new w2 _)) (by simp [Value.oneCell'])
          (by unfold maxLen; omega) (by omega) (by have := K2.out.size; simp; omega) ?_; intro v' w3 hown2 hgrow hfr; obtain ⟨vA, vC, hv', hvc⟩ := hown2.slice; rw [hv']; have P3 : Hid (Blk w3 L 192 (life1 d r (.slice none 0 0) u f)) := Lib.hid ((L2.out.alloc _).drew.grown hgrow (by simp [Value.ownBlock])); have hf2 : w3.frozen? ⟨L, 4, none⟩ = false := P3.out.frozen 4; have hc2 : w3.cell? ⟨L, 4, none⟩ = some (.slice none 0 0) := P3.out.cell 4))
    all_goals
      have K3 : Hid (Keeps (fun k => k < w.heap.size ∧ k ≠ L) w w3) := Lib.hid (((K2.out.alloc (fun k h => Nat.lt_of_lt_of_le h.1 K2.out.size) _).drew).trans ((Keeps.refl _ _).grown hgrow (fun k h => Nat.lt_of_lt_of_le h.1 (by have := K2.out.size; simp; omega)) (fun k hk => by simp [Value.ownBlock] at hk)))
      go_wp2_with fail
      go_meet
      exact ⟨⟨_, _, P3.out.set_ 4 _⟩, K3.out.setCell (p := ⟨L, 4, none⟩) (fun h => h.2 rfl) _⟩
  case rest =>
  obtain ⟨⟨A, c, hL⟩, hK⟩ := hcut
  have L4 := Lib.hid hL
  have K4 := Lib.hid hK
  clear hL hK c4 c4' f4 s0
  go_wp2_with fail
  go_ret
  exact ⟨rfl, ⟨_, _, _, _, L4.out⟩, K4.out⟩

end Go.Proofs.YteandmolnbcmmaaGreatDoor
