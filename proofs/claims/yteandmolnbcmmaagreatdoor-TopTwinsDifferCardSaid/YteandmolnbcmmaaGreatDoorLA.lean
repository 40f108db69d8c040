/- The closed facts: alarm.at, view, AlarmOf. The closed facts: alarm.AlarmOf. The closed facts: h06facts is true. No condition beyond what each theorem states. -/
import Derived.BigRegion
import Derived.Test.YteandmolnbcmmaaGreatDoorKZ

namespace Go.Proofs.YteandmolnbcmmaaGreatDoor
open Go.RowKit Go.Sort Go.ChangeMaps

set_option maxHeartbeats 4000000 in
set_option maxRecDepth 100000 in
theorem follow124_calls (N L : Nat) (d r : ByteArray) (w : World) (hh : House w N L d r (life0 d r)) :
    Calls Tryz.prog 124 #[.pointer (some ⟨N + 1, 0, none⟩), .agg #[.int .i64 1, .int .i64 1, .string d, .string r, .string ⟨#[]⟩, .int .i64 0]] w fun e w' => e = .returned (.int .i64 0) ∧ (∃ A c u f, House w' N L d r (life1 d r (.slice A 1 c) u f)) ∧ Keeps (fun k => k < w.heap.size ∧ k ≠ L) w w' := by
  have K1 := Lib.hid ((Keeps.refl (fun k => k < w.heap.size ∧ k ≠ L) w).alloc (fun _ h => h.1) (.cells #[.int .i64 1, .int .i64 1, .string d, .string r, .string ⟨#[]⟩, .int .i64 0] 79))
  have L1 := Lib.hid (hh.life.alloc (.cells #[.int .i64 1, .int .i64 1, .string d, .string r, .string ⟨#[]⟩, .int .i64 0] 79))
  have S1 := Lib.hid (Blk.new w 79 #[.int .i64 1, .int .i64 1, .string d, .string r, .string ⟨#[]⟩, .int .i64 0])
  have hNl : N < w.heap.size := Nat.lt_trans (Nat.lt_of_succ_lt hh.lt) hh.life.lt
  have M1 : Hid ((w.alloc (.cells #[.int .i64 1, .int .i64 1, .string d, .string r, .string ⟨#[]⟩, .int .i64 0] 79)).heap[N]? = some (.map #[⟨.agg #[.string d, .string r], .pointer (some ⟨L, 0, none⟩), 0⟩] 1)) := Lib.hid ((Below.heap_alloc w _ N hNl).trans hh.map)
  have hLl := hh.life.lt
  have hNL := hh.lt
  obtain ⟨v, hv⟩ := hh.house
  have hv1 := hv.lt
  have P1 := Lib.hid (hv.alloc (.cells #[.int .i64 1, .int .i64 1, .string d, .string r, .string ⟨#[]⟩, .int .i64 0] 79))
  have HH := Lib.hid hh
  have HV := Lib.hid hv
  clear hh hv
  go_enter Tryz.func124, Tryz.ntmps124
  go_wp2_with fail
  obtain ⟨S, hS⟩ : ∃ S, w.heap.size = S := ⟨_, rfl⟩
  have HSz := Lib.hid hS
  rw [hS] at S1 hLl hNl hv1 K1 ⊢
  clear hS
  generalize w.alloc (.cells #[.int .i64 1, .int .i64 1, .string d, .string r, .string ⟨#[]⟩, .int .i64 0] 79) = w1 at *
  have e0 : w1.cell? ⟨N + 1, 0, none⟩ = some (.map (some N)) := P1.out.cell 0
  have s0 : w1.cell? ⟨S, 0, none⟩ = some (.int .i64 1) := S1.out.cell 0
  have s1 : w1.cell? ⟨S, 1, none⟩ = some (.int .i64 1) := S1.out.cell 1
  have s2 : w1.cell? ⟨S, 2, none⟩ = some (.string d) := S1.out.cell 2
  have s3 : w1.cell? ⟨S, 3, none⟩ = some (.string r) := S1.out.cell 3
  have s4 : w1.cell? ⟨S, 4, none⟩ = some (.string ⟨#[]⟩) := S1.out.cell 4
  have s5 : w1.cell? ⟨S, 5, none⟩ = some (.int .i64 0) := S1.out.cell 5
  have lk : (Instr.lookup 118 (.map (some N)) (.agg #[.string d, .string r]) false).run Tryz.prog w1.drew = .ok (.pointer (some ⟨L, 0, none⟩)) w1.drew := look125_one (w := w1.drew) d r _ M1.out
  have hne1 : S ≠ L := by omega
  have hne2 : N + 1 ≠ L := by omega
  go_region_held3 (fun w' => w'.cell? ⟨N + 1, 0, none⟩ = some (.map (some N)) ∧ w'.cell? ⟨S, 0, none⟩ = some (.int .i64 1) ∧ w'.cell? ⟨S, 1, none⟩ = some (.int .i64 1) ∧ w'.cell? ⟨S, 2, none⟩ = some (.string d) ∧ w'.cell? ⟨S, 3, none⟩ = some (.string r) ∧ w'.cell? ⟨S, 4, none⟩ = some (.string ⟨#[]⟩) ∧ w'.cell? ⟨S, 5, none⟩ = some (.int .i64 0))
    (first
      | exact ⟨e0, s0, s1, s2, s3, s4, s5⟩
      | go_keep
      | exact ⟨k1 _ _ e0, k0 _ s0, k0 _ s1, k0 _ s2, k0 _ s3, k0 _ s4, k0 _ s5⟩)
    ((go_at_call 171
      refine (follow171_calls L d r w1.drew L1.out).mono ?_
      rintro e w2 ⟨rfl, ⟨A, c, u, f, hL2⟩, hK2⟩
      have k0 : ∀ o v, w1.cell? ⟨S, o, none⟩ = some v → w2.cell? ⟨S, o, none⟩ = some v := fun o v h => hK2.cell (b := S) ⟨S1.out.lt, hne1⟩ h
      have k1 : ∀ o v, w1.cell? ⟨N + 1, o, none⟩ = some v → w2.cell? ⟨N + 1, o, none⟩ = some v := fun o v h => hK2.cell (b := N + 1) ⟨P1.out.lt, hne2⟩ h))
  all_goals
    go_wp2_with fail
    go_ret
    have hM : w2.heap[N]? = some (.map #[⟨.agg #[.string d, .string r], .pointer (some ⟨L, 0, none⟩), 0⟩] 1) := (hK2.block N ⟨Nat.lt_of_succ_lt P1.out.lt, by omega⟩).trans M1.out
    refine ⟨rfl, ⟨A, c, u, f, hM, ⟨v, hK2.blk P1.out ⟨P1.out.lt, hne2⟩⟩, hL2, hNL⟩, ?_⟩
    rw [HSz.out]
    exact K1.out.drew.trans (hK2.mono fun k (h : k < S ∧ k ≠ L) => ⟨Nat.lt_of_lt_of_le h.1 (Nat.le_of_lt S1.out.lt), h.2⟩)

set_option maxHeartbeats 4000000 in
set_option maxRecDepth 100000 in
theorem at_calls (b : Nat) (d r : ByteArray) (w : World) (hs : SigAt w b d r) :
    Calls Tryz.prog 77 #[.slice (some ⟨b, 0, none⟩) 1 1, .int .i64 1] w fun e w' => e = .returned (.pointer (some ⟨w.heap.size + 1, 0, none⟩)) ∧ (∃ L A c u f, House w' w.heap.size L d r (life1 d r (.slice A 1 c) u f)) ∧ Keeps (· < w.heap.size) w w' := by
  have HS := Lib.hid hs
  have hb := hs.lt
  clear hs
  go_enter Tryz.func77, Tryz.ntmps77
  go_wp2_with fail
  refine (newHouse_calls b d r w HS.out).mono ?_
  rintro e w2 ⟨rfl, ⟨L, hH⟩, hK⟩
  have HH := Lib.hid hH
  have HK := Lib.hid hK
  obtain ⟨c0, c1, c2, c3, c4, c5⟩ := HS.out.keeps hK hb
  clear hH hK
  go_wp2_with fail
  refine wp_loop_rounds 2 ?_
  rw [rounds_succ]
  go_wp2_with fail
  have H3 : House (w2.alloc (.cells #[.int .i64 1, .int .i64 1, .string d, .string r, .string ⟨#[]⟩, .int .i64 0] 79)) w.heap.size L d r (life0 d r) := ⟨(Below.heap_alloc w2 _ _ (Nat.lt_trans (Nat.lt_of_succ_lt HH.out.lt) HH.out.life.lt)).trans HH.out.map, HH.out.house.imp fun v h => h.alloc _, HH.out.life.alloc _, HH.out.lt⟩
  refine (follow124_calls w.heap.size L d r _ H3).mono ?_
  rintro e w3 ⟨rfl, ⟨A, c, u, f, hH⟩, hK⟩
  have H4 := Lib.hid hH
  have K4 := Lib.hid ((HK.out.alloc (fun k h => Nat.lt_of_lt_of_le h HK.out.size) (.cells #[.int .i64 1, .int .i64 1, .string d, .string r, .string ⟨#[]⟩, .int .i64 0] 79)).trans (hK.mono fun k h => ⟨by have := HK.out.size; simp; omega, by have := HH.out.lt; omega⟩))
  clear hH hK H3 c0 c1 c2 c3 c4 c5
  go_wp2_with fail
  rw [rounds_succ]
  go_wp2_with fail
  go_ret
  exact ⟨rfl, ⟨L, A, c, u, f, H4.out⟩, K4.out⟩

theorem blk6 {w : World} {g : Nat} {t : TypeId} {a0 a1 a2 a3 a4 a5 : Value} (h : Blk w g t #[a0, a1, a2, a3, a4, a5]) (b0 b1 b2 b3 b4 b5 : Value) :
    Blk ((((((w.setCell ⟨g, 0, none⟩ b0).setCell ⟨g, 1, none⟩ b1).setCell ⟨g, 2, none⟩ b2).setCell ⟨g, 3, none⟩ b3).setCell ⟨g, 4, none⟩ b4).setCell ⟨g, 5, none⟩ b5) g t #[b0, b1, b2, b3, b4, b5] :=
  (((((h.set_ 0 b0).set_ 1 b1).set_ 2 b2).set_ 3 b3).set_ 4 b4).set_ 5 b5

theorem below6 {w w2 : World} (h : Below w.heap.size w w2) (b0 b1 b2 b3 b4 b5 : Value) :
    Below w.heap.size w ((((((w2.setCell ⟨w.heap.size, 0, none⟩ b0).setCell ⟨w.heap.size, 1, none⟩ b1).setCell ⟨w.heap.size, 2, none⟩ b2).setCell ⟨w.heap.size, 3, none⟩ b3).setCell ⟨w.heap.size, 4, none⟩ b4).setCell ⟨w.heap.size, 5, none⟩ b5) :=
  (((((h.setCell (p := ⟨w.heap.size, 0, none⟩) (Nat.le_refl _) _).setCell (p := ⟨w.heap.size, 1, none⟩) (Nat.le_refl _) _).setCell (p := ⟨w.heap.size, 2, none⟩) (Nat.le_refl _) _).setCell (p := ⟨w.heap.size, 3, none⟩) (Nat.le_refl _) _).setCell (p := ⟨w.heap.size, 4, none⟩) (Nat.le_refl _) _).setCell (p := ⟨w.heap.size, 5, none⟩) (Nat.le_refl _) _

set_option maxHeartbeats 400000 in
set_option maxRecDepth 100000 in
theorem view_calls (L : Nat) (d r : ByteArray) (A : Option Addr) (c : Nat) (u f : Value) (w : World) (hl : Blk w L 192 (life1 d r (.slice A 1 c) u f)) :
    Calls Tryz.prog 78 #[.pointer (some ⟨L, 0, none⟩), .int .i64 1] w fun e w' => e = .returned (.tuple #[.agg #[.string d, .string r, .int .i64 1, .int .i64 1, .int .i64 1, .int .i64 0], .bool true]) ∧ Below w.heap.size w w' := by
  have L0 := Lib.hid (hl.alloc (.cells #[.string ⟨#[]⟩, .string ⟨#[]⟩, .int .i64 0, .int .i64 0, .int .i64 0, .int .i64 0] 75))
  go_enter Tryz.func78, Tryz.ntmps78
  go_wp2_with fail
  have hLs : L < (w.alloc (.cells #[.string ⟨#[]⟩, .string ⟨#[]⟩, .int .i64 0, .int .i64 0, .int .i64 0, .int .i64 0] 75)).heap.size := L0.out.lt
  have R0 := Lib.hid (Blk.new w 75 #[.string ⟨#[]⟩, .string ⟨#[]⟩, .int .i64 0, .int .i64 0, .int .i64 0, .int .i64 0])
  have B0 := Lib.hid ((Below.refl w.heap.size w).alloc (Nat.le_refl _) (.cells #[.string ⟨#[]⟩, .string ⟨#[]⟩, .int .i64 0, .int .i64 0, .int .i64 0, .int .i64 0] 75))
  generalize w.alloc (.cells #[.string ⟨#[]⟩, .string ⟨#[]⟩, .int .i64 0, .int .i64 0, .int .i64 0, .int .i64 0] 75) = w1 at *
  have c0 : w1.cell? ⟨L, 0, none⟩ = some (.string d) := L0.out.cell 0
  have c1 : w1.cell? ⟨L, 1, none⟩ = some (.string r) := L0.out.cell 1
  have c2 : w1.cell? ⟨L, 2, none⟩ = some (.int .i64 1) := L0.out.cell 2
  have c3 : w1.cell? ⟨L, 3, none⟩ = some (.int .i64 1) := L0.out.cell 3
  have c4 : w1.cell? ⟨L, 4, none⟩ = some (.slice A 1 c) := L0.out.cell 4
  go_region_held3 (fun w' => w'.cell? ⟨L, 0, none⟩ = some (.string d) ∧ w'.cell? ⟨L, 1, none⟩ = some (.string r) ∧ w'.cell? ⟨L, 2, none⟩ = some (.int .i64 1) ∧ w'.cell? ⟨L, 3, none⟩ = some (.int .i64 1) ∧ w'.cell? ⟨L, 4, none⟩ = some (.slice A 1 c))
    (first
      | exact ⟨c0, c1, c2, c3, c4⟩
      | go_keep
      | exact ⟨cell_alloc_old c0 _, cell_alloc_old c1 _, cell_alloc_old c2 _, cell_alloc_old c3 _, cell_alloc_old c4 _⟩)
    (first | fail)
  have hws : w.heap.size < w1.heap.size := R0.out.lt
  have L2 := Lib.hid ((L0.out.alloc (.cells #[.string d, .string r, .int .i64 1, .int .i64 1, .int .i64 1, .int .i64 0] 75)).drew)
  have R2 := Lib.hid ((R0.out.alloc (.cells #[.string d, .string r, .int .i64 1, .int .i64 1, .int .i64 1, .int .i64 0] 75)).drew)
  have B2 := Lib.hid ((B0.out.alloc (Nat.le_of_lt hws) (.cells #[.string d, .string r, .int .i64 1, .int .i64 1, .int .i64 1, .int .i64 0] 75)).drew)
  have A2 := Lib.hid ((Blk.new w1 75 #[.string d, .string r, .int .i64 1, .int .i64 1, .int .i64 1, .int .i64 0]).drew)
  obtain ⟨T, hT⟩ : ∃ T, w1.heap.size = T := ⟨_, rfl⟩
  rw [hT] at A2 hws ⊢
  clear hT c0 c1 c2 c3 c4 L0 R0 B0
  generalize (w1.alloc (.cells #[.string d, .string r, .int .i64 1, .int .i64 1, .int .i64 1, .int .i64 0] 75)).drew = w2 at *
  have c5 : w2.cell? ⟨L, 5, none⟩ = some (.int .i64 0) := L2.out.cell 5
  have a0 : w2.cell? ⟨T, 0, none⟩ = some (.string d) := A2.out.cell 0
  have a1 : w2.cell? ⟨T, 1, none⟩ = some (.string r) := A2.out.cell 1
  have a2 : w2.cell? ⟨T, 2, none⟩ = some (.int .i64 1) := A2.out.cell 2
  have a3 : w2.cell? ⟨T, 3, none⟩ = some (.int .i64 1) := A2.out.cell 3
  have a4 : w2.cell? ⟨T, 4, none⟩ = some (.int .i64 1) := A2.out.cell 4
  have a5 : w2.cell? ⟨T, 5, none⟩ = some (.int .i64 0) := A2.out.cell 5
  have r0 : w2.cell? ⟨w.heap.size, 0, none⟩ = some (.string ⟨#[]⟩) := R2.out.cell 0
  have r1 : w2.cell? ⟨w.heap.size, 1, none⟩ = some (.string ⟨#[]⟩) := R2.out.cell 1
  have r2 : w2.cell? ⟨w.heap.size, 2, none⟩ = some (.int .i64 0) := R2.out.cell 2
  have r3 : w2.cell? ⟨w.heap.size, 3, none⟩ = some (.int .i64 0) := R2.out.cell 3
  have r4 : w2.cell? ⟨w.heap.size, 4, none⟩ = some (.int .i64 0) := R2.out.cell 4
  have r5 : w2.cell? ⟨w.heap.size, 5, none⟩ = some (.int .i64 0) := R2.out.cell 5
  have f0 : w2.frozen? ⟨w.heap.size, 0, none⟩ = false := R2.out.frozen 0
  have f1 : w2.frozen? ⟨w.heap.size, 1, none⟩ = false := R2.out.frozen 1
  have f2 : w2.frozen? ⟨w.heap.size, 2, none⟩ = false := R2.out.frozen 2
  have f3 : w2.frozen? ⟨w.heap.size, 3, none⟩ = false := R2.out.frozen 3
  have f4 : w2.frozen? ⟨w.heap.size, 4, none⟩ = false := R2.out.frozen 4
  have f5 : w2.frozen? ⟨w.heap.size, 5, none⟩ = false := R2.out.frozen 5
  have hne : ¬ T = w.heap.size := by omega
  go_wp2_with fail
  go_region
  go_wp2_with fail
  have P3 := Blk.drew (blk6 R2.out (.string d) (.string r) (.int .i64 1) (.int .i64 1) (.int .i64 1) (.int .i64 0))
  have B3 := Lib.hid (Below.drew (below6 B2.out (.string d) (.string r) (.int .i64 1) (.int .i64 1) (.int .i64 1) (.int .i64 0)))
  clear r0 r1 r2 r3 r4 r5 f0 f1 f2 f3 f4 f5 a0 a1 a2 a3 a4 a5 c5
  generalize (((((((w2.setCell ⟨w.heap.size, 0, none⟩ (.string d)).setCell ⟨w.heap.size, 1, none⟩ (.string r)).setCell ⟨w.heap.size, 2, none⟩ (.int .i64 1)).setCell ⟨w.heap.size, 3, none⟩ (.int .i64 1)).setCell ⟨w.heap.size, 4, none⟩ (.int .i64 1)).setCell ⟨w.heap.size, 5, none⟩ (.int .i64 0)).drew) = w3 at *
  have r0 : w3.cell? ⟨w.heap.size, 0, none⟩ = some (.string d) := P3.cell 0
  have r1 : w3.cell? ⟨w.heap.size, 1, none⟩ = some (.string r) := P3.cell 1
  have r2 : w3.cell? ⟨w.heap.size, 2, none⟩ = some (.int .i64 1) := P3.cell 2
  have r3 : w3.cell? ⟨w.heap.size, 3, none⟩ = some (.int .i64 1) := P3.cell 3
  have r4 : w3.cell? ⟨w.heap.size, 4, none⟩ = some (.int .i64 1) := P3.cell 4
  have r5 : w3.cell? ⟨w.heap.size, 5, none⟩ = some (.int .i64 0) := P3.cell 5
  exact bodyPost_ret (v := .tuple #[.agg #[.string d, .string r, .int .i64 1, .int .i64 1, .int .i64 1, .int .i64 0], .bool true]) (by simp [results, Tryz.results78, go_sem, r0, r1, r2, r3, r4, r5]) rfl ⟨rfl, B3.out⟩

end Go.Proofs.YteandmolnbcmmaaGreatDoor

namespace Go.Proofs.YteandmolnbcmmaaGreatDoor
open Go.RowKit Go.Sort Go.ChangeMaps

set_option maxHeartbeats 600000 in
set_option maxRecDepth 100000 in
theorem alarmOf_calls (b : Nat) (w : World) (hs : SigAt w b strD strR) :
    Calls Tryz.prog 44 #[.slice (some ⟨b, 0, none⟩) 1 1, .string strD, .string strR, .int .i64 1] w fun e w' => e = .returned (.tuple #[.agg #[.string strD, .string strR, .int .i64 1, .int .i64 1, .int .i64 1, .int .i64 0], .int .i64 0]) ∧ Below w.heap.size w w' := by
  have hb := hs.lt
  have K1 := Lib.hid ((Keeps.refl (· < w.heap.size) w).alloc (fun _ h => h) (.cells #[.string ⟨#[]⟩, .string ⟨#[]⟩, .int .i64 0, .int .i64 0, .int .i64 0, .int .i64 0] 75))
  have R1 := Lib.hid (Blk.new w 75 #[.string ⟨#[]⟩, .string ⟨#[]⟩, .int .i64 0, .int .i64 0, .int .i64 0, .int .i64 0])
  have HN := Lib.hid (nameFault_calls b _ (hs.keeps K1.out hb))
  have HA := Lib.hid hs
  obtain ⟨d, hd⟩ : ∃ s, strD = s := ⟨_, rfl⟩
  obtain ⟨r, hr⟩ : ∃ s, strR = s := ⟨_, rfl⟩
  rw [hd, hr] at HN HA ⊢
  clear hs hd hr
  go_enter Tryz.func44, Tryz.ntmps44
  go_wp2_with fail
  refine HN.out.mono ?_
  rintro e w2 ⟨rfl, hg⟩
  have G2 := Lib.hid hg
  have K2 := Lib.hid (K1.out.trans ((Keeps.of_below hg.below).mono fun k h => by simp; omega))
  have R2 : Hid (Blk w2 w.heap.size 75 #[.string ⟨#[]⟩, .string ⟨#[]⟩, .int .i64 0, .int .i64 0, .int .i64 0, .int .i64 0]) := Lib.hid ((Keeps.of_below hg.below).blk R1.out (by simp))
  clear hg
  go_wp2_with (go_at_call 76; refine (momT_calls _ true (by decide) _).mono ?_; rintro e w' ⟨rfl, rfl⟩)
  refine (at_calls b d r w2 (HA.out.keeps K2.out hb)).mono ?_
  rintro e w3 ⟨rfl, ⟨L, A, c, u, f, hH⟩, hK⟩
  have H3 := Lib.hid hH
  obtain ⟨v, hv⟩ := hH.house
  have K3 := Lib.hid (K2.out.trans (hK.mono fun k h => Nat.lt_of_lt_of_le h K2.out.size))
  have R3 : Hid (Blk w3 w.heap.size 75 #[.string ⟨#[]⟩, .string ⟨#[]⟩, .int .i64 0, .int .i64 0, .int .i64 0, .int .i64 0]) := Lib.hid (hK.blk R2.out R2.out.lt)
  have e0 : w3.cell? ⟨w2.heap.size + 1, 0, none⟩ = some (.map (some w2.heap.size)) := hv.cell 0
  have lk := look125_one (w := w3) d r _ hH.map
  clear hH hK hv
  go_wp2_with fail
  refine (view_calls L d r A c u f w3 H3.out.life).mono ?_
  rintro e w4 ⟨rfl, hb4⟩
  have K4 := Lib.hid (K3.out.trans ((Keeps.of_below hb4).mono fun k h => Nat.lt_of_lt_of_le h K3.out.size))
  have R4 : Hid (Blk w4 w.heap.size 75 #[.string ⟨#[]⟩, .string ⟨#[]⟩, .int .i64 0, .int .i64 0, .int .i64 0, .int .i64 0]) := Lib.hid ((Keeps.of_below hb4).blk R3.out R3.out.lt)
  clear hb4 e0 lk
  have hw4 : w.heap.size < w4.heap.size := R4.out.lt
  have hw5 : ¬ w.heap.size = w4.heap.size := by omega
  have hw6 : ¬ w4.heap.size = w.heap.size := by omega
  have R5 := Lib.hid (R4.out.alloc (.cells #[.string d, .string r, .int .i64 1, .int .i64 1, .int .i64 1, .int .i64 0] 75))
  have A5 := Lib.hid (Blk.new w4 75 #[.string d, .string r, .int .i64 1, .int .i64 1, .int .i64 1, .int .i64 0])
  have B5 := Lib.hid (K4.out.below.alloc (Nat.le_of_lt hw4) (.cells #[.string d, .string r, .int .i64 1, .int .i64 1, .int .i64 1, .int .i64 0] 75))
  go_upto_region 10 with fail
  obtain ⟨T, hT⟩ : ∃ T, w4.heap.size = T := ⟨_, rfl⟩
  rw [hT] at A5 hw4 hw5 hw6 ⊢
  clear hT
  generalize w4.alloc (.cells #[.string d, .string r, .int .i64 1, .int .i64 1, .int .i64 1, .int .i64 0] 75) = w5 at *
  have a0 : w5.cell? ⟨T, 0, none⟩ = some (.string d) := A5.out.cell 0
  have a1 : w5.cell? ⟨T, 1, none⟩ = some (.string r) := A5.out.cell 1
  have a2 : w5.cell? ⟨T, 2, none⟩ = some (.int .i64 1) := A5.out.cell 2
  have a3 : w5.cell? ⟨T, 3, none⟩ = some (.int .i64 1) := A5.out.cell 3
  have a4 : w5.cell? ⟨T, 4, none⟩ = some (.int .i64 1) := A5.out.cell 4
  have a5 : w5.cell? ⟨T, 5, none⟩ = some (.int .i64 0) := A5.out.cell 5
  have r0 : w5.cell? ⟨w.heap.size, 0, none⟩ = some (.string ⟨#[]⟩) := R5.out.cell 0
  have r1 : w5.cell? ⟨w.heap.size, 1, none⟩ = some (.string ⟨#[]⟩) := R5.out.cell 1
  have r2 : w5.cell? ⟨w.heap.size, 2, none⟩ = some (.int .i64 0) := R5.out.cell 2
  have r3 : w5.cell? ⟨w.heap.size, 3, none⟩ = some (.int .i64 0) := R5.out.cell 3
  have r4 : w5.cell? ⟨w.heap.size, 4, none⟩ = some (.int .i64 0) := R5.out.cell 4
  have r5 : w5.cell? ⟨w.heap.size, 5, none⟩ = some (.int .i64 0) := R5.out.cell 5
  have f0 : w5.frozen? ⟨w.heap.size, 0, none⟩ = false := R5.out.frozen 0
  have f1 : w5.frozen? ⟨w.heap.size, 1, none⟩ = false := R5.out.frozen 1
  have f2 : w5.frozen? ⟨w.heap.size, 2, none⟩ = false := R5.out.frozen 2
  have f3 : w5.frozen? ⟨w.heap.size, 3, none⟩ = false := R5.out.frozen 3
  have f4 : w5.frozen? ⟨w.heap.size, 4, none⟩ = false := R5.out.frozen 4
  have f5 : w5.frozen? ⟨w.heap.size, 5, none⟩ = false := R5.out.frozen 5
  go_wp2_with fail
  have P6 := blk6 R5.out (.string d) (.string r) (.int .i64 1) (.int .i64 1) (.int .i64 1) (.int .i64 0)
  have B6 := Lib.hid (below6 B5.out (.string d) (.string r) (.int .i64 1) (.int .i64 1) (.int .i64 1) (.int .i64 0))
  clear r0 r1 r2 r3 r4 r5 f0 f1 f2 f3 f4 f5 a0 a1 a2 a3 a4 a5
  generalize (((((w5.setCell ⟨w.heap.size, 0, none⟩ (.string d)).setCell ⟨w.heap.size, 1, none⟩ (.string r)).setCell ⟨w.heap.size, 2, none⟩ (.int .i64 1)).setCell ⟨w.heap.size, 3, none⟩ (.int .i64 1)).setCell ⟨w.heap.size, 4, none⟩ (.int .i64 1)).setCell ⟨w.heap.size, 5, none⟩ (.int .i64 0) = w6 at *
  have r0 : w6.cell? ⟨w.heap.size, 0, none⟩ = some (.string d) := P6.cell 0
  have r1 : w6.cell? ⟨w.heap.size, 1, none⟩ = some (.string r) := P6.cell 1
  have r2 : w6.cell? ⟨w.heap.size, 2, none⟩ = some (.int .i64 1) := P6.cell 2
  have r3 : w6.cell? ⟨w.heap.size, 3, none⟩ = some (.int .i64 1) := P6.cell 3
  have r4 : w6.cell? ⟨w.heap.size, 4, none⟩ = some (.int .i64 1) := P6.cell 4
  have r5 : w6.cell? ⟨w.heap.size, 5, none⟩ = some (.int .i64 0) := P6.cell 5
  exact bodyPost_ret (v := .tuple #[.agg #[.string d, .string r, .int .i64 1, .int .i64 1, .int .i64 1, .int .i64 0], .int .i64 0]) (by simp [results, Tryz.results44, go_sem, r0, r1, r2, r3, r4, r5]) rfl ⟨rfl, B6.out⟩

end Go.Proofs.YteandmolnbcmmaaGreatDoor

namespace Go.Proofs.YteandmolnbcmmaaGreatDoor
open Go.RowKit Go.Sort Go.ChangeMaps

theorem Below.then {w w1 w2 : World} (h : Below w.heap.size w w1) (k : Below w1.heap.size w1 w2) : Below w.heap.size w w2 := h.trans (k.mono h.size)

set_option maxHeartbeats 1000000 in
set_option maxRecDepth 100000 in
theorem facts_calls (w : World) : Calls Tryz.prog 17 #[] w (Yes w) := by
  have H1 : Hid (∀ w : World, Calls Tryz.prog 43 #[.slice (some ⟨w.heap.size, 0, none⟩) 1 1, .string strM, .int .i64 7] (w.alloc (.cells #[.string strM, .string strAB, .slice none 0 0] 72)) fun e w' => e = .returned (.tuple #[.string serS, .int .i64 0]) ∧ Below w.heap.size w w') := Lib.hid fun w =>
    (serial_calls w.heap.size _ (cell_new w _ 72 0 _ _ rfl rfl) (cell_new w _ 72 1 _ _ rfl rfl) (cell_new w _ 72 2 _ _ rfl rfl)).mono fun e w' ⟨he, hb⟩ => ⟨he, Below.then ((Below.refl _ w).alloc (Nat.le_refl _) _) hb⟩
  have H2 : Hid (∀ w : World, Calls Tryz.prog 44 #[.slice (some ⟨w.heap.size, 0, none⟩) 1 1, .string strD, .string strR, .int .i64 1] (w.alloc (.cells #[.int .i64 1, .int .i64 1, .string strD, .string strR, .string ⟨#[]⟩, .int .i64 0] 79)) fun e w' => e = .returned (.tuple #[.agg #[.string strD, .string strR, .int .i64 1, .int .i64 1, .int .i64 1, .int .i64 0], .int .i64 0]) ∧ Below w.heap.size w w') := Lib.hid fun w =>
    (alarmOf_calls w.heap.size _ (sigAt_new w strD strR)).mono fun e w' ⟨he, hb⟩ => ⟨he, Below.then ((Below.refl _ w).alloc (Nat.le_refl _) _) hb⟩
  have H3 : Hid (∀ w : World, Calls Tryz.prog 45 #[.slice (some ⟨w.heap.size, 0, none⟩) 1 1, .slice (some ⟨w.heap.size + 1, 0, none⟩) 1 1] ((w.alloc (.cells #[.string sAS] 9)).alloc (.cells #[.string sAB] 9)) fun e w' => e = .returned (.tuple #[.bool true, .int .i64 0]) ∧ Below w.heap.size w w') := Lib.hid fun w =>
    (coversTop_calls w.heap.size (w.heap.size + 1) _ (cell_alloc_old (cell_new w _ 9 0 _ _ rfl rfl) _) (cell_new (w.alloc (.cells #[.string sAS] 9)) _ 9 0 _ _ (by simp) rfl)).mono fun e w' ⟨he, hb⟩ => ⟨he, Below.then (((Below.refl _ w).alloc (Nat.le_refl _) _).alloc (by simp) _) hb⟩
  have H4 : Hid (∀ w : World, Calls Tryz.prog 46 #[.slice (some ⟨w.heap.size, 0, none⟩) 1 1, .string strH, .int .i64 20] (w.alloc (.cells #[.string strH, .int .i64 10, .int .i64 15, .int .i64 10] 86)) fun e w' => e = .returned (.tuple #[.int .i64 15, .int .i64 0]) ∧ Below w.heap.size w w') := Lib.hid fun w =>
    (repairTop_calls w.heap.size _ (cell_new w _ 86 0 _ _ rfl rfl) (cell_new w _ 86 1 _ _ rfl rfl) (cell_new w _ 86 2 _ _ rfl rfl) (cell_new w _ 86 3 _ _ rfl rfl)).mono fun e w' ⟨he, hb⟩ => ⟨he, Below.then ((Below.refl _ w).alloc (Nat.le_refl _) _) hb⟩
  go_enter Tryz.func17, Tryz.ntmps17
  go_wp2_with fail
  refine (H1.out _).mono ?_
  rintro e w2 ⟨rfl, hb⟩
  have B2 := Lib.hid hb
  clear hb
  go_wp2_with fail
  refine (H2.out _).mono ?_
  rintro e w3 ⟨rfl, hb⟩
  have B3 := Lib.hid (Below.then (Below.then B2.out hb) ((Below.refl _ w3).alloc (Nat.le_refl _) (.cells #[.string strD, .string strR, .int .i64 1, .int .i64 1, .int .i64 1, .int .i64 0] 75)))
  have A3 := Lib.hid (Blk.new w3 75 #[.string strD, .string strR, .int .i64 1, .int .i64 1, .int .i64 1, .int .i64 0])
  clear hb
  go_upto_region 3 with fail
  obtain ⟨T, hT⟩ : ∃ T, w3.heap.size = T := ⟨_, rfl⟩
  rw [hT] at A3 ⊢
  clear hT
  generalize w3.alloc (.cells #[.string strD, .string strR, .int .i64 1, .int .i64 1, .int .i64 1, .int .i64 0] 75) = w4 at *
  go_wp2_with fail
  refine (H3.out _).mono ?_
  rintro e w5 ⟨rfl, hb⟩
  have B5 := Lib.hid (Below.then B3.out hb)
  have A5 := Lib.hid ((Keeps.of_below hb).blk A3.out A3.out.lt)
  clear hb
  go_wp2_with fail
  refine (H4.out _).mono ?_
  rintro e w6 ⟨rfl, hb⟩
  have B6 := Lib.hid (Below.then B5.out hb)
  have a2 : w6.cell? ⟨T, 2, none⟩ = some (.int .i64 1) := ((Keeps.of_below hb).blk A5.out A5.out.lt).cell 2
  clear hb
  have hser : serS.toList = (⟨#[65, 66, 45, 48, 48, 48, 48, 48, 48, 48, 55, 45, 77]⟩ : ByteArray).toList := rfl
  go_wp2_with fail
  go_ret
  exact ⟨rfl, B6.out⟩

end Go.Proofs.YteandmolnbcmmaaGreatDoor
