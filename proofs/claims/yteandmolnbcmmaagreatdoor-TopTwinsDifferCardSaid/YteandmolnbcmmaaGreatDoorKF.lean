/- Walks: the orders of spells and of samples. Walks: sampleFault, base.Window. Walk: CheckSamples. No condition beyond what each theorem states. -/
import Derived.Lib.Bytealg
import Derived.StillTailTactics
import Derived.Sort.Grow
import Derived.Sort.Walk0
import Derived.Deep.QuietTactic
import Derived.BigQuiet
import Derived.Deep.RegionHeld3
import Derived.Test.YteandmolnbcmmaaGreatDoorKE
import Derived.Test.YteandmolnbcmmaaGreatDoorShelfA

namespace Go.Proofs.YteandmolnbcmmaaGreatDoor
open Go.RowKit Go.Sort

theorem compareBytes_lt : ∀ a b : List UInt8, Lib.compareBytes a b = if a < b then -1 else if b < a then 1 else 0
  | [], [] => by simp [Lib.compareBytes]
  | [], _ :: _ => by simp [Lib.compareBytes]
  | _ :: _, [] => by simp [Lib.compareBytes]
  | a :: x, b :: y => by
    rw [Lib.compareBytes, compareBytes_lt x y]
    simp only [List.cons_lt_cons_iff]
    by_cases h1 : a < b
    · simp [h1]
    · by_cases h2 : b < a
      · have : a ≠ b := fun e => by subst e; exact h1 h2
        simp [h1, h2, this]
      · have : a = b := UInt8.le_antisymm (UInt8.not_lt.1 h2) (UInt8.not_lt.1 h1)
        subst this
        simp [h1]

theorem compareBytes_eq (a b : ByteArray) : Lib.compareBytes a.data.toList b.data.toList = sCmp a b := compareBytes_lt _ _

theorem sComp_calls (a b : ByteArray) (w : World) : Calls Tryz.prog 104 #[.string a, .string b] w fun e w' => e = .returned (.int .i64 (sCmp a b)) ∧ w = w' :=
  (Any.strings_Compare Tryz.lays106 a b w).mono fun _ _ ⟨he, hw⟩ => ⟨by rw [he, compareBytes_eq], hw.symm⟩

/-- A spell as a value. -/
def encSp (s : Spell) : List Value := [.string s.device, .string s.rule, .int .i64 s.from_, .int .i64 s.to_]
def encSa (s : Samp) : List Value := [.string s.device, .string s.metric, .int .i64 s.at_, .int .i64 s.value]

theorem or3_calls (b : Nat) (x y z : Int) (c : Nat) (w : World) (h0 : w.cell? ⟨b, 0, none⟩ = some (.int .i64 x)) (h1 : w.cell? ⟨b, 1, none⟩ = some (.int .i64 y)) (h2 : w.cell? ⟨b, 2, none⟩ = some (.int .i64 z)) :
    Calls Tryz.prog 49 #[.slice (some ⟨b, 0, none⟩) 3 c] w fun e w' => e = .returned (.int .i64 (orI [x, y, z])) ∧ w = w' :=
  or_calls [x, y, z] b 0 c w (by simp) fun i hi => by
    match i, hi with
    | 0, _ => simpa using h0
    | 1, _ => simpa using h1
    | 2, _ => simpa using h2

theorem cell_new (W : World) (cs : Array Value) (t : TypeId) (i : Nat) (v : Value) (n : Nat) (hn : n = W.heap.size) (hv : cs[i]? = some v) : (W.alloc (.cells cs t)).cell? ⟨n, i, none⟩ = some v := by
  subst hn
  rw [World.cell?]
  have : (W.alloc (.cells cs t)).heap[W.heap.size]? = some (.cells cs t (0, 0)) := heap_alloc_new W _
  simp only [this]
  simpa using hv
theorem cell_new_drew (W : World) (cs : Array Value) (t : TypeId) (i : Nat) (v : Value) (n : Nat) (hn : n = W.heap.size) (hv : cs[i]? = some v) : (W.alloc (.cells cs t)).drew.cell? ⟨n, i, none⟩ = some v := cell_new W cs t i v n hn hv
theorem cell_new_drewN (W : World) (cs : Array Value) (t : TypeId) (i : Nat) (v : Value) (n m : Nat) (hn : n = W.heap.size) (hv : cs[i]? = some v) : ((W.alloc (.cells cs t)).drewN m).cell? ⟨n, i, none⟩ = some v := cell_new W cs t i v n hn hv

theorem orNew_calls (x y z : Int) (n c : Nat) (W : World) (hn : n = W.heap.size) :
    Calls Tryz.prog 49 #[.slice (some ⟨n, 0, none⟩) 3 c] (W.alloc (.cells #[.int .i64 x, .int .i64 y, .int .i64 z] 3)).drew fun e w' => e = .returned (.int .i64 (orI [x, y, z])) ∧ (W.alloc (.cells #[.int .i64 x, .int .i64 y, .int .i64 z] 3)).drew = w' :=
  or3_calls _ _ _ _ _ _ (cell_new_drew W _ _ 0 _ n hn rfl) (cell_new_drew W _ _ 1 _ n hn rfl) (cell_new_drew W _ _ 2 _ n hn rfl)

/-- A contract of a callee that leaves the world alone, as a region that stands still asks it. -/
theorem still_of {f : FuncId} {args : Array Value} {w : World} {v : Value} (h : Calls Tryz.prog f args w fun e w' => e = .returned v ∧ w = w') : Calls Tryz.prog f args w fun e w'' => e = .returned v ∧ w'' = w :=
  h.mono fun _ _ ⟨a, b⟩ => ⟨a, b.symm⟩

/-- The world has grown: what was there is as it was, and only draws and new blocks have come. -/
def Grows (w w' : World) : Prop := ∃ n os, w' = grow (w.drewN n) os

theorem Grows.refl (w : World) : Grows w w := ⟨0, #[], by rw [grow_empty]; rfl⟩
theorem Grows.trans {a b c : World} (h : Grows a b) (k : Grows b c) : Grows a c := by
  obtain ⟨n, os, rfl⟩ := h
  obtain ⟨m, ps, rfl⟩ := k
  refine ⟨n + m, os ++ ps, ?_⟩
  have e : (grow (a.drewN n) os).drewN m = grow (a.drewN (n + m)) os := by simp only [grow, World.drewN, Nat.add_assoc]
  rw [e, grow_grow]
theorem Grows.alloc {a w : World} (h : Grows a w) (o : Obj) : Grows a (w.alloc o) := h.trans ⟨0, #[o], by rw [alloc_eq_grow]; rfl⟩
theorem Grows.drew {a w : World} (h : Grows a w) : Grows a w.drew := h.trans ⟨1, #[], by rw [grow_empty]; rfl⟩
theorem Grows.drewN {a w : World} (h : Grows a w) (n : Nat) : Grows a (w.drewN n) := h.trans ⟨n, #[], by rw [grow_empty]⟩
theorem Grows.below {w w' : World} (h : Grows w w') : Below w.heap.size w w' := by
  obtain ⟨n, os, rfl⟩ := h
  refine ⟨rfl, rfl, rfl, by simp [grow, World.drewN], fun k hk => ?_⟩
  simp only [grow, World.drewN]
  rw [Array.getElem?_append_left (by simpa using hk)]

set_option maxHeartbeats 400000 in
theorem cmpStr_calls (x y : ByteArray) (w : World) : Calls Tryz.prog 51 #[.string x, .string y] w fun e w' => e = .returned (.int .i64 (sCmp x y)) ∧ w = w' := by
  have hn : ∀ (z : ByteArray) (w : World), Calls Tryz.prog 98 #[.string z] w fun e w' => e = .returned (.bool false) ∧ w = w' := fun z w => by
    go_enter Tryz.func98, Tryz.ntmps98
    go_wp2
    go_ret
    simp
  unfold sCmp
  by_cases h1 : sLt x y
  · rw [if_pos h1]
    have e1 : Op.bytesLess x.toList y.toList = true := by rw [bytesLess_eq, Lib.toList_data, Lib.toList_data]; exact decide_eq_true h1
    go_enter Tryz.func51, Tryz.ntmps51
    go_wp2_with (go_at_call 98; refine (hn _ _).mono ?_; rintro e w' ⟨rfl, rfl⟩)
    go_ret
    exact ⟨rfl, rfl⟩
  · rw [if_neg h1]
    have e1 : Op.bytesLess x.toList y.toList = false := by rw [bytesLess_eq, Lib.toList_data, Lib.toList_data]; exact decide_eq_false h1
    by_cases h2 : sLt y x
    · rw [if_pos h2]
      have e2 : (x.toList == y.toList) = false := by
        rw [beq_eq_false_iff_ne, Lib.toList_data, Lib.toList_data]
        intro e; unfold sLt at h2; rw [e] at h2; exact List.lt_irrefl _ h2
      go_enter Tryz.func51, Tryz.ntmps51
      go_wp2_with (go_at_call 98; refine (hn _ _).mono ?_; rintro e w' ⟨rfl, rfl⟩)
      go_ret
      exact ⟨rfl, rfl⟩
    · rw [if_neg h2]
      have e2 : (x.toList == y.toList) = true := by
        rw [beq_iff_eq, Lib.toList_data, Lib.toList_data]
        exact List.le_antisymm (List.not_lt.1 h2) (List.not_lt.1 h1)
      go_enter Tryz.func51, Tryz.ntmps51
      go_wp2_with (go_at_call 98; refine (hn _ _).mono ?_; rintro e w' ⟨rfl, rfl⟩)
      go_ret
      exact ⟨rfl, rfl⟩

set_option maxHeartbeats 1000000 in
set_option maxRecDepth 100000 in
theorem byFrom_calls (d1 k1 d2 k2 : ByteArray) (f1 t1 f2 t2 : Int) (w : World) :
    Calls Tryz.prog 69 #[.agg #[.string d1, .string k1, .int .i64 f1, .int .i64 t1], .agg #[.string d2, .string k2, .int .i64 f2, .int .i64 t2]] w fun e w' => e = .returned (.int .i64 (cmp3 (f1, d1, k1) (f2, d2, k2))) ∧ Grows w w' := by
  unfold cmp3
  have hb : Grows w ((w.alloc (.cells #[.string d1, .string k1, .int .i64 f1, .int .i64 t1] 34)).alloc (.cells #[.string d2, .string k2, .int .i64 f2, .int .i64 t2] 34)) := ((Grows.refl w).alloc _).alloc _
  have c1 : ∀ i v, (#[.string d1, .string k1, .int .i64 f1, .int .i64 t1] : Array Value)[i]? = some v → ((w.alloc (.cells #[.string d1, .string k1, .int .i64 f1, .int .i64 t1] 34)).alloc (.cells #[.string d2, .string k2, .int .i64 f2, .int .i64 t2] 34)).cell? ⟨w.heap.size, i, none⟩ = some v := fun i v h =>
    (World.cell?_alloc_lt _ _ _ (by simp)).trans (cell_new w _ _ i v _ rfl h)
  have c2 : ∀ i v, (#[.string d2, .string k2, .int .i64 f2, .int .i64 t2] : Array Value)[i]? = some v → ((w.alloc (.cells #[.string d1, .string k1, .int .i64 f1, .int .i64 t1] 34)).alloc (.cells #[.string d2, .string k2, .int .i64 f2, .int .i64 t2] 34)).cell? ⟨w.heap.size + 1, i, none⟩ = some v := fun i v h =>
    cell_new _ _ _ i v _ (by simp) h
  have HB := Lib.hid hb
  clear hb
  go_enter Tryz.func69, Tryz.ntmps69
  go_wp2_with fail
  generalize (w.alloc (.cells #[.string d1, .string k1, .int .i64 f1, .int .i64 t1] 34)).alloc (.cells #[.string d2, .string k2, .int .i64 f2, .int .i64 t2] 34) = W at *
  have a0 := c1 0 _ rfl
  have a1 := c1 1 _ rfl
  have a2 := c1 2 _ rfl
  have b0 := c2 0 _ rfl
  have b1 := c2 1 _ rfl
  have b2 := c2 2 _ rfl
  clear c1 c2
  refine wp_region_still_tail 15 (by kernel_rfl) (by kernel_rfl) ?_
  change wpStill _ _ W.drew _ _ _
  simp only [List.take_succ_cons, List.take_zero, List.drop_succ_cons, List.drop_zero]
  repeat (first | still_step | still_call (still_of (cmpInt_calls _ _ _)) | still_call (still_of (sComp_calls _ _ _)))
  refine wpStill_nil ?_
  change wpList _ _ _ _ _ W.drew
  go_wp2_with (go_at_call 49; refine (orNew_calls _ _ _ _ _ _ ?_).mono ?_; (simp); rintro e w' ⟨rfl, rfl⟩)
  go_ret
  exact ⟨rfl, (HB.out.alloc _).drew⟩


set_option maxHeartbeats 1000000 in
set_option maxRecDepth 100000 in
theorem byMoment_calls (d1 k1 d2 k2 : ByteArray) (f1 t1 f2 t2 : Int) (w : World) :
    Calls Tryz.prog 58 #[.agg #[.string d1, .string k1, .int .i64 f1, .int .i64 t1], .agg #[.string d2, .string k2, .int .i64 f2, .int .i64 t2]] w fun e w' => e = .returned (.int .i64 (cmp3 (f1, d1, k1) (f2, d2, k2))) ∧ Grows w w' := by
  unfold cmp3
  have hb : Grows w ((w.alloc (.cells #[.string d1, .string k1, .int .i64 f1, .int .i64 t1] 51)).alloc (.cells #[.string d2, .string k2, .int .i64 f2, .int .i64 t2] 51)) := ((Grows.refl w).alloc _).alloc _
  have c1 : ∀ i v, (#[.string d1, .string k1, .int .i64 f1, .int .i64 t1] : Array Value)[i]? = some v → ((w.alloc (.cells #[.string d1, .string k1, .int .i64 f1, .int .i64 t1] 51)).alloc (.cells #[.string d2, .string k2, .int .i64 f2, .int .i64 t2] 51)).cell? ⟨w.heap.size, i, none⟩ = some v := fun i v h =>
    (World.cell?_alloc_lt _ _ _ (by simp)).trans (cell_new w _ _ i v _ rfl h)
  have c2 : ∀ i v, (#[.string d2, .string k2, .int .i64 f2, .int .i64 t2] : Array Value)[i]? = some v → ((w.alloc (.cells #[.string d1, .string k1, .int .i64 f1, .int .i64 t1] 51)).alloc (.cells #[.string d2, .string k2, .int .i64 f2, .int .i64 t2] 51)).cell? ⟨w.heap.size + 1, i, none⟩ = some v := fun i v h =>
    cell_new _ _ _ i v _ (by simp) h
  have HB := Lib.hid hb
  clear hb
  go_enter Tryz.func58, Tryz.ntmps58
  go_wp2_with fail
  generalize (w.alloc (.cells #[.string d1, .string k1, .int .i64 f1, .int .i64 t1] 51)).alloc (.cells #[.string d2, .string k2, .int .i64 f2, .int .i64 t2] 51) = W at *
  have a0 := c1 0 _ rfl
  have a1 := c1 1 _ rfl
  have a2 := c1 2 _ rfl
  have b0 := c2 0 _ rfl
  have b1 := c2 1 _ rfl
  have b2 := c2 2 _ rfl
  clear c1 c2
  refine wp_region_still_tail 15 (by kernel_rfl) (by kernel_rfl) ?_
  change wpStill _ _ W.drew _ _ _
  simp only [List.take_succ_cons, List.take_zero, List.drop_succ_cons, List.drop_zero]
  repeat (first | still_step | still_call (still_of (cmpInt_calls _ _ _)) | still_call (still_of (sComp_calls _ _ _)))
  refine wpStill_nil ?_
  change wpList _ _ _ _ _ W.drew
  go_wp2_with (go_at_call 49; refine (orNew_calls _ _ _ _ _ _ ?_).mono ?_; (simp); rintro e w' ⟨rfl, rfl⟩)
  go_ret
  exact ⟨rfl, (HB.out.alloc _).drew⟩


set_option maxHeartbeats 1000000 in
set_option maxRecDepth 100000 in
theorem wOrder_calls (d1 k1 d2 k2 : ByteArray) (f1 t1 f2 t2 : Int) (w : World) :
    Calls Tryz.prog 19 #[.agg #[.string d1, .string k1, .int .i64 f1, .int .i64 t1], .agg #[.string d2, .string k2, .int .i64 f2, .int .i64 t2]] w fun e w' => e = .returned (.int .i64 (cmp3 (f1, d1, k1) (f2, d2, k2))) ∧ Grows w w' := by
  unfold cmp3
  have hb : Grows w ((w.alloc (.cells #[.string d1, .string k1, .int .i64 f1, .int .i64 t1] 34)).alloc (.cells #[.string d2, .string k2, .int .i64 f2, .int .i64 t2] 34)) := ((Grows.refl w).alloc _).alloc _
  have c1 : ∀ i v, (#[.string d1, .string k1, .int .i64 f1, .int .i64 t1] : Array Value)[i]? = some v → ((w.alloc (.cells #[.string d1, .string k1, .int .i64 f1, .int .i64 t1] 34)).alloc (.cells #[.string d2, .string k2, .int .i64 f2, .int .i64 t2] 34)).cell? ⟨w.heap.size, i, none⟩ = some v := fun i v h =>
    (World.cell?_alloc_lt _ _ _ (by simp)).trans (cell_new w _ _ i v _ rfl h)
  have c2 : ∀ i v, (#[.string d2, .string k2, .int .i64 f2, .int .i64 t2] : Array Value)[i]? = some v → ((w.alloc (.cells #[.string d1, .string k1, .int .i64 f1, .int .i64 t1] 34)).alloc (.cells #[.string d2, .string k2, .int .i64 f2, .int .i64 t2] 34)).cell? ⟨w.heap.size + 1, i, none⟩ = some v := fun i v h =>
    cell_new _ _ _ i v _ (by simp) h
  have HB := Lib.hid hb
  clear hb
  go_enter Tryz.func19, Tryz.ntmps19
  go_wp2_with fail
  generalize (w.alloc (.cells #[.string d1, .string k1, .int .i64 f1, .int .i64 t1] 34)).alloc (.cells #[.string d2, .string k2, .int .i64 f2, .int .i64 t2] 34) = W at *
  have a0 := c1 0 _ rfl
  have a1 := c1 1 _ rfl
  have a2 := c1 2 _ rfl
  have b0 := c2 0 _ rfl
  have b1 := c2 1 _ rfl
  have b2 := c2 2 _ rfl
  clear c1 c2
  refine wp_region_still_tail 15 (by kernel_rfl) (by kernel_rfl) ?_
  change wpStill _ _ W.drew _ _ _
  simp only [List.take_succ_cons, List.take_zero, List.drop_succ_cons, List.drop_zero]
  repeat (first | still_step | still_call (still_of (cmpInt_calls _ _ _)) | still_call (still_of (cmpStr_calls _ _ _)))
  refine wpStill_nil ?_
  change wpList _ _ _ _ _ W.drew
  go_wp2_with (go_at_call 49; refine (orNew_calls _ _ _ _ _ _ ?_).mono ?_; (simp); rintro e w' ⟨rfl, rfl⟩)
  go_ret
  exact ⟨rfl, (HB.out.alloc _).drew⟩


end Go.Proofs.YteandmolnbcmmaaGreatDoor

namespace Go.Proofs.YteandmolnbcmmaaGreatDoor
open Go.RowKit Go.Sort

theorem momentB_eq (n : Int) : momentB n = decide (0 ≤ n ∧ n < END) := by
  unfold momentB outB END
  by_cases h1 : n < 0 <;> by_cases h2 : 345686399999 < n <;> simp [h1, h2] <;> omega

theorem outB_eq (n lo hi : Int) : outB n lo hi = !decide (lo ≤ n ∧ n ≤ hi) := by
  unfold outB
  by_cases h1 : n < lo <;> by_cases h2 : hi < n <;> simp [h1, h2] <;> omega

theorem sampFault_eq (d m : ByteArray) (t v : Int) : sampFault ⟨d, m, t, v⟩ = if momentB t = false then 1 else if keyB d = false ∨ keyB m = false then 5 else if outB v (-1000000000) 1000000000 = true then 1 else 0 := by
  unfold sampFault
  rw [momentB_eq, outB_eq]
  dsimp only
  by_cases h1 : 0 ≤ t ∧ t < END
  · by_cases h2 : keyB d = false ∨ keyB m = false
    · simp [h1, h2]
    · by_cases h3 : -MAXN ≤ v ∧ v ≤ MAXN
      · simp [h1, h2, h3]
      · simp [h1, h2, h3]
  · simp [h1]

set_option maxHeartbeats 1000000 in
theorem sampleFault_calls (s : Samp) (w : World) (hd : s.device.size ≤ maxLen) (hm : s.metric.size ≤ maxLen) :
    Calls Tryz.prog 101 #[.agg #[.string s.device, .string s.metric, .int .i64 s.at_, .int .i64 s.value]] w fun e w' => e = .returned (.int .i64 (sampFault s)) ∧ Grows w w' := by
  obtain ⟨d, m, t, v⟩ := s
  dsimp only at *
  have hb : Grows w (w.alloc (.cells #[.string d, .string m, .int .i64 t, .int .i64 v] 51)) := (Grows.refl w).alloc _
  have HB := Lib.hid hb
  clear hb
  have HD := Lib.hid hd
  have HM := Lib.hid hm
  have HF := Lib.hid (sampFault_eq d m t v)
  clear hd hm
  have hc : momentB t = false ∨ (momentB t = true ∧ keyB d = false) ∨ (momentB t = true ∧ keyB d = true ∧ keyB m = false) ∨ (momentB t = true ∧ keyB d = true ∧ keyB m = true ∧ outB v (-1000000000) 1000000000 = true) ∨
      (momentB t = true ∧ keyB d = true ∧ keyB m = true ∧ outB v (-1000000000) 1000000000 = false) := by
    cases momentB t <;> cases keyB d <;> cases keyB m <;> cases outB v (-1000000000) 1000000000 <;> simp
  rcases hc with h1 | ⟨h1, h2⟩ | ⟨h1, h2, h3⟩ | ⟨h1, h2, h3, h4⟩ | ⟨h1, h2, h3, h4⟩
  all_goals
    go_enter Tryz.func101, Tryz.ntmps101
    go_wp2_with (first | (go_at_call 76; refine (moment_calls _ _).mono ?_; rintro e w' ⟨rfl, rfl⟩) | (go_at_call 100; refine (key_calls _ _ (by first | exact HD.out | exact HM.out)).mono ?_; rintro e w' ⟨rfl, rfl⟩) | (go_at_call 65; refine (out_calls _ _ _ _).mono ?_; rintro e w' ⟨rfl, rfl⟩))
    go_ret
    exact ⟨ret_i64 (by rw [HF.out]; simp [*]), HB.out⟩

def winB (w : Int × Int) : Bool := decide (winOk w)

set_option maxHeartbeats 1000000 in
theorem window_calls (f t : Int) (w : World) : Calls Tryz.prog 66 #[.agg #[.int .i64 f, .int .i64 t]] w fun e w' => e = .returned (.bool (winB (f, t))) ∧ Grows w w' := by
  have hb : Grows w (w.alloc (.cells #[.int .i64 f, .int .i64 t] 25)) := (Grows.refl w).alloc _
  have HB := Lib.hid hb
  clear hb
  have hf : winB (f, t) = (!outB f 0 t && decide (t ≤ 345686400000)) := by
    unfold winB winOk outB END
    by_cases h1 : f < 0 <;> by_cases h2 : t < f <;> by_cases h3 : t ≤ 345686400000 <;> simp [h1, h2, h3] <;> omega
  have HF := Lib.hid hf
  clear hf
  have hc : outB f 0 t = true ∨ outB f 0 t = false := by cases outB f 0 t <;> simp
  rcases hc with h1 | h1
  · go_enter Tryz.func66, Tryz.ntmps66
    go_wp2_with (go_at_call 65; refine (out_calls _ _ _ _).mono ?_; rintro e w' ⟨rfl, rfl⟩)
    go_ret
    exact ⟨ret_bool (by rw [HF.out, h1]; rfl), HB.out⟩
  · go_enter Tryz.func66, Tryz.ntmps66
    go_wp2_with (go_at_call 65; refine (out_calls _ _ _ _).mono ?_; rintro e w' ⟨rfl, rfl⟩)
    go_ret
    exact ⟨ret_bool (by rw [HF.out, h1]; simp), HB.out⟩

end Go.Proofs.YteandmolnbcmmaaGreatDoor

namespace Go.Proofs.YteandmolnbcmmaaGreatDoor
open Go.RowKit Go.Sort

theorem Grows.cell {w w' : World} (h : Grows w w') {b o : Nat} {v : Value} (hc : w.cell? ⟨b, o, none⟩ = some v) : w'.cell? ⟨b, o, none⟩ = some v := by
  have hlt : b < w.heap.size := World.block_lt_of_cell? w _ hc
  rw [h.below.cell (p := ⟨b, o, none⟩) hlt]; exact hc

/-- Cells, one behind the other. -/
def Cells (w : World) (b o : Nat) (cs : List Value) : Prop := ∀ j u, cs[j]? = some u → w.cell? ⟨b, o + j, none⟩ = some u

theorem Grows.cells {w w' : World} (h : Grows w w') {b o : Nat} {cs : List Value} (hc : Cells w b o cs) : Cells w' b o cs := fun j u hj => h.cell (hc j u hj)

/-- A row of elements of k cells each. -/
def RowAt (w : World) (k b o : Nat) (xs : List (List Value)) : Prop := ∀ i x, xs[i]? = some x → Cells w b (o + i * k) x

theorem Grows.row {w w' : World} (h : Grows w w') {k b o : Nat} {xs : List (List Value)} (hc : RowAt w k b o xs) : RowAt w' k b o xs := fun i x hi => h.cells (hc i x hi)

theorem chkSFrom_step (p : Option Samp) (s : Samp) (l : List Samp) : chkSFrom p (s :: l) = if sampFault s ≠ 0 then sampFault s else if ∃ q, p = some q ∧ ¬ lt3 (sampKey q) (sampKey s) then 7 else chkSFrom (some s) l := rfl

theorem cmp3_le (a b : Int × ByteArray × ByteArray) : cmp3 a b ≤ 0 ↔ ¬ lt3 b a := by
  have h1 := cmp3_neg a b
  have h2 := cmp3_zero a b
  constructor
  · intro h hba
    rcases Int.lt_or_eq_of_le h with h | h
    · exact lt3_irrefl _ (lt3_trans (h1.1 h) hba)
    · rw [h2.1 h] at hba; exact lt3_irrefl _ hba
  · intro h
    by_cases hab : lt3 a b
    · have := h1.2 hab; omega
    · have := h2.2 (lt3_tri _ _ hab h); omega

set_option maxHeartbeats 2000000 in
set_option maxRecDepth 100000 in
theorem checkSamples_some (l : List Samp) (b o c : Nat) (w : World) (hl : l.length ≤ 5000) (hr : RowAt w 4 b o (l.map encSa)) (hsz : ∀ s ∈ l, s.device.size ≤ maxLen ∧ s.metric.size ≤ maxLen) :
    Calls Tryz.prog 53 #[.slice (some ⟨b, o, none⟩) l.length c] w fun e w' => e = .returned (.int .i64 (chkSFrom none l)) ∧ Grows w w' := by
  have HR := Lib.hid hr
  have HZ := Lib.hid hsz
  clear hr hsz
  obtain ⟨n, hn⟩ : ∃ n, l.length = n := ⟨_, rfl⟩
  rw [hn] at hl ⊢
  have HN := Lib.hid hn
  clear hn
  go_enter Tryz.func53, Tryz.ntmps53
  go_wp2
  go_loopw [11] (fun i wr => ∃ k : Nat, k ≤ n ∧ i = .int .i64 k ∧ Grows w wr ∧ Hid (chkSFrom none l = chkSFrom (if k = 0 then none else l[k-1]?) (l.drop k))) (fun i _ => n - (intOf i).toNat)
  case atStart => exact ⟨0, Nat.zero_le _, rfl, Grows.refl w, Lib.hid rfl⟩
  case round =>
    obtain ⟨k, hk, rfl, hg, H⟩ := hrel
    by_cases hlt : k < n
    · obtain ⟨s, hs⟩ : ∃ s, l[k]? = some s := ⟨l[k]'(by rw [HN.out]; exact hlt), List.getElem?_eq_getElem _⟩
      have hrow := hg.row HR.out k (encSa s) (by rw [List.getElem?_map, hs]; rfl)
      have c0 : wr.cell? ⟨b, o + k * 4, none⟩ = some (.string s.device) := hrow 0 _ rfl
      have c1 := hrow 1 _ rfl
      have c2 := hrow 2 _ rfl
      have c3 := hrow 3 _ rfl
      have HS := Lib.hid hs
      have HG := Lib.hid hg
      clear hrow hs hg
      have hsz := HZ.out s (List.mem_of_getElem? HS.out)
      obtain ⟨Z1, Z2⟩ := (⟨Lib.hid hsz.1, Lib.hid hsz.2⟩ : Hid (s.device.size ≤ maxLen) ∧ Hid (s.metric.size ≤ maxLen))
      clear hsz
      have hdr : l.drop k = s :: l.drop (k + 1) := by
        have h1 : k < l.length := by rw [HN.out]; exact hlt
        rw [List.drop_eq_getElem_cons h1]
        have h2 := HS.out
        rw [List.getElem?_eq_getElem h1] at h2
        rw [Option.some.inj h2]
      have hst := H.out
      rw [hdr, chkSFrom_step] at hst
      have HST := Lib.hid hst
      clear hst hdr H
      by_cases hf : sampFault s = 0
      · have HST2 : Hid (chkSFrom none l = if ∃ q, (if k = 0 then none else l[k-1]?) = some q ∧ ¬ lt3 (sampKey q) (sampKey s) then 7 else chkSFrom (some s) (l.drop (k + 1))) := Lib.hid (by rw [HST.out, if_neg (by simp [hf])])
        clear HST
        go_wp2_with fail
        refine (sampleFault_calls s _ Z1.out Z2.out).mono ?_
        rintro e w1 ⟨rfl, hg1⟩
        have HG1 := Lib.hid (HG.out.trans (((Grows.refl wr).alloc _).trans hg1))
        have d0 : w1.cell? ⟨wr.heap.size, 0, none⟩ = some (.string s.device) := hg1.cell (cell_new _ _ _ 0 _ _ rfl rfl)
        have d1 : w1.cell? ⟨wr.heap.size, 1, none⟩ = some (.string s.metric) := hg1.cell (cell_new _ _ _ 1 _ _ rfl rfl)
        have d2 : w1.cell? ⟨wr.heap.size, 2, none⟩ = some (.int .i64 s.at_) := hg1.cell (cell_new _ _ _ 2 _ _ rfl rfl)
        have d3 : w1.cell? ⟨wr.heap.size, 3, none⟩ = some (.int .i64 s.value) := hg1.cell (cell_new _ _ _ 3 _ _ rfl rfl)
        clear hg1 c0 c1 c2 c3
        go_wp2_with fail
        by_cases hk0 : k = 0
        · have hd : decide (0 < k) = false := decide_eq_false (by omega)
          have HN0 : Hid (chkSFrom none l = chkSFrom (some s) (l.drop (k + 1))) := Lib.hid (by rw [HST2.out, if_neg]; rintro ⟨q, hq, _⟩; rw [if_pos hk0] at hq; cases hq)
          clear hk0 HST2
          go_quiet (fail)
          go_wp2_with fail
          all_goals
            go_roundw
            case rel => exact ⟨k + 1, by omega, by go_num, HG1.out.drewN _, Lib.hid (by rw [HN0.out, if_neg (by omega), show k + 1 - 1 = k by omega, HS.out])⟩
            case measure => simp [intOf]; omega
        · have hd : decide (0 < k) = true := decide_eq_true (by omega)
          have hk1 : 0 < k := by omega
          obtain ⟨q, hq⟩ : ∃ q, l[k - 1]? = some q := ⟨l[k - 1]'(by rw [HN.out]; omega), List.getElem?_eq_getElem _⟩
          have hrow := HG1.out.row HR.out (k - 1) (encSa q) (by rw [List.getElem?_map, hq]; rfl)
          have f0 : w1.cell? ⟨b, o + (k - 1) * 4, none⟩ = some (.string q.device) := hrow 0 _ rfl
          have f1 : w1.cell? ⟨b, o + (k - 1) * 4 + 1, none⟩ = some (.string q.metric) := hrow 1 _ rfl
          have f2 : w1.cell? ⟨b, o + (k - 1) * 4 + 2, none⟩ = some (.int .i64 q.at_) := hrow 2 _ rfl
          have f3 : w1.cell? ⟨b, o + (k - 1) * 4 + 3, none⟩ = some (.int .i64 q.value) := hrow 3 _ rfl
          have HN0 : Hid (chkSFrom none l = if ¬ lt3 (sampKey q) (sampKey s) then 7 else chkSFrom (some s) (l.drop (k + 1))) := Lib.hid (by
            rw [HST2.out, if_neg hk0, hq]
            by_cases hlt3 : lt3 (sampKey q) (sampKey s)
            · rw [if_neg (by rintro ⟨q', e, hn⟩; cases e; exact hn hlt3), if_neg (by simpa using hlt3)]
            · rw [if_pos ⟨q, rfl, hlt3⟩, if_pos hlt3])
          clear hrow hq HST2 hk0
          have hi0 : (1 : Int) ≤ (k : Int) := by omega
          have hi1 : (0 : Int) ≤ (k : Int) - 1 := by omega
          have hi2 : (k : Int) - 1 < n := by omega
          have hi3 : IntKind.i64.wrap ((k : Int) - 1) = (k : Int) - 1 := IntWalk.i64_in _ (by omega)
          have hi4 : ((k : Int) - 1).toNat = k - 1 := by omega
          go_region_held3 (fun w' => w'.cell? ⟨b, o + (k - 1) * 4, none⟩ = some (.string q.device) ∧ w'.cell? ⟨b, o + (k - 1) * 4 + 1, none⟩ = some (.string q.metric) ∧ w'.cell? ⟨b, o + (k - 1) * 4 + 2, none⟩ = some (.int .i64 q.at_) ∧ w'.cell? ⟨b, o + (k - 1) * 4 + 3, none⟩ = some (.int .i64 q.value) ∧
             w'.cell? ⟨wr.heap.size, 0, none⟩ = some (.string s.device) ∧ w'.cell? ⟨wr.heap.size, 1, none⟩ = some (.string s.metric) ∧ w'.cell? ⟨wr.heap.size, 2, none⟩ = some (.int .i64 s.at_) ∧ w'.cell? ⟨wr.heap.size, 3, none⟩ = some (.int .i64 s.value)) (first | exact ⟨f0, f1, f2, f3, d0, d1, d2, d3⟩ | exact ⟨hg2.cell f0, hg2.cell f1, hg2.cell f2, hg2.cell f3, hg2.cell d0, hg2.cell d1, hg2.cell d2, hg2.cell d3⟩)
             (first | (go_at_call 58; refine (byMoment_calls _ _ _ _ _ _ _ _ _).mono ?_; rintro e w2 ⟨rfl, hg2⟩))
          by_cases h3 : lt3 (sampKey q) (sampKey s)
          · have HN1 : Hid (chkSFrom none l = chkSFrom (some s) (l.drop (k + 1))) := Lib.hid (by rw [HN0.out, if_neg (by simpa using h3)])
            have e3 : 0 < cmp3 (s.at_, s.device, s.metric) (q.at_, q.device, q.metric) := Int.not_le.1 (fun x => (cmp3_le _ _).1 x h3)
            have HG2 := Lib.hid (HG1.out.trans ((Grows.refl w1).drew.trans hg2))
            clear h3 HN0 hg2
            go_wp2
            go_roundw
            case rel => exact ⟨k + 1, by omega, by go_num, HG2.out, Lib.hid (by rw [HN1.out, if_neg (by omega), show k + 1 - 1 = k by omega, HS.out])⟩
            case measure => simp [intOf]; omega
          · have HN1 : Hid (chkSFrom none l = 7) := Lib.hid (by rw [HN0.out, if_pos h3])
            have e3 : cmp3 (s.at_, s.device, s.metric) (q.at_, q.device, q.metric) ≤ 0 := (cmp3_le _ _).2 h3
            have HG2 := Lib.hid (HG1.out.trans ((Grows.refl w1).drew.trans hg2))
            clear h3 HN0 hg2
            go_wp2
            go_ret
            exact ⟨ret_i64 HN1.out.symm, HG2.out⟩
      · have HST2 : Hid (chkSFrom none l = sampFault s) := Lib.hid (by rw [HST.out, if_pos hf])
        clear HST
        have hbne : (sampFault s != 0) = true := by simpa using hf
        go_wp2_with fail
        refine (sampleFault_calls s _ Z1.out Z2.out).mono ?_
        rintro e w1 ⟨rfl, hg1⟩
        have HG1 := Lib.hid (HG.out.trans (((Grows.refl wr).alloc _).trans hg1))
        clear hg1 c0 c1 c2 c3
        go_wp2_with fail
        go_ret
        exact ⟨ret_i64 HST2.out.symm, HG1.out⟩
    · have HE : Hid (chkSFrom none l = 0) := Lib.hid (by rw [H.out, List.drop_eq_nil_of_le (by rw [HN.out]; omega)]; rfl)
      have hd : decide (k < n) = false := decide_eq_false hlt
      go_wp2
      go_ret
      exact ⟨ret_i64 HE.out.symm, hg⟩

/-- A slice that reads as a list of elements of k cells; of none: whatever its address. -/
def ReadsK (w : World) (k : Nat) (v : Value) (xs : List (List Value)) : Prop :=
  ∃ A c, v = .slice A xs.length c ∧ xs.length ≤ c ∧ (xs ≠ [] → ∃ b o, A = some ⟨b, o, none⟩ ∧ RowAt w k b o xs)

theorem Grows.reads {w w' : World} (h : Grows w w') {k : Nat} {v : Value} {xs : List (List Value)} (hc : ReadsK w k v xs) : ReadsK w' k v xs := by
  obtain ⟨A, c, e, hl, hx⟩ := hc
  exact ⟨A, c, e, hl, fun hn => let ⟨b, o, ea, hr⟩ := hx hn; ⟨b, o, ea, h.row hr⟩⟩

def SizedSa (l : List Samp) : Prop := ∀ s ∈ l, s.device.size ≤ maxLen ∧ s.metric.size ≤ maxLen

set_option maxHeartbeats 1000000 in
theorem checkSamples_large (n : Nat) (A : Option Addr) (c : Nat) (w : World) (hl : 5000 < n) :
    Calls Tryz.prog 53 #[.slice A n c] w fun e w' => e = .returned (.int .i64 2) ∧ Grows w w' := by
  have hd : decide ((5000 : Int) < n) = true := decide_eq_true (by omega)
  go_enter Tryz.func53, Tryz.ntmps53
  go_wp2
  go_ret
  exact ⟨rfl, Grows.refl w⟩

set_option maxHeartbeats 1000000 in
theorem checkSamples_none (A : Option Addr) (c : Nat) (w : World) :
    Calls Tryz.prog 53 #[.slice A 0 c] w fun e w' => e = .returned (.int .i64 0) ∧ Grows w w' := by
  go_enter Tryz.func53, Tryz.ntmps53
  go_wp2
  refine wp_loop_rounds 1 ?_
  rw [rounds_succ]
  go_wp2
  go_ret
  exact ⟨rfl, Grows.refl w⟩

theorem checkSamples_calls (l : List Samp) (v : Value) (w : World) (hr : ReadsK w 4 v (l.map encSa)) (hz : SizedSa l) :
    Calls Tryz.prog 53 #[v] w fun e w' => e = .returned (.int .i64 (chkS l)) ∧ Grows w w' := by
  obtain ⟨A, c, rfl, hc, hx⟩ := hr
  rw [List.length_map]
  unfold chkS
  by_cases hl : 5000 < l.length
  · rw [if_pos hl]
    exact checkSamples_large _ _ _ _ hl
  · rw [if_neg hl]
    by_cases hn : l = []
    · subst hn
      exact checkSamples_none _ _ _
    · obtain ⟨b, o, rfl, hrow⟩ := hx (by simpa using hn)
      exact checkSamples_some l b o c w (by omega) hrow hz

end Go.Proofs.YteandmolnbcmmaaGreatDoor
