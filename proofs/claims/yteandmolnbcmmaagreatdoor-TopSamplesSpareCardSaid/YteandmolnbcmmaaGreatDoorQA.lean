/- Walks: slices.ContainsFunc of rules with the closure of TopSamplesSpare. Neighbours that are alike are one: what slices.Compact leaves of samples; the equality of two samples. No condition beyond what each theorem states. -/
import Derived.Test.YteandmolnbcmmaaGreatDoorLB
import Derived.Test.YteandmolnbcmmaaGreatDoorPA
import Derived.Test.YteandmolnbcmmaaGreatDoorME

namespace Go.Proofs.YteandmolnbcmmaaGreatDoor
open Go.RowKit Go.Sort

def spareM : ByteArray := ⟨#[122, 122, 45, 115, 112, 97, 114, 101]⟩

set_option maxHeartbeats 1000000 in
set_option maxRecDepth 100000 in
theorem isM_calls {w : World} {mb : Nat} {m : ByteArray} (h : w.cell? ⟨mb, 0, none⟩ = some (.string m)) (r : Rule) :
    Calls Tryz.prog 28 #[.agg #[.string r.key, .string r.metric, .int .i64 r.agg, .int .i64 r.long, .bool r.above, .int .i64 r.on, .int .i64 r.off, .int .i64 r.hold, .int .i64 r.rest, .int .i64 r.empty], .pointer (some ⟨mb, 0, none⟩)] w fun e w' => e = .returned (.bool (decide (r.metric = m))) ∧ Grows w w' := by
  have e0 := cell_alloc_old h (.cells #[.string r.key, .string r.metric, .int .i64 r.agg, .int .i64 r.long, .bool r.above, .int .i64 r.on, .int .i64 r.off, .int .i64 r.hold, .int .i64 r.rest, .int .i64 r.empty] 31)
  have G1 := Lib.hid ((Grows.refl w).alloc (.cells #[.string r.key, .string r.metric, .int .i64 r.agg, .int .i64 r.long, .bool r.above, .int .i64 r.on, .int .i64 r.off, .int .i64 r.hold, .int .i64 r.rest, .int .i64 r.empty] 31))
  have e1 := (Blk.new w 31 #[.string r.key, .string r.metric, .int .i64 r.agg, .int .i64 r.long, .bool r.above, .int .i64 r.on, .int .i64 r.off, .int .i64 r.hold, .int .i64 r.rest, .int .i64 r.empty]).cell 1
  clear h
  by_cases hm : r.metric = m
  · have HD : Hid (decide (r.metric = m) = true) := Lib.hid (decide_eq_true hm)
    rw [HD.out]
    subst hm
    go_enter Tryz.func28, Tryz.ntmps28
    go_wp2_with fail
    go_ret
    exact ⟨rfl, G1.out⟩
  · have HD : Hid (decide (r.metric = m) = false) := Lib.hid (decide_eq_false hm)
    rw [HD.out]
    have hb : (r.metric.toList == m.toList) = false := eqS_false hm
    go_enter Tryz.func28, Tryz.ntmps28
    go_wp2_with fail
    go_ret
    exact ⟨rfl, G1.out⟩

set_option maxHeartbeats 1000000 in
set_option maxRecDepth 100000 in
theorem indexR_calls {w : World} {v : Value} {B : List Rule} {mb : Nat} {mm : ByteArray} (h : w.cell? ⟨mb, 0, none⟩ = some (.string mm)) (hl : ReadsK w 10 v (B.map encR)) (hn : B.length ≤ 1000000000000) :
    Calls Tryz.prog 54 #[v, .func (.func 28) #[] #[.pointer (some ⟨mb, 0, none⟩)]] w fun e w' =>
      (∃ R : Int, e = .returned (.int .i64 R) ∧ (0 ≤ R ↔ ∃ r ∈ B, r.metric = mm)) ∧ Grows w w' := by
  have HH := Lib.hid h
  clear h
  obtain ⟨A, cc, rfl, hcap, hrow⟩ := hl
  rw [List.length_map] at hcap ⊢
  have HRow := Lib.hid hrow
  clear hrow
  obtain ⟨m, hnn⟩ : ∃ m, B.length = m := ⟨_, rfl⟩
  rw [hnn] at hn hcap ⊢
  have HN := Lib.hid hnn
  clear hnn
  go_enter Tryz.func54, Tryz.ntmps54
  go_wp2_with fail
  go_loopw [8] (fun i wr => ∃ q : Nat, q ≤ m ∧ i = .int .i64 q ∧ (∀ y ∈ B.take q, ¬ y.metric = mm) ∧ Grows w wr) (fun i _ => m - (intOf i).toNat)
  case atStart => exact ⟨0, Nat.zero_le _, rfl, by simp, Grows.refl w⟩
  case round =>
    obtain ⟨q, hq, rfl, hO, hG⟩ := hrel
    have HO := Lib.hid hO
    have HG := Lib.hid hG
    clear hO hG
    by_cases hlt : q < m
    · obtain ⟨s, hs⟩ : ∃ s, B[q]? = some s := ⟨B[q]'(by rw [HN.out]; exact hlt), List.getElem?_eq_getElem _⟩
      obtain ⟨b, o, rfl, hrow⟩ := HRow.out (by intro e; rw [List.map_eq_nil_iff] at e; rw [e] at hs; simp at hs)
      have hcs := HG.out.cells (hrow q (encR s) (by rw [List.getElem?_map, hs]; rfl))
      have d0 : wr.cell? ⟨b, o + q * 10, none⟩ = some (.string s.key) := hcs 0 _ rfl
      have d1 : wr.cell? ⟨b, o + q * 10 + 1, none⟩ = some (.string s.metric) := hcs 1 _ rfl
      have d2 : wr.cell? ⟨b, o + q * 10 + 2, none⟩ = some (.int .i64 s.agg) := hcs 2 _ rfl
      have d3 : wr.cell? ⟨b, o + q * 10 + 3, none⟩ = some (.int .i64 s.long) := hcs 3 _ rfl
      have d4 : wr.cell? ⟨b, o + q * 10 + 4, none⟩ = some (.bool s.above) := hcs 4 _ rfl
      have d5 : wr.cell? ⟨b, o + q * 10 + 5, none⟩ = some (.int .i64 s.on) := hcs 5 _ rfl
      have d6 : wr.cell? ⟨b, o + q * 10 + 6, none⟩ = some (.int .i64 s.off) := hcs 6 _ rfl
      have d7 : wr.cell? ⟨b, o + q * 10 + 7, none⟩ = some (.int .i64 s.hold) := hcs 7 _ rfl
      have d8 : wr.cell? ⟨b, o + q * 10 + 8, none⟩ = some (.int .i64 s.rest) := hcs 8 _ rfl
      have d9 : wr.cell? ⟨b, o + q * 10 + 9, none⟩ = some (.int .i64 s.empty) := hcs 9 _ rfl
      have hd : (q : Int) < (m : Int) := by omega
      have x1 : IntKind.i64.wrap ((q : Int) + 1) = (q : Int) + 1 := IntWalk.i64_in _ (by omega)
      have HTK : Hid (B.take (q + 1) = B.take q ++ [s]) := Lib.hid (by rw [List.take_add_one, hs]; rfl)
      have HF := Lib.hid (isM_calls (HG.out.cell HH.out) s)
      have HX := Lib.hid hs
      clear hrow hcs hs
      obtain ⟨z, hz⟩ : ∃ z, decide (s.metric = mm) = z := ⟨_, rfl⟩
      rw [hz] at HF
      have HZ := Lib.hid hz
      clear hz
      cases z
      · go_wp2_with (go_at_call 28; refine HF.out.mono ?_; rintro e w2 ⟨rfl, hg2⟩; have HG2 := Lib.hid (HG.out.trans hg2); clear hg2 d0 d1 d2 d3 d4 d5 d6 d7 d8 d9)
        refine ⟨⟨q + 1, by omega, by go_num, ?_, HG2.out⟩, by simp [intOf]; omega⟩
        rw [HTK.out]
        intro y hy
        rcases List.mem_append.1 hy with hy | hy
        · exact HO.out y hy
        · simp only [List.mem_cons, List.mem_nil_iff, or_false] at hy
          subst hy
          exact of_decide_eq_false HZ.out
      · go_wp2_with (go_at_call 28; refine HF.out.mono ?_; rintro e w2 ⟨rfl, hg2⟩; have HG2 := Lib.hid (HG.out.trans hg2); clear hg2 d0 d1 d2 d3 d4 d5 d6 d7 d8 d9)
        go_ret
        exact ⟨⟨_, rfl, iff_of_true (by omega) ⟨s, List.mem_of_getElem? HX.out, of_decide_eq_true HZ.out⟩⟩, HG2.out⟩
    · have hqm : q = m := by omega
      subst hqm
      have hd : ¬ (q : Int) < (q : Int) := by omega
      have hno : ¬ ∃ r ∈ B, r.metric = mm := by
        rintro ⟨r, hr, he⟩
        have := HO.out
        rw [← HN.out, List.take_length] at this
        exact this r hr he
      have HNO := Lib.hid hno
      clear hno
      go_wp2_with fail
      go_ret
      exact ⟨⟨_, rfl, iff_of_false (by omega) HNO.out⟩, HG.out⟩

theorem containsR_calls {w : World} {v : Value} {B : List Rule} {mb : Nat} {mm : ByteArray} (h : w.cell? ⟨mb, 0, none⟩ = some (.string mm)) (hl : ReadsK w 10 v (B.map encR)) (hn : B.length ≤ 1000000000000) :
    Calls Tryz.prog 27 #[v, .func (.func 28) #[] #[.pointer (some ⟨mb, 0, none⟩)]] w fun e w' =>
      (∃ z : Bool, e = .returned (.bool z) ∧ (z = true ↔ ∃ r ∈ B, r.metric = mm)) ∧ Grows w w' := by
  have HI := Lib.hid (indexR_calls h hl hn)
  clear hl hn h
  go_enter Tryz.func27, Tryz.ntmps27
  go_wp2_with fail
  refine HI.out.mono ?_
  rintro e w' ⟨⟨i, rfl, hi⟩, hg⟩
  have HG := Lib.hid hg
  have HII := Lib.hid hi
  clear HI hg hi
  go_wp2_with fail
  go_ret
  exact ⟨⟨decide (0 ≤ i), rfl, by rw [decide_eq_true_iff]; exact HII.out⟩, HG.out⟩
end Go.Proofs.YteandmolnbcmmaaGreatDoor

namespace Go.Proofs.YteandmolnbcmmaaGreatDoor
open Go.RowKit Go.Sort

def saB (x y : Samp) : Bool := x.device.toList == y.device.toList && (x.metric.toList == y.metric.toList && (x.at_ == y.at_ && x.value == y.value))

theorem saB_true (x y : Samp) : saB x y = true ↔ x = y := by
  unfold saB
  simp only [Bool.and_eq_true, beq_iff_eq]
  constructor
  · rintro ⟨h1, h2, h3, h4⟩
    rw [Lib.toList_data, Lib.toList_data] at h1 h2
    cases x; cases y
    simp only [Samp.mk.injEq]
    exact ⟨bytes_ext h1, bytes_ext h2, h3, h4⟩
  · rintro rfl
    exact ⟨rfl, rfl, rfl, rfl⟩

theorem neq51 (x y : Samp) (w : World) : (binOp .neq 51 (.agg #[.string x.device, .string x.metric, .int .i64 x.at_, .int .i64 x.value]) (.agg #[.string y.device, .string y.metric, .int .i64 y.at_, .int .i64 y.value])).run Tryz.prog w = .ok (.bool (!saB x y)) w := by
  rw [run_neq_struct]
  simp [go_sem, Tryz.underlying51]
  unfold saB
  by_cases h1 : x.device.toList = y.device.toList <;> by_cases h2 : x.metric.toList = y.metric.toList <;> by_cases h3 : x.at_ = y.at_ <;> by_cases h4 : x.value = y.value <;> simp [h1, h2, h3, h4]

/-- The list without what equals the one before it; p: the one before. -/
def compFrom : Option Samp → List Samp → List Samp
  | _, [] => []
  | p, s :: l => (bif p.any (saB · s) then [] else [s]) ++ compFrom (some s) l

def comp (l : List Samp) : List Samp := compFrom none l

theorem compFrom_snoc : ∀ (p : Option Samp) (l : List Samp) (s : Samp), compFrom p (l ++ [s]) = compFrom p l ++ (bif (l.getLast?.or p).any (saB · s) then [] else [s])
  | p, [], s => by simp [compFrom]
  | p, x :: l, s => by
    rw [List.cons_append, compFrom, compFrom, compFrom_snoc (some x) l s, List.append_assoc]
    congr 2
    cases l with
    | nil => simp
    | cons y l => simp [List.getLast?_cons]

theorem comp_snoc (l : List Samp) (s : Samp) : comp (l ++ [s]) = comp l ++ (bif l.getLast?.any (saB · s) then [] else [s]) := by
  unfold comp
  rw [compFrom_snoc]
  simp

theorem compFrom_sub : ∀ (p : Option Samp) (l : List Samp), (compFrom p l).Sublist l
  | _, [] => List.Sublist.refl _
  | p, s :: l => by
    rw [compFrom]
    cases p.any (saB · s)
    · exact (compFrom_sub (some s) l).cons_cons _
    · exact (compFrom_sub (some s) l).cons _

theorem compFrom_mem : ∀ (p : Option Samp) (l : List Samp) (x : Samp), x ∈ l → x ∈ compFrom p l ∨ p = some x
  | _, [], _, h => by simp at h
  | p, s :: l, x, h => by
    rw [compFrom]
    rcases List.mem_cons.1 h with rfl | h
    · by_cases hp : p.any (saB · x) = true
      · right
        cases p with
        | none => simp at hp
        | some q =>
          have : saB q x = true := by simpa using hp
          rw [(saB_true q x).1 this]
      · left; rw [Bool.not_eq_true] at hp; rw [hp]; simp
    · rcases compFrom_mem (some s) l x h with h1 | h1
      · left; exact List.mem_append_right _ h1
      · have hsx : s = x := Option.some.inj h1
        subst hsx
        by_cases hp : p.any (saB · s) = true
        · right
          cases p with
          | none => simp at hp
          | some q =>
            have : saB q s = true := by simpa using hp
            rw [(saB_true q s).1 this]
        · left; rw [Bool.not_eq_true] at hp; rw [hp]; simp

theorem comp_mem (l : List Samp) (x : Samp) : x ∈ comp l ↔ x ∈ l := by
  constructor
  · exact fun h => (compFrom_sub none l).subset h
  · intro h
    rcases compFrom_mem none l x h with h1 | h1
    · exact h1
    · cases h1
end Go.Proofs.YteandmolnbcmmaaGreatDoor
