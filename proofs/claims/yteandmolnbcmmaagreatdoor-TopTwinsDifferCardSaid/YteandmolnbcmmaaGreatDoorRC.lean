/- Walk: slices.SortFunc of edges; rule.edgesOf: the edges of spells by device, sorted. The closures of rule.Differ and rule.Quorum at two rules that fire alike; a slice of two zeros. No condition beyond what each theorem states. -/
import Derived.Test.YteandmolnbcmmaaGreatDoorRB
import Derived.Test.YteandmolnbcmmaaGreatDoorKW

namespace Go.Proofs.YteandmolnbcmmaaGreatDoor
open Go.RowKit Go.Sort

theorem info166 : (Tryz.prog.info? 166).map (fun i => (i.zero, i.size, i.bytes)) = some (some (.agg #[.int .i64 0, .int .i64 0, .int .i64 0]), 3, 24) := by kernel_rfl
theorem u164 : Tryz.prog.underlying 164 = some (.slice 166) := by kernel_rfl

instance : Inhabited Edge := ⟨⟨0, 0, 0⟩⟩

theorem swoE : SWO (ltOf fun x y : Edge => iCmp x.at_ y.at_) where
  irrefl := fun x => by
    unfold ltOf
    simp only [decide_eq_false_iff_not]
    rw [iCmp_neg]
    omega
  trans := fun x y z h k => by
    unfold ltOf at *
    simp only [decide_eq_true_eq] at *
    rw [iCmp_neg] at *
    omega
  ntrans := fun x y z h k => by
    unfold ltOf at *
    simp only [decide_eq_false_iff_not] at *
    rw [iCmp_neg] at *
    omega

set_option maxHeartbeats 1000000 in
theorem edgeOrd_calls (x y : Edge) (w : World) : Calls Tryz.prog 156 #[.agg #[.int .i64 x.at_, .int .i64 x.rule, .int .i64 x.by_], .agg #[.int .i64 y.at_, .int .i64 y.rule, .int .i64 y.by_]] w fun e w' => e = .returned (.int .i64 (iCmp x.at_ y.at_)) ∧ Grows w w' := by
  have HG := Lib.hid (((Grows.refl w).alloc (.cells #[.int .i64 x.at_, .int .i64 x.rule, .int .i64 x.by_] 166)).alloc (.cells #[.int .i64 y.at_, .int .i64 y.rule, .int .i64 y.by_] 166))
  go_enter Tryz.func156, Tryz.ntmps156
  go_wp2_with fail
  refine (cmpInt_calls x.at_ y.at_ _).mono ?_
  rintro e w2 ⟨rfl, rfl⟩
  go_wp2_with fail
  go_ret
  exact ⟨rfl, HG.out⟩

/-- By their times. -/
def SortedE (E : List Edge) : Prop := E.Pairwise fun a b => ¬ b.at_ < a.at_

theorem sortE_calls {w : World} {base : Nat} {v : Value} {X : List Edge} (h : Own w base 166 3 v X.length (flatE encEd X)) (hn : X.length ≤ 100000000000) :
    Calls Tryz.prog 155 #[v, .func (.func 156) #[] #[]] w fun e' w' => e' = .returned (.tuple #[]) ∧ (∃ Y : List Edge, Y.Perm X ∧ SortedE Y ∧ Own w' base 166 3 v X.length (flatE encEd Y)) ∧ Keeps (fun k => k < w.heap.size ∧ some k ≠ v.ownBlock) w w' :=
  (sortF_calls Tryz.laysSort155 encEd_len encEd_one (fun w => Tryz.isAgg166 w) (fun w => Tryz.sizeOf166 w) (fun x y => iCmp x.at_ y.at_) swoE 156 (enters_of Tryz.func156 (by kernel_rfl) rfl)
    (fun x y w => edgeOrd_calls x y w) h (by omega)).mono fun e w' ⟨he, ⟨Y, hp, hs, hO⟩, hk⟩ => ⟨he, ⟨Y, hp, hs.imp fun hab => by rwa [iCmp_neg] at hab, hO⟩, hk⟩

/-- The iterator steps on. -/
theorem GroupsE.step {w w' : World} {B b r n n' : Nat} {G : ByteArray → List Edge} {f : ByteArray → Option Value} {D : List ByteArray} (h : GroupsE w B b n G f) (hr : RangeIs Tryz.prog 9 w b r n' f D) (hk : Keeps (· ≠ r) w w') : GroupsE w' B b n G f where
  map := h.map.same (hk.block b fun e => hr.ne e.symm)
  blk := h.blk
  val := fun d hd => (h.val d hd).imp id fun ⟨v, h1, h2⟩ => ⟨v, h1, h2.same fun g hg => hk.block g fun e => hr.ne_own h2 (by rw [hg, e])⟩
  apart := h.apart

/-- A slice of slices of spells. -/
def LsAt (w : World) (v : Value) (Ls : List (List Spell)) : Prop :=
  ∃ b o c, v = .slice (some ⟨b, o, none⟩) Ls.length c ∧ Ls.length ≤ c ∧ ∀ i C, Ls[i]? = some C → ∃ u, w.cell? ⟨b, o + i, none⟩ = some u ∧ ReadsK w 4 u (C.map encSp)

def EPost (w : World) (Ls : List (List Spell)) (e : Ending) (w' : World) : Prop :=
  ∃ (n : Nat) (G : ByteArray → List Edge) (f : ByteArray → Option Value), e = .returned (.map (some w.heap.size)) ∧ GroupsE w' (w.heap.size + 1) w.heap.size n G f ∧
    (∀ d, d.size ≤ maxLen → (G d).Perm (edL 0 Ls d) ∧ SortedE (G d)) ∧ Below w.heap.size w w'

theorem edL_le {Ls : List (List Spell)} {c : Nat} (d : ByteArray) (h : ∀ C ∈ Ls, C.length ≤ c) : (edL 0 Ls d).length ≤ 2 * (Ls.length * c) := by
  refine Nat.le_trans (edL_length d 0 Ls) (Nat.mul_le_mul (Nat.le_refl 2) ?_)
  induction Ls with
  | nil => simp
  | cons A Ls ih =>
    have h1 := h A (by simp)
    have h2 := ih fun C hC => h C (by simp [hC])
    rw [List.map_cons, List.sum_cons, List.length_cons, Nat.add_mul]
    omega

set_option maxHeartbeats 8000000 in
set_option maxRecDepth 100000 in
theorem edgesOf_calls {w : World} {lv : Value} {Ls : List (List Spell)} (h : LsAt w lv Ls) (hn : Ls.length ≤ 2) (hC : ∀ C ∈ Ls, C.length ≤ 100000000) (hd : ∀ C ∈ Ls, ∀ s ∈ C, s.device.size ≤ maxLen) :
    Calls Tryz.prog 107 #[lv] w (EPost w Ls) := by
  obtain ⟨i0, hi0, hz0, hz1, hz2⟩ := info_parts info166
  obtain ⟨lb, lo, lc, rfl, hlc, hcells⟩ := h
  have HCL := Lib.hid hcells
  have HCC := Lib.hid hC
  have HDZ := Lib.hid hd
  clear hcells hC hd
  obtain ⟨L, hLL⟩ : ∃ L, Ls.length = L := ⟨_, rfl⟩
  rw [hLL] at hn hlc ⊢
  have HLL := Lib.hid hLL
  clear hLL
  have KA := Lib.hid ((Keeps.refl (· < w.heap.size) w).alloc (fun _ h => h) (.map #[] 0))
  have MA : Hid (GroupsE (w.alloc (.map #[] 0)) (w.heap.size + 1) w.heap.size 0 (fun _ => []) (fun _ => none)) := Lib.hid ⟨MapIs.made _ _ _, Nat.lt_succ_self _, fun d _ => .inl ⟨rfl, rfl⟩, fun _ _ _ _ _ _ _ h => by cases h⟩
  have hmm := @run_makeMap Tryz.prog
  go_enter Tryz.func107, Tryz.ntmps107
  go_wp2_with fail
  go_loopw [13] (fun i wr => ∃ (m : Nat) (f : ByteArray → Option Value), m ≤ L ∧ i = .int .i64 m ∧ GroupsE wr (w.heap.size + 1) w.heap.size (m * 100000000) (fun d => edL 0 (Ls.take m) d) f ∧ Keeps (· < w.heap.size) w wr) (fun i _ => L - (intOf i).toNat)
  case atStart => exact ⟨0, _, Nat.zero_le _, rfl, MA.out, KA.out⟩
  case round =>
    obtain ⟨m, f, hm, rfl, hM, hK⟩ := hrel
    have HM := Lib.hid hM
    have HK := Lib.hid hK
    clear hM hK KA MA hmm
    by_cases hlt : m < L
    · obtain ⟨C, hCm⟩ : ∃ C, Ls[m]? = some C := ⟨Ls[m]'(by rw [HLL.out]; exact hlt), List.getElem?_eq_getElem _⟩
      obtain ⟨u, hcu, hru⟩ := HCL.out m C hCm
      obtain ⟨A, c, rfl, hcap, hrow⟩ := hru
      rw [List.length_map] at hcap
      have hcl := HCC.out C (List.mem_of_getElem? hCm)
      have HDC := Lib.hid (HDZ.out C (List.mem_of_getElem? hCm))
      have HTK : Hid (Ls.take (m + 1) = Ls.take m ++ [C]) := Lib.hid (by rw [List.take_add_one, hCm]; rfl)
      have htl : (Ls.take m).length = m := by rw [List.length_take, HLL.out]; omega
      have HTL := Lib.hid htl
      have hLE := Lib.hid (fun d => edL_le (c := 100000000) (Ls := Ls.take m) d (fun C hC => HCC.out C (List.mem_of_mem_take hC)))
      obtain ⟨T, hT⟩ : ∃ T, Ls.take m = T := ⟨_, rfl⟩
      rw [hT] at HTK HM HTL hLE
      have HRow := Lib.hid hrow
      have hlbl := World.block_lt_of_cell? w _ hcu
      have cu : wr.cell? ⟨lb, lo + m, none⟩ = some (.slice A (C.map encSp).length c) := HK.out.cell hlbl hcu
      rw [List.length_map] at cu
      obtain ⟨n, hnn⟩ : ∃ n, C.length = n := ⟨_, rfl⟩
      rw [hnn] at cu hcap hcl
      have HN := Lib.hid hnn
      have hdm : (m : Int) < (L : Int) := by omega
      have x0 : IntKind.i64.wrap ((m : Int) + 1) = (m : Int) + 1 := IntWalk.i64_in _ (by omega)
      clear hrow hcu hnn hT htl hCm
      go_wp2_with fail
      go_loopw [20] (fun i wr => ∃ (k : Nat) (f : ByteArray → Option Value), k ≤ n ∧ i = .int .i64 k ∧ GroupsE wr (w.heap.size + 1) w.heap.size (m * 100000000 + k) (fun d => edL 0 T d ++ edS (m : Int) (C.take k) d) f ∧ Keeps (· < w.heap.size) w wr) (fun i _ => n - (intOf i).toNat)
      case atStart => exact ⟨0, f, Nat.zero_le _, rfl, (HM.out.mono (Nat.le_add_right _ _)).congr fun d _ => List.append_nil _, HK.out⟩
      case round =>
        obtain ⟨k, f, hk, rfl, hM, hK⟩ := hrel
        clear HM HK cu
        have HM := Lib.hid hM
        have HK := Lib.hid hK
        clear hM hK
        by_cases hltk : k < n
        · obtain ⟨s, hs⟩ : ∃ s, C[k]? = some s := ⟨C[k]'(by rw [HN.out]; exact hltk), List.getElem?_eq_getElem _⟩
          obtain ⟨b, o, rfl, hrow⟩ := HRow.out (by intro e; rw [List.map_eq_nil_iff] at e; rw [e] at hs; simp at hs)
          have hcs := hrow k (encSp s) (by rw [List.getElem?_map, hs]; rfl)
          have d0 : w.cell? ⟨b, o + k * 4, none⟩ = some (.string s.device) := hcs 0 _ rfl
          have d1 : w.cell? ⟨b, o + k * 4 + 1, none⟩ = some (.string s.rule) := hcs 1 _ rfl
          have d2 : w.cell? ⟨b, o + k * 4 + 2, none⟩ = some (.int .i64 s.from_) := hcs 2 _ rfl
          have d3 : w.cell? ⟨b, o + k * 4 + 3, none⟩ = some (.int .i64 s.to_) := hcs 3 _ rfl
          have hbl := World.block_lt_of_cell? w _ d0
          replace d0 := HK.out.cell hbl d0
          replace d1 := HK.out.cell hbl d1
          replace d2 := HK.out.cell hbl d2
          replace d3 := HK.out.cell hbl d3
          have hdk : (k : Int) < (n : Int) := by omega
          have x1 : IntKind.i64.wrap ((k : Int) + 1) = (k : Int) + 1 := IntWalk.i64_in _ (by omega)
          have HTC : Hid (C.take (k + 1) = C.take k ++ [s]) := Lib.hid (by rw [List.take_add_one, hs]; rfl)
          have HDS := Lib.hid (HDC.out s (List.mem_of_getElem? hs))
          have hel := edS_length (m : Int) (C.take k) s.device
          rw [List.length_take, HN.out] at hel
          have hel2 := hLE.out s.device
          rw [HTL.out] at hel2
          clear hrow hcs hs
          go_upto_region 8 with fail
          have P0 : Blk (wr.alloc (.cells #[.string s.device, .string s.rule, .int .i64 s.from_, .int .i64 s.to_] 34)) wr.heap.size 34 #[.string s.device, .string s.rule, .int .i64 s.from_, .int .i64 s.to_] := Blk.new _ _ _
          have K0 := HK.out.alloc (fun k h => Nat.lt_of_lt_of_le h HK.out.size) (.cells #[.string s.device, .string s.rule, .int .i64 s.from_, .int .i64 s.to_] 34)
          have M0 := HM.out.same (w' := wr.alloc (.cells #[.string s.device, .string s.rule, .int .i64 s.from_, .int .i64 s.to_] 34)) fun k h => Below.heap_alloc wr _ k h
          obtain ⟨w2, hw2⟩ : ∃ W, wr.alloc (.cells #[.string s.device, .string s.rule, .int .i64 s.from_, .int .i64 s.to_] 34) = W := ⟨_, rfl⟩
          have hbS : w.heap.size < wr.heap.size := HM.out.map.lt
          obtain ⟨S0, hS0⟩ : ∃ S, wr.heap.size = S := ⟨_, rfl⟩
          rw [hw2, hS0] at P0
          rw [hw2] at K0 M0
          rw [hS0] at hbS
          rw [hw2, hS0]
          clear hw2 hS0 d0 d1 d2 d3 HM HK
          have p0 : w2.cell? ⟨S0, 0, none⟩ = some (.string s.device) := P0.cell 0
          have p2 : w2.cell? ⟨S0, 2, none⟩ = some (.int .i64 s.from_) := P0.cell 2
          have p3 : w2.cell? ⟨S0, 3, none⟩ = some (.int .i64 s.to_) := P0.cell 3
          have lS := P0.lt
          obtain ⟨v, hv⟩ : ∃ v, (f s.device).getD (.slice none 0 0) = v := ⟨_, rfl⟩
          have hown := M0.at_ s.device HDS.out
          have lk1 : (Instr.lookup 162 (.map (some w.heap.size)) (.string s.device) false).run Tryz.prog w2.drew = .ok v w2.drew := by
            rw [← hv]; exact (M0.same (w' := w2.drew) fun _ _ => rfl).look s.device HDS.out
          have lk2 : (Instr.lookup 162 (.map (some w.heap.size)) (.string s.device) false).run Tryz.prog (w2.alloc (.cells #[.int .i64 s.from_, .int .i64 m, .int .i64 1, .int .i64 s.to_, .int .i64 m, .int .i64 (-1)] 166)).drew = .ok v (w2.alloc (.cells #[.int .i64 s.from_, .int .i64 m, .int .i64 1, .int .i64 s.to_, .int .i64 m, .int .i64 (-1)] 166)).drew := by
            rw [← hv]; exact (M0.same (w' := (w2.alloc (.cells #[.int .i64 s.from_, .int .i64 m, .int .i64 1, .int .i64 s.to_, .int .i64 m, .int .i64 (-1)] 166)).drew) fun k h => Below.heap_alloc w2 _ k h).look s.device HDS.out
          have M3 := M0.same (w' := (w2.alloc (.cells #[.int .i64 s.from_, .int .i64 m, .int .i64 1, .int .i64 s.to_, .int .i64 m, .int .i64 (-1)] 166)).drew) fun k h => Below.heap_alloc w2 _ k h
          rw [hv] at hown
          have hbl2 := M0.map.lt
          have hSne : S0 ≠ w.heap.size := by omega
          have nS : v.ownBlock ≠ some S0 := hown.ne_blk P0 (by decide)
          have hub : ∀ g, v.ownBlock = some g → w.heap.size + 1 ≤ g := fun g hg => (hown.lt g hg).1
          obtain ⟨X, hX⟩ : ∃ X, edL 0 T s.device ++ edS (m : Int) (C.take k) s.device = X := ⟨_, rfl⟩
          have hXl : X.length ≤ 1000000000 := by rw [← hX, List.length_append]; omega
          rw [hX] at hown
          replace P0 := Lib.hid P0
          replace K0 := Lib.hid K0
          replace M0 := Lib.hid M0
          replace M3 := Lib.hid M3
          replace hown := Lib.hid hown
          replace hv := Lib.hid hv
          replace hub := Lib.hid hub
          replace hX := Lib.hid hX
          go_region_held3 (fun w' => w'.cell? ⟨S0, 0, none⟩ = some (.string s.device) ∧ w'.cell? ⟨S0, 2, none⟩ = some (.int .i64 s.from_) ∧ w'.cell? ⟨S0, 3, none⟩ = some (.int .i64 s.to_))
            (first
              | go_keep
              | (go_split_ands
                 refine ⟨?_, ?_, ?_⟩
                 · (rw [hgrow.cell_far _ (by simp; omega) (Ne.symm nS)]; assumption)
                 · (rw [hgrow.cell_far _ (by simp; omega) (Ne.symm nS)]; assumption)
                 · (rw [hgrow.cell_far _ (by simp; omega) (Ne.symm nS)]; assumption))
              | (go_split_ands
                 refine ⟨?_, ?_, ?_⟩
                 · (exact hK5.cell hSne (by assumption))
                 · (exact hK5.cell hSne (by assumption))
                 · (exact hK5.cell hSne (by assumption))))
            ((refine step_append_Own (by rfl) _ _ _ (by rfl) (w.heap.size + 1) 166 i0 _ 3 24 u164 hi0 hz0 hz1 hz2 rfl (by omega) v _ _ (by rfl) ((hown.out.alloc _).drew)
                ⟨w2.heap.size, 0, none⟩ 2 2 [.int .i64 s.from_, .int .i64 m, .int .i64 1, .int .i64 s.to_, .int .i64 m, .int .i64 (-1)] (by rfl) (by rfl) (World.news_of_block (cs := #[.int .i64 s.from_, .int .i64 m, .int .i64 1, .int .i64 s.to_, .int .i64 m, .int .i64 (-1)]) (t := 166) (fr := (0, 0)) (heap_alloc_new w2 _)) (by simp [Value.oneCell'])
                (by unfold maxLen; omega) (by omega) (by simp; omega) ?_; intro v' w4 hown4 hgrow hfr; obtain ⟨w5, hrun5, hM5, hK5⟩ := M3.out.store (v' := v') (d := s.device) (L := X ++ [⟨s.from_, m, 1⟩, ⟨s.to_, m, -1⟩]) HDS.out (by omega) (by rw [hv.out]; exact hgrow) (by rw [flatE, List.flatMap_append, List.length_append]; exact hown4) (by rw [hv.out]; exact hfr)))
          all_goals
            go_wp2_with fail
            go_roundw
            case rel =>
              refine ⟨k + 1, _, by omega, by go_num, (hM5.mono (Nat.le_of_eq (Nat.add_assoc _ _ _))).congr fun d hd => ?_, ?_⟩
              · rw [HTC.out, edS_snoc]
                by_cases e : d = s.device
                · subst e
                  rw [if_pos rfl, if_pos rfl, ← hX.out, List.append_assoc]
                · rw [if_neg e, if_neg (fun e' => e e'.symm), List.append_nil]
              · have K3 := ((K0.out.alloc (fun k h => Nat.lt_of_lt_of_le h K0.out.size) (.cells #[.int .i64 s.from_, .int .i64 m, .int .i64 1, .int .i64 s.to_, .int .i64 m, .int .i64 (-1)] 166)).drew).trans ((Keeps.refl _ _).grown hgrow (fun k h => Nat.lt_of_lt_of_le h (by have := K0.out.size; simp; omega)) (fun g e h => by have := hub.out g e; omega))
                exact K3.trans (hK5.mono fun k h => by omega)
            case measure => simp [intOf]; omega
        · have hkn : k = n := by omega
          subst hkn
          have hdk : ¬ (k : Int) < (k : Int) := by omega
          have hfull : C.take k = C := by rw [← HN.out]; exact List.take_length
          rw [hfull] at HM
          go_wp2_with fail
          go_roundw
          case rel =>
            refine ⟨m + 1, f, by omega, by go_num, (HM.out.mono (by omega)).congr fun d _ => ?_, HK.out⟩
            rw [HTK.out, edL_snoc, HTL.out]
            simp
          case measure => simp [intOf]; omega
    · have hmL : m = L := by omega
      subst hmL
      have hdm : ¬ (m : Int) < (m : Int) := by omega
      have hfull : Ls.take m = Ls := by rw [← HLL.out]; exact List.take_length
      rw [hfull] at HM
      have HPE : Hid (∀ d, d.size ≤ maxLen → (edL 0 Ls d).Perm (edL 0 Ls d) ∧ (d ∈ ([] : List ByteArray) → SortedE (edL 0 Ls d))) := Lib.hid fun d _ => ⟨List.Perm.refl _, fun h => by cases h⟩
      have HLN : Hid (∀ d, (edL 0 Ls d).length ≤ 2 * (m * 100000000)) := Lib.hid fun d => by have := edL_le (c := 100000000) d HCC.out; rwa [HLL.out] at this
      go_wp2_with (at_range; refine wpList_rangeS rfl _ 162 rfl under162 rfl HM.out.map ?_; intro ob hrg)
      have HRG := Lib.hid hrg
      have HM2 := Lib.hid (HM.out.same (w' := wr.alloc ob) fun k h => Below.heap_alloc wr _ k h)
      have HK2 := Lib.hid (HK.out.alloc (fun k h => Nat.lt_of_lt_of_le h HK.out.size) ob)
      have hSr : w.heap.size < wr.heap.size := HM.out.map.lt
      obtain ⟨n, hn'⟩ : ∃ n, m * 100000000 = n := ⟨_, rfl⟩
      rw [hn'] at HRG HM2 HLN
      obtain ⟨r, hr⟩ : ∃ r, wr.heap.size = r := ⟨_, rfl⟩
      obtain ⟨w2, hw2⟩ : ∃ W, wr.alloc ob = W := ⟨_, rfl⟩
      rw [hr, hw2] at HRG
      rw [hw2] at HM2 HK2
      rw [hr] at hSr
      rw [hr, hw2]
      have hnle : n ≤ 200000000 := by omega
      clear hrg hr hw2 hn' HM HK
      go_loopw [9] (fun _ wx => ∃ (D : List ByteArray) (G : ByteArray → List Edge), RangeIs Tryz.prog 9 wx w.heap.size r n f D ∧ GroupsE wx (w.heap.size + 1) w.heap.size n G f ∧ (∀ d, d.size ≤ maxLen → (G d).Perm (edL 0 Ls d) ∧ (d ∈ D → SortedE (G d))) ∧ Keeps (· < w.heap.size) w wx) (fun _ wx => wx.rangeLeft w.heap.size r)
      case atStart => exact ⟨[], _, HRG.out, HM2.out, HPE.out, HK2.out⟩
      case round =>
        obtain ⟨D, G, hR, hG, hP, hK⟩ := hrel
        obtain ⟨wx, rfl⟩ : ∃ x, x = wr := ⟨_, rfl⟩
        have HR := Lib.hid hR
        have HG := Lib.hid hG
        have HP := Lib.hid hP
        have HK := Lib.hid hK
        clear hR hG hP hK HRG HM2 HK2 HPE
        go_wp2_with (at_next; refine wpList_nextS rfl _ rfl under9 rfl HR.out ?_ ?_)
        · intro hall
          have HALL := Lib.hid hall
          clear hall
          go_wp2_with fail
          go_ret
          refine ⟨n, G, f, rfl, HG.out, fun d hd => ⟨(HP.out d hd).1, ?_⟩, HK.out.below⟩
          rcases HG.out.val d hd with ⟨_, h2⟩ | ⟨v, h1, _⟩
          · rw [h2]; exact List.Pairwise.nil
          · exact (HP.out d hd).2 (HALL.out d v hd h1)
        · intro key v w3 h1 h2 h3 hrg1 hlt1 hk1 hs1 hen
          have HG3 := Lib.hid (HG.out.step HR.out hk1)
          have ho := HG3.out.at_ key h1
          rw [h2] at ho
          replace ho : Own w3 (w.heap.size + 1) 166 3 v (G key).length (flatE encEd (G key)) := ho
          have HO := Lib.hid ho
          have HRG := Lib.hid hrg1
          have K3 := Lib.hid (HK.out.trans (hk1.mono fun k (hk : k < w.heap.size) => by omega))
          have HLT := Lib.hid hlt1
          have HF := Lib.hid h2
          have HKS := Lib.hid h1
          have hgl := (HP.out key h1).1.length_eq
          have hll := HLN.out key
          clear hrg1 hlt1 hk1 ho h2 h3 HG HR HK
          go_wp2_with fail
          refine (sortE_calls HO.out (by omega)).mono ?_
          rintro e w4 ⟨rfl, ⟨Y, hp, hso, hO⟩, hK4⟩
          have hlen := hp.length_eq
          rw [← hlen] at hO
          have hbn : ∀ k, k < w3.heap.size → (∀ g, v.ownBlock = some g → k ≠ g) → w4.heap[k]? = w3.heap[k]? := fun k hk hne => hK4.block k ⟨hk, fun e => hne k e.symm rfl⟩
          have hb1 := hbn w.heap.size HG3.out.map.lt fun g hg e => by have := (HO.out.lt g hg).1; omega
          have hb2 := hbn r HRG.out.lt fun g hg e => HRG.out.ne_own HO.out (by rw [hg, e])
          have HT := Lib.hid (HG3.out.turn HKS.out HF.out hO hK4)
          have HR4 := Lib.hid (HRG.out.same hb1 hb2)
          have HL4 : Hid (w4.rangeLeft w.heap.size r = w3.rangeLeft w.heap.size r) := Lib.hid (rangeLeft_same hb1 hb2)
          have K4 := Lib.hid (K3.out.trans (hK4.mono fun k (hk : k < w.heap.size) => ⟨Nat.lt_of_lt_of_le hk K3.out.size, fun e => by have := (HO.out.lt k e.symm).1; omega⟩))
          have HPY := Lib.hid hp
          have HSY := Lib.hid hso
          clear hp hso hO hK4 hlen hbn hb1 hb2 HG3 HRG K3
          go_wp2_with fail
          go_roundw
          case rel =>
            refine ⟨_, _, HR4.out, HT.out, fun d hd => ?_, K4.out⟩
            by_cases e : d = key
            · subst e
              rw [if_pos rfl]
              exact ⟨HPY.out.trans (HP.out d hd).1, fun _ => HSY.out⟩
            · rw [if_neg e]
              refine ⟨(HP.out d hd).1, fun hm => (HP.out d hd).2 ?_⟩
              rcases List.mem_append.1 hm with h | h
              · exact h
              · rw [List.mem_singleton] at h; exact absurd h e
          case measure => have := HL4.out; have := HLT.out; omega
end Go.Proofs.YteandmolnbcmmaaGreatDoor

namespace Go.Proofs.YteandmolnbcmmaaGreatDoor
open Go.RowKit Go.Sort

set_option maxHeartbeats 1000000 in
theorem differC_calls {w : World} {tb : Nat} {x : Int} {p1 p2 : Value} (h0 : w.cell? ⟨tb, 0, none⟩ = some (.int .i64 x)) (h1 : w.cell? ⟨tb, 1, none⟩ = some (.int .i64 x)) :
    Calls Tryz.prog 64 #[.slice (some ⟨tb, 0, none⟩) 2 2, p1, p2] w fun e w' => e = .returned (.tuple #[.string ⟨#[]⟩, .bool false]) ∧ Grows w w' := by
  by_cases hx : 0 < x
  · have hx0 : ¬ x = 0 := by omega
    go_enter Tryz.func64, Tryz.ntmps64
    go_wp2_with fail
    go_ret2
    exact ⟨rfl, Grows.refl _⟩
  · go_enter Tryz.func64, Tryz.ntmps64
    go_wp2_with fail
    go_ret2
    exact ⟨rfl, Grows.refl _⟩

set_option maxHeartbeats 1000000 in
theorem quorumC0_calls {w : World} {tb nb : Nat} (h0 : w.cell? ⟨tb, 0, none⟩ = some (.int .i64 0)) (h1 : w.cell? ⟨tb, 1, none⟩ = some (.int .i64 0)) (hn : w.cell? ⟨nb, 0, none⟩ = some (.int .i64 2)) :
    Calls Tryz.prog 67 #[.slice (some ⟨tb, 0, none⟩) 2 2, .pointer (some ⟨nb, 0, none⟩)] w fun e w' => e = .returned (.tuple #[.string ⟨#[]⟩, .bool false]) ∧ Grows w w' := by
  have H0 := Lib.hid h0
  have H1 := Lib.hid h1
  have HN := Lib.hid hn
  clear h0 h1 hn
  go_enter Tryz.func67, Tryz.ntmps67
  go_wp2_with fail
  go_loopw [5, 10] (fun v i wr => ∃ k : Nat, k ≤ 2 ∧ v = .int .i64 0 ∧ i = .int .i64 k ∧ w = wr) (fun _ i _ => 2 - (intOf i).toNat)
  case atStart => exact ⟨0, by omega, rfl, rfl, rfl⟩
  case round =>
    obtain ⟨k, hk, rfl, rfl, rfl⟩ := hrel
    by_cases hlt : k < 2
    · have hd : (k : Int) < 2 := by omega
      have x1 : IntKind.i64.wrap ((k : Int) + 1) = (k : Int) + 1 := IntWalk.i64_in _ (by omega)
      have hc : w.cell? ⟨tb, k, none⟩ = some (.int .i64 0) := by
        match k, hlt with
        | 0, _ => exact H0.out
        | 1, _ => exact H1.out
      go_wp2_with fail
      exact ⟨⟨k + 1, by omega, by first | trivial | rfl, by go_num, by first | trivial | rfl⟩, by simp [intOf]; omega⟩
    · have hk2 : k = 2 := by omega
      subst hk2
      have hn := HN.out
      have hd : ¬ ((2 : Nat) : Int) < 2 := by omega
      have hd2 : ¬ (2 : Int) ≤ 0 := by omega
      go_wp2_with fail
      go_quiet (fail)
      go_wp2_with fail
      go_ret2
      exact ⟨rfl, Grows.drewN (Grows.refl _) _⟩

set_option maxHeartbeats 1000000 in
theorem quorumC1_calls {w : World} {tb nb : Nat} (h0 : w.cell? ⟨tb, 0, none⟩ = some (.int .i64 1)) (h1 : w.cell? ⟨tb, 1, none⟩ = some (.int .i64 1)) (hn : w.cell? ⟨nb, 0, none⟩ = some (.int .i64 2)) :
    Calls Tryz.prog 67 #[.slice (some ⟨tb, 0, none⟩) 2 2, .pointer (some ⟨nb, 0, none⟩)] w fun e w' => e = .returned (.tuple #[.string ⟨#[]⟩, .bool true]) ∧ Grows w w' := by
  have H0 := Lib.hid h0
  have H1 := Lib.hid h1
  have HN := Lib.hid hn
  clear h0 h1 hn
  go_enter Tryz.func67, Tryz.ntmps67
  go_wp2_with fail
  go_loopw [5, 10] (fun v i wr => ∃ k : Nat, k ≤ 2 ∧ v = .int .i64 (k : Int) ∧ i = .int .i64 k ∧ w = wr) (fun _ i _ => 2 - (intOf i).toNat)
  case atStart => exact ⟨0, by omega, rfl, rfl, rfl⟩
  case round =>
    obtain ⟨k, hk, rfl, rfl, rfl⟩ := hrel
    by_cases hlt : k < 2
    · have hd : (k : Int) < 2 := by omega
      have x1 : IntKind.i64.wrap ((k : Int) + 1) = (k : Int) + 1 := IntWalk.i64_in _ (by omega)
      have hc : w.cell? ⟨tb, k, none⟩ = some (.int .i64 1) := by
        match k, hlt with
        | 0, _ => exact H0.out
        | 1, _ => exact H1.out
      go_wp2_with fail
      exact ⟨⟨k + 1, by omega, by go_num, by go_num, by first | trivial | rfl⟩, by simp [intOf]; omega⟩
    · have hk2 : k = 2 := by omega
      subst hk2
      have hn := HN.out
      have hd : ¬ ((2 : Nat) : Int) < 2 := by omega
      have hd2 : (2 : Int) ≤ ((2 : Nat) : Int) := by omega
      go_wp2_with fail
      go_quiet (fail)
      go_wp2_with fail
      go_ret2
      exact ⟨rfl, Grows.drewN (Grows.refl _) _⟩

theorem make2 (w : World) : (Instr.makeSlice 106 (.int .i64 2) (.int .i64 2)).run Tryz.prog w = .ok (.slice (some ⟨w.heap.size, 0, none⟩) 2 2) (w.alloc (.cells #[.int .i64 0, .int .i64 0] 3)) := by kernel_rfl

end Go.Proofs.YteandmolnbcmmaaGreatDoor
