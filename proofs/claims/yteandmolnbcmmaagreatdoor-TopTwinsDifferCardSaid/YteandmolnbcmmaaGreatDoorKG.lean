/- Walk: CheckRules. Walk: rule.fault; CheckRules at any slice. No condition beyond what each theorem states. -/
import Derived.Deep.DeepCutAuto
import Derived.Test.YteandmolnbcmmaaGreatDoorKF

namespace Go.Proofs.YteandmolnbcmmaaGreatDoor
open Go.RowKit Go.Sort

def encR (r : Rule) : List Value := [.string r.key, .string r.metric, .int .i64 r.agg, .int .i64 r.long, .bool r.above, .int .i64 r.on, .int .i64 r.off, .int .i64 r.hold, .int .i64 r.rest, .int .i64 r.empty]

set_option maxHeartbeats 400000 in
theorem number_calls (n : Int) (w : World) : Calls Tryz.prog 99 #[.int .i64 n] w fun e w' => e = .returned (.bool (!outB n (-1000000000) 1000000000)) ∧ w = w' := by
  go_enter Tryz.func99, Tryz.ntmps99
  go_wp2_with (go_at_call 65; refine (out_calls _ _ _ _).mono ?_; rintro e w' ⟨rfl, rfl⟩)
  go_ret
  exact ⟨rfl, rfl⟩

def offB (r : Rule) : Bool := (r.above && decide (r.on < r.off)) || (!r.above && decide (r.off < r.on))

/-- Which of the checks falls first. -/
def ruleB (r : Rule) (ord : Bool) : Int :=
  if keyB r.key = false then 5 else if ord = false then 7 else if keyB r.metric = false then 5 else if outB r.agg 1 6 = true then 4
  else if outB r.long 1 2592000000 = true then 1 else if outB r.on (-1000000000) 1000000000 = true then 1 else if outB r.off (-1000000000) 1000000000 = true then 1 else if offB r = true then 1
  else if outB r.hold 0 2592000000 = true then 1 else if outB r.rest 0 2592000000 = true then 1 else if outB r.empty 0 2 = true then 4 else 0

theorem outB_true (n lo hi : Int) : outB n lo hi = true ↔ ¬ (lo ≤ n ∧ n ≤ hi) := by rw [outB_eq, Bool.not_eq_true', decide_eq_false_iff_not]

theorem ruleB_eq (p : Option Rule) (r : Rule) (ord : Bool) (h : ord = false ↔ ∃ q, p = some q ∧ ¬ sLt q.key r.key) : ruleFault p r = ruleB r ord := by
  unfold ruleFault ruleB
  simp only [outB_true, h]
  have ho : offB r = true ↔ ((r.above = true ∧ r.on < r.off) ∨ (r.above = false ∧ r.off < r.on)) := by
    unfold offB; cases r.above <;> simp
  simp only [ho]
  by_cases c1 : keyB r.key = false
  · rw [if_pos c1, if_pos c1]
  rw [if_neg c1, if_neg c1]
  by_cases c2 : ∃ q, p = some q ∧ ¬ sLt q.key r.key
  · rw [if_pos c2, if_pos c2]
  rw [if_neg c2, if_neg c2]
  by_cases c3 : keyB r.metric = false
  · rw [if_pos c3, if_pos c3]
  rw [if_neg c3, if_neg c3]
  by_cases c4 : ¬ (1 ≤ r.agg ∧ r.agg ≤ 6)
  · rw [if_pos c4, if_pos c4]
  rw [if_neg c4, if_neg c4]
  by_cases a1 : ¬ (1 ≤ r.long ∧ r.long ≤ MAXL)
  · rw [if_pos (.inl a1), if_pos a1]
  rw [if_neg (show ¬ ¬ (1 ≤ r.long ∧ r.long ≤ 2592000000) from a1)]
  by_cases a2 : ¬ (-MAXN ≤ r.on ∧ r.on ≤ MAXN)
  · rw [if_pos (.inr (.inl a2)), if_pos (show ¬ (-1000000000 ≤ r.on ∧ r.on ≤ 1000000000) from a2)]
  rw [if_neg (show ¬ ¬ (-1000000000 ≤ r.on ∧ r.on ≤ 1000000000) from a2)]
  by_cases a3 : ¬ (-MAXN ≤ r.off ∧ r.off ≤ MAXN)
  · rw [if_pos (.inr (.inr (.inl a3))), if_pos (show ¬ (-1000000000 ≤ r.off ∧ r.off ≤ 1000000000) from a3)]
  rw [if_neg (show ¬ ¬ (-1000000000 ≤ r.off ∧ r.off ≤ 1000000000) from a3)]
  by_cases a4 : (r.above = true ∧ r.on < r.off) ∨ (r.above = false ∧ r.off < r.on)
  · rw [if_pos (.inr (.inr (.inr a4))), if_pos a4]
  rw [if_neg a4, if_neg (by simp only [not_or]; simp only [not_or] at a4; exact ⟨a1, a2, a3, a4.1, a4.2⟩)]
  by_cases a5 : ¬ (0 ≤ r.hold ∧ r.hold ≤ MAXL)
  · rw [if_pos (.inl a5), if_pos (show ¬ (0 ≤ r.hold ∧ r.hold ≤ 2592000000) from a5)]
  rw [if_neg (show ¬ ¬ (0 ≤ r.hold ∧ r.hold ≤ 2592000000) from a5)]
  by_cases a6 : ¬ (0 ≤ r.rest ∧ r.rest ≤ MAXL)
  · rw [if_pos (.inr a6), if_pos (show ¬ (0 ≤ r.rest ∧ r.rest ≤ 2592000000) from a6)]
  rw [if_neg (show ¬ ¬ (0 ≤ r.rest ∧ r.rest ≤ 2592000000) from a6), if_neg (by simp only [not_or]; exact ⟨a5, a6⟩)]

theorem chkRFrom_step (p : Option Rule) (r : Rule) (l : List Rule) : chkRFrom p (r :: l) = if ruleFault p r ≠ 0 then ruleFault p r else chkRFrom (some r) l := rfl

def SizedR (l : List Rule) : Prop := ∀ r ∈ l, r.key.size ≤ maxLen ∧ r.metric.size ≤ maxLen

set_option maxHeartbeats 4000000 in
set_option maxRecDepth 100000 in
theorem checkRules_some (l : List Rule) (b o c : Nat) (w : World) (hl : l.length ≤ 100) (hr : RowAt w 10 b o (l.map encR)) (hsz : SizedR l) :
    Calls Tryz.prog 52 #[.slice (some ⟨b, o, none⟩) l.length c] w fun e w' => e = .returned (.int .i64 (chkRFrom none l)) ∧ Grows w w' := by
  have HR := Lib.hid hr
  have HZ := Lib.hid hsz
  clear hr hsz
  obtain ⟨n, hn⟩ : ∃ n, l.length = n := ⟨_, rfl⟩
  rw [hn] at hl ⊢
  have HN := Lib.hid hn
  clear hn
  go_enter Tryz.func52, Tryz.ntmps52
  go_wp2
  go_loopw [11] (fun i wr => ∃ k : Nat, k ≤ n ∧ i = .int .i64 k ∧ Grows w wr ∧ Hid (chkRFrom none l = chkRFrom (if k = 0 then none else l[k-1]?) (l.drop k))) (fun i _ => n - (intOf i).toNat)
  case atStart => exact ⟨0, Nat.zero_le _, rfl, Grows.refl w, Lib.hid rfl⟩
  case round =>
    obtain ⟨k, hk, rfl, hg, H⟩ := hrel
    by_cases hlt : k < n
    · obtain ⟨r, hs⟩ : ∃ s, l[k]? = some s := ⟨l[k]'(by rw [HN.out]; exact hlt), List.getElem?_eq_getElem _⟩
      have hrow := hg.row HR.out k (encR r) (by rw [List.getElem?_map, hs]; rfl)
      have c0 : wr.cell? ⟨b, o + k * 10, none⟩ = some (.string r.key) := hrow 0 _ rfl
      have c1 := hrow 1 _ rfl
      have c2 := hrow 2 _ rfl
      have c3 := hrow 3 _ rfl
      have c4 := hrow 4 _ rfl
      have c5 := hrow 5 _ rfl
      have c6 := hrow 6 _ rfl
      have c7 := hrow 7 _ rfl
      have c8 := hrow 8 _ rfl
      have c9 := hrow 9 _ rfl
      have HS := Lib.hid hs
      have HG := Lib.hid hg
      clear hrow hs hg
      have hsz := HZ.out r (List.mem_of_getElem? HS.out)
      obtain ⟨Z1, Z2⟩ := (⟨Lib.hid hsz.1, Lib.hid hsz.2⟩ : Hid (r.key.size ≤ maxLen) ∧ Hid (r.metric.size ≤ maxLen))
      clear hsz
      have hdr : l.drop k = r :: l.drop (k + 1) := by
        have h1 : k < l.length := by rw [HN.out]; exact hlt
        rw [List.drop_eq_getElem_cons h1]
        have h2 := HS.out
        rw [List.getElem?_eq_getElem h1] at h2
        rw [Option.some.inj h2]
      have hst := H.out
      rw [hdr, chkRFrom_step] at hst
      have HST := Lib.hid hst
      clear hst hdr H
      obtain ⟨ord, hord⟩ : ∃ ord : Bool, ord = false ↔ ∃ q, (if k = 0 then none else l[k-1]?) = some q ∧ ¬ sLt q.key r.key := by
        by_cases hx : ∃ q, (if k = 0 then none else l[k-1]?) = some q ∧ ¬ sLt q.key r.key
        · exact ⟨false, fun _ => hx, fun _ => rfl⟩
        · exact ⟨true, fun h => (by cases h), fun h => absurd h hx⟩
      have HF : Hid (chkRFrom none l = if ruleB r ord ≠ 0 then ruleB r ord else chkRFrom (some r) (l.drop (k + 1))) := Lib.hid (by rw [HST.out, ruleB_eq _ _ _ hord])
      have HO := Lib.hid hord
      clear HST hord
      by_cases hk1 : keyB r.key = false
      · have HV : Hid (chkRFrom none l = 5) := Lib.hid (by rw [HF.out, show ruleB r ord = 5 by simp [ruleB, hk1], if_pos (by decide)])
        clear HF
        go_wp2_with (go_at_call 100; refine (key_calls _ _ (by first | exact Z1.out | exact Z2.out)).mono ?_; rintro e w' ⟨rfl, rfl⟩)
        go_ret
        exact ⟨ret_i64 HV.out.symm, HG.out.alloc _⟩
      · have hk1 : keyB r.key = true := by simpa using hk1
        go_wp2_with (go_at_call 100; refine (key_calls _ _ (by first | exact Z1.out | exact Z2.out)).mono ?_; rintro e w' ⟨rfl, rfl⟩)
        go_cut [21] (fun s21 wx => s21 = Value.bool (!ord) ∧ Grows w wx ∧ Cells wx wr.heap.size 0 (encR r))
        case first =>
          have hgA : Grows w (wr.alloc (.cells (encR r).toArray 31)) := HG.out.alloc _
          have hcA : Cells (wr.alloc (.cells (encR r).toArray 31)) wr.heap.size 0 (encR r) := fun j u hj => by
            rw [Nat.zero_add]; exact cell_new _ _ _ j u _ rfl (by simpa using hj)
          have HGA := Lib.hid hgA
          have HCA := Lib.hid hcA
          clear hgA hcA
          by_cases hk0 : k = 0
          · have hd : decide (0 < k) = false := decide_eq_false (by omega)
            have ho : ord = true := by
              cases ord with
              | true => rfl
              | false => obtain ⟨q, hq, _⟩ := HO.out.1 rfl; rw [if_pos hk0] at hq; cases hq
            subst ho
            clear hk0
            go_quiet (fail)
            go_wp2_with fail
            go_meet
            exact ⟨rfl, HGA.out.drewN _, HCA.out⟩
          · have hd : decide (0 < k) = true := decide_eq_true (by omega)
            have hk1 : 0 < k := by omega
            obtain ⟨q, hq⟩ : ∃ q, l[k - 1]? = some q := ⟨l[k - 1]'(by rw [HN.out]; omega), List.getElem?_eq_getElem _⟩
            have hrow := HGA.out.row HR.out (k - 1) (encR q) (by rw [List.getElem?_map, hq]; rfl)
            have f0 : (wr.alloc (.cells #[.string r.key, .string r.metric, .int .i64 r.agg, .int .i64 r.long, .bool r.above, .int .i64 r.on, .int .i64 r.off, .int .i64 r.hold, .int .i64 r.rest, .int .i64 r.empty] 31)).cell? ⟨b, o + (k - 1) * 10, none⟩ = some (.string q.key) := hrow 0 _ rfl
            have ho : ord = false ↔ ¬ sLt q.key r.key := by
              rw [HO.out, if_neg hk0, hq]
              exact ⟨fun ⟨q', e, hn⟩ => by cases e; exact hn, fun hn => ⟨q, rfl, hn⟩⟩
            have hi0 : (1 : Int) ≤ (k : Int) := by omega
            have hi1 : (0 : Int) ≤ (k : Int) - 1 := by omega
            have hi2 : (k : Int) - 1 < n := by omega
            have hi3 : IntKind.i64.wrap ((k : Int) - 1) = (k : Int) - 1 := IntWalk.i64_in _ (by omega)
            have hi4 : ((k : Int) - 1).toNat = k - 1 := by omega
            clear hrow hq hk0 HO
            have hb : (Op.bytesLess r.key.toList q.key.toList || r.key.toList == q.key.toList) = !ord := by
              rw [bytesLess_eq, Lib.toList_data, Lib.toList_data]
              cases hord : ord with
              | true =>
                have hlt : sLt q.key r.key := by
                  by_cases hx : sLt q.key r.key
                  · exact hx
                  · rw [ho.2 hx] at hord; cases hord
                have h1 : ¬ r.key.data.toList < q.key.data.toList := sLt_asymm hlt
                have h2 : ¬ r.key.data.toList = q.key.data.toList := fun e => by unfold sLt at hlt; rw [e] at hlt; exact List.lt_irrefl _ hlt
                have h3 : ¬ r.key.data = q.key.data := fun e => h2 (by rw [e])
                simp [h1, h3]
              | false =>
                have hn := ho.1 hord
                by_cases h1 : r.key.data.toList < q.key.data.toList
                · simp [h1]
                · have : r.key = q.key := sLt_tri _ _ h1 hn
                  simp [this]
            clear ho
            go_quiet (fail)
            go_wp2_with fail
            go_meet
            exact ⟨rfl, HGA.out.drewN _, HCA.out⟩
        case rest =>
          obtain ⟨rfl, hg1, hcs⟩ := hcut
          have d0 := hcs 0 _ rfl
          have d1 := hcs 1 _ rfl
          have d2 := hcs 2 _ rfl
          have d3 := hcs 3 _ rfl
          have d4 := hcs 4 _ rfl
          have d5 := hcs 5 _ rfl
          have d6 := hcs 6 _ rfl
          have d7 := hcs 7 _ rfl
          have d8 := hcs 8 _ rfl
          have d9 := hcs 9 _ rfl
          simp only [Nat.zero_add] at d0 d1 d2 d3 d4 d5 d6 d7 d8 d9
          have HG1 := Lib.hid hg1
          clear hcs hg1 c0 c1 c2 c3 c4 c5 c6 c7 c8 c9
          cases ord with
          | false =>
            have HV : Hid (chkRFrom none l = 7) := Lib.hid (by rw [HF.out, show ruleB r false = 7 by simp [ruleB, hk1], if_pos (by decide)])
            clear HF
            go_wp2
            go_ret
            exact ⟨ret_i64 HV.out.symm, HG1.out⟩
          | true =>
            have hc : (keyB r.metric = false) ∨ (keyB r.metric = true ∧ outB r.agg 1 6 = true) ∨ (keyB r.metric = true ∧ outB r.agg 1 6 = false ∧ outB r.long 1 2592000000 = true) ∨
                (keyB r.metric = true ∧ outB r.agg 1 6 = false ∧ outB r.long 1 2592000000 = false ∧ outB r.on (-1000000000) 1000000000 = true) ∨
                (keyB r.metric = true ∧ outB r.agg 1 6 = false ∧ outB r.long 1 2592000000 = false ∧ outB r.on (-1000000000) 1000000000 = false ∧ outB r.off (-1000000000) 1000000000 = true) ∨
                (keyB r.metric = true ∧ outB r.agg 1 6 = false ∧ outB r.long 1 2592000000 = false ∧ outB r.on (-1000000000) 1000000000 = false ∧ outB r.off (-1000000000) 1000000000 = false) := by
              cases keyB r.metric <;> cases outB r.agg 1 6 <;> cases outB r.long 1 2592000000 <;> cases outB r.on (-1000000000) 1000000000 <;> cases outB r.off (-1000000000) 1000000000 <;> simp
            rcases hc with h1 | ⟨h1, h2⟩ | ⟨h1, h2, h3⟩ | ⟨h1, h2, h3, h4⟩ | ⟨h1, h2, h3, h4, h5⟩ | ⟨h1, h2, h3, h4, h5⟩
            · have HV : Hid (chkRFrom none l = 5) := Lib.hid (by rw [HF.out, show ruleB r true = 5 by simp [ruleB, *], if_pos (by decide)])
              clear HF
              go_wp2_with (first | (go_at_call 100; refine (key_calls _ _ (by first | exact Z1.out | exact Z2.out)).mono ?_; rintro e w' ⟨rfl, rfl⟩) | (go_at_call 65; refine (out_calls _ _ _ _).mono ?_; rintro e w' ⟨rfl, rfl⟩) | (go_at_call 99; refine (number_calls _ _).mono ?_; rintro e w' ⟨rfl, rfl⟩))
              go_ret
              exact ⟨ret_i64 HV.out.symm, HG1.out⟩
            · have HV : Hid (chkRFrom none l = 4) := Lib.hid (by rw [HF.out, show ruleB r true = 4 by simp [ruleB, *], if_pos (by decide)])
              clear HF
              go_wp2_with (first | (go_at_call 100; refine (key_calls _ _ (by first | exact Z1.out | exact Z2.out)).mono ?_; rintro e w' ⟨rfl, rfl⟩) | (go_at_call 65; refine (out_calls _ _ _ _).mono ?_; rintro e w' ⟨rfl, rfl⟩) | (go_at_call 99; refine (number_calls _ _).mono ?_; rintro e w' ⟨rfl, rfl⟩))
              go_ret
              exact ⟨ret_i64 HV.out.symm, HG1.out⟩
            · have HV : Hid (chkRFrom none l = 1) := Lib.hid (by rw [HF.out, show ruleB r true = 1 by simp [ruleB, *], if_pos (by decide)])
              clear HF
              go_wp2_with (first | (go_at_call 100; refine (key_calls _ _ (by first | exact Z1.out | exact Z2.out)).mono ?_; rintro e w' ⟨rfl, rfl⟩) | (go_at_call 65; refine (out_calls _ _ _ _).mono ?_; rintro e w' ⟨rfl, rfl⟩) | (go_at_call 99; refine (number_calls _ _).mono ?_; rintro e w' ⟨rfl, rfl⟩))
              go_ret
              exact ⟨ret_i64 HV.out.symm, HG1.out⟩
            · have HV : Hid (chkRFrom none l = 1) := Lib.hid (by rw [HF.out, show ruleB r true = 1 by simp [ruleB, *], if_pos (by decide)])
              clear HF
              go_wp2_with (first | (go_at_call 100; refine (key_calls _ _ (by first | exact Z1.out | exact Z2.out)).mono ?_; rintro e w' ⟨rfl, rfl⟩) | (go_at_call 65; refine (out_calls _ _ _ _).mono ?_; rintro e w' ⟨rfl, rfl⟩) | (go_at_call 99; refine (number_calls _ _).mono ?_; rintro e w' ⟨rfl, rfl⟩))
              go_ret
              exact ⟨ret_i64 HV.out.symm, HG1.out⟩
            · have HV : Hid (chkRFrom none l = 1) := Lib.hid (by rw [HF.out, show ruleB r true = 1 by simp [ruleB, *], if_pos (by decide)])
              clear HF
              go_wp2_with (first | (go_at_call 100; refine (key_calls _ _ (by first | exact Z1.out | exact Z2.out)).mono ?_; rintro e w' ⟨rfl, rfl⟩) | (go_at_call 65; refine (out_calls _ _ _ _).mono ?_; rintro e w' ⟨rfl, rfl⟩) | (go_at_call 99; refine (number_calls _ _).mono ?_; rintro e w' ⟨rfl, rfl⟩))
              go_ret
              exact ⟨ret_i64 HV.out.symm, HG1.out⟩
            · have hc : (r.above = true ∧ r.on < r.off) ∨ (r.above = false ∧ r.off < r.on) ∨ (offB r = false ∧ r.above = true ∧ r.off ≤ r.on) ∨ (offB r = false ∧ r.above = false ∧ r.on ≤ r.off) := by
                unfold offB
                cases r.above <;> simp <;> omega
              rcases hc with ⟨g1, g2⟩ | ⟨g1, g2⟩ | ⟨g0, g1, g2⟩ | ⟨g0, g1, g2⟩
              · have ho : offB r = true := by simp [offB, g1, g2]
                have HV : Hid (chkRFrom none l = 1) := Lib.hid (by rw [HF.out, show ruleB r true = 1 by simp [ruleB, *], if_pos (by decide)])
                have g3 : decide (r.on < r.off) = true := decide_eq_true g2
                clear HF ho
                go_wp2_with (first | (go_at_call 100; refine (key_calls _ _ (by first | exact Z1.out | exact Z2.out)).mono ?_; rintro e w' ⟨rfl, rfl⟩) | (go_at_call 65; refine (out_calls _ _ _ _).mono ?_; rintro e w' ⟨rfl, rfl⟩) | (go_at_call 99; refine (number_calls _ _).mono ?_; rintro e w' ⟨rfl, rfl⟩))
                go_ret
                exact ⟨ret_i64 HV.out.symm, HG1.out⟩
              · have ho : offB r = true := by simp [offB, g1, g2]
                have HV : Hid (chkRFrom none l = 1) := Lib.hid (by rw [HF.out, show ruleB r true = 1 by simp [ruleB, *], if_pos (by decide)])
                have g3 : decide (r.off < r.on) = true := decide_eq_true g2
                clear HF ho
                go_wp2_with (first | (go_at_call 100; refine (key_calls _ _ (by first | exact Z1.out | exact Z2.out)).mono ?_; rintro e w' ⟨rfl, rfl⟩) | (go_at_call 65; refine (out_calls _ _ _ _).mono ?_; rintro e w' ⟨rfl, rfl⟩) | (go_at_call 99; refine (number_calls _ _).mono ?_; rintro e w' ⟨rfl, rfl⟩))
                go_ret
                exact ⟨ret_i64 HV.out.symm, HG1.out⟩
              all_goals
                have hc : (outB r.hold 0 2592000000 = true) ∨ (outB r.hold 0 2592000000 = false ∧ outB r.rest 0 2592000000 = true) ∨ (outB r.hold 0 2592000000 = false ∧ outB r.rest 0 2592000000 = false ∧ outB r.empty 0 2 = true) ∨ (outB r.hold 0 2592000000 = false ∧ outB r.rest 0 2592000000 = false ∧ outB r.empty 0 2 = false) := by
                  cases outB r.hold 0 2592000000 <;> cases outB r.rest 0 2592000000 <;> cases outB r.empty 0 2 <;> simp
                have g3 : decide (r.off < r.on) = decide (r.off < r.on) := rfl
                rcases hc with h6 | ⟨h6, h7⟩ | ⟨h6, h7, h8⟩ | ⟨h6, h7, h8⟩
                · have HV : Hid (chkRFrom none l = 1) := Lib.hid (by rw [HF.out, show ruleB r true = 1 by simp [ruleB, *], if_pos (by decide)])
                  clear HF g0 g3
                  go_wp2_with (first | (go_at_call 100; refine (key_calls _ _ (by first | exact Z1.out | exact Z2.out)).mono ?_; rintro e w' ⟨rfl, rfl⟩) | (go_at_call 65; refine (out_calls _ _ _ _).mono ?_; rintro e w' ⟨rfl, rfl⟩) | (go_at_call 99; refine (number_calls _ _).mono ?_; rintro e w' ⟨rfl, rfl⟩))
                  go_ret
                  exact ⟨ret_i64 HV.out.symm, HG1.out⟩
                · have HV : Hid (chkRFrom none l = 1) := Lib.hid (by rw [HF.out, show ruleB r true = 1 by simp [ruleB, *], if_pos (by decide)])
                  clear HF g0 g3
                  go_wp2_with (first | (go_at_call 100; refine (key_calls _ _ (by first | exact Z1.out | exact Z2.out)).mono ?_; rintro e w' ⟨rfl, rfl⟩) | (go_at_call 65; refine (out_calls _ _ _ _).mono ?_; rintro e w' ⟨rfl, rfl⟩) | (go_at_call 99; refine (number_calls _ _).mono ?_; rintro e w' ⟨rfl, rfl⟩))
                  go_ret
                  exact ⟨ret_i64 HV.out.symm, HG1.out⟩
                · have HV : Hid (chkRFrom none l = 4) := Lib.hid (by rw [HF.out, show ruleB r true = 4 by simp [ruleB, *], if_pos (by decide)])
                  clear HF g0 g3
                  go_wp2_with (first | (go_at_call 100; refine (key_calls _ _ (by first | exact Z1.out | exact Z2.out)).mono ?_; rintro e w' ⟨rfl, rfl⟩) | (go_at_call 65; refine (out_calls _ _ _ _).mono ?_; rintro e w' ⟨rfl, rfl⟩) | (go_at_call 99; refine (number_calls _ _).mono ?_; rintro e w' ⟨rfl, rfl⟩))
                  go_ret
                  exact ⟨ret_i64 HV.out.symm, HG1.out⟩
                · have HV : Hid (chkRFrom none l = chkRFrom (some r) (l.drop (k + 1))) := Lib.hid (by rw [HF.out, show ruleB r true = 0 by simp [ruleB, *], if_neg (by decide)])
                  clear HF g0 g3
                  go_wp2_with (first | (go_at_call 100; refine (key_calls _ _ (by first | exact Z1.out | exact Z2.out)).mono ?_; rintro e w' ⟨rfl, rfl⟩) | (go_at_call 65; refine (out_calls _ _ _ _).mono ?_; rintro e w' ⟨rfl, rfl⟩) | (go_at_call 99; refine (number_calls _ _).mono ?_; rintro e w' ⟨rfl, rfl⟩))
                  go_roundw
                  case rel => exact ⟨k + 1, by omega, by go_num, HG1.out, Lib.hid (by rw [HV.out, if_neg (by omega), show k + 1 - 1 = k by omega, HS.out])⟩
                  case measure => simp [intOf]; omega
    · have HE : Hid (chkRFrom none l = 0) := Lib.hid (by rw [H.out, List.drop_eq_nil_of_le (by rw [HN.out]; omega)]; rfl)
      have hd : decide (k < n) = false := decide_eq_false hlt
      go_wp2
      go_ret
      exact ⟨ret_i64 HE.out.symm, hg⟩

end Go.Proofs.YteandmolnbcmmaaGreatDoor

namespace Go.Proofs.YteandmolnbcmmaaGreatDoor
open Go.RowKit Go.Sort

set_option maxHeartbeats 1000000 in
theorem checkRules_large (n : Nat) (A : Option Addr) (c : Nat) (w : World) (hl : 100 < n) :
    Calls Tryz.prog 52 #[.slice A n c] w fun e w' => e = .returned (.int .i64 2) ∧ Grows w w' := by
  have hd : decide ((100 : Int) < n) = true := decide_eq_true (by omega)
  go_enter Tryz.func52, Tryz.ntmps52
  go_wp2
  go_ret
  exact ⟨rfl, Grows.refl w⟩

set_option maxHeartbeats 1000000 in
theorem checkRules_none (A : Option Addr) (c : Nat) (w : World) :
    Calls Tryz.prog 52 #[.slice A 0 c] w fun e w' => e = .returned (.int .i64 0) ∧ Grows w w' := by
  go_enter Tryz.func52, Tryz.ntmps52
  go_wp2
  refine wp_loop_rounds 1 ?_
  rw [rounds_succ]
  go_wp2
  go_ret
  exact ⟨rfl, Grows.refl w⟩

theorem checkRules_calls (l : List Rule) (v : Value) (w : World) (hr : ReadsK w 10 v (l.map encR)) (hz : SizedR l) :
    Calls Tryz.prog 52 #[v] w fun e w' => e = .returned (.int .i64 (chkR l)) ∧ Grows w w' := by
  obtain ⟨A, c, rfl, hc, hx⟩ := hr
  rw [List.length_map]
  unfold chkR
  by_cases hl : 100 < l.length
  · rw [if_pos hl]
    exact checkRules_large _ _ _ _ hl
  · rw [if_neg hl]
    by_cases hn : l = []
    · subst hn
      exact checkRules_none _ _ _
    · obtain ⟨b, o, rfl, hrow⟩ := hx (by simpa using hn)
      exact checkRules_some l b o c w (by omega) hrow hz

theorem first2_calls (x y : Int) (n c : Nat) (W : World) (hn : n = W.heap.size) (T : TypeId) :
    Calls Tryz.prog 55 #[.slice (some ⟨n, 0, none⟩) 2 c] (W.alloc (.cells #[.int .i64 x, .int .i64 y] T)) fun e w' => e = .returned (.int .i64 (orI [x, y])) ∧ W.alloc (.cells #[.int .i64 x, .int .i64 y] T) = w' :=
  first_calls [x, y] n 0 c _ (by simp) fun i hi => by
    match i, hi with
    | 0, _ => simpa using cell_new W _ T 0 _ n hn rfl
    | 1, _ => simpa using cell_new W _ T 1 _ n hn rfl

theorem orI2 (x y : Int) : orI [x, y] = if x ≠ 0 then x else y := by
  unfold orI orI orI
  by_cases h : x = 0 <;> by_cases k : y = 0 <;> simp [h, k]

set_option maxHeartbeats 1000000 in
theorem fault_calls (rs : List Rule) (l : List Samp) (f t : Int) (rv sv : Value) (w : World) (hr : ReadsK w 10 rv (rs.map encR)) (hs : ReadsK w 4 sv (l.map encSa)) (hzr : SizedR rs) (hzs : SizedSa l) :
    Calls Tryz.prog 60 #[rv, sv, .agg #[.int .i64 f, .int .i64 t]] w fun e w' => e = .returned (.int .i64 (faultOf rs l (f, t))) ∧ Grows w w' := by
  have HR := Lib.hid hr
  have HS := Lib.hid hs
  have HZ := Lib.hid hzr
  have HY := Lib.hid hzs
  have HG := Lib.hid ((Grows.refl w).alloc (.cells #[.int .i64 f, .int .i64 t] 25))
  have HC : Hid (∀ i v, (#[.int .i64 f, .int .i64 t] : Array Value)[i]? = some v → (w.alloc (.cells #[.int .i64 f, .int .i64 t] 25)).cell? ⟨w.heap.size, i, none⟩ = some v) := Lib.hid fun i v h => cell_new w _ 25 i v _ rfl h
  clear hr hs hzr hzs
  have hf : faultOf rs l (f, t) = if orI [chkR rs, chkS l] ≠ 0 then orI [chkR rs, chkS l] else if winB (f, t) = true then 0 else 1 := by
    unfold faultOf winB
    rw [orI2]
    by_cases h1 : chkR rs = 0 <;> by_cases h2 : chkS l = 0 <;> by_cases h3 : winOk (f, t) <;> simp [h1, h2, h3]
  have HF := Lib.hid hf
  clear hf
  obtain ⟨x, hx⟩ : ∃ x, orI [chkR rs, chkS l] = x := ⟨_, rfl⟩
  have HX := Lib.hid hx
  clear hx
  go_enter Tryz.func60, Tryz.ntmps60
  go_wp2_with fail
  refine (checkRules_calls rs _ _ (HG.out.reads HR.out) HZ.out).mono ?_
  rintro e w1 ⟨rfl, hg1⟩
  have HG1 := Lib.hid (HG.out.trans hg1)
  have HB1 := Lib.hid hg1
  clear hg1
  go_wp2_with fail
  refine (checkSamples_calls l _ _ (HG1.out.reads HS.out) HY.out).mono ?_
  rintro e w2 ⟨rfl, hg2⟩
  have HG2 := Lib.hid (HG1.out.trans hg2)
  have d0 : w2.cell? ⟨w.heap.size, 0, none⟩ = some (.int .i64 f) := (HB1.out.trans hg2).cell (HC.out 0 _ rfl)
  have d1 : w2.cell? ⟨w.heap.size, 1, none⟩ = some (.int .i64 t) := (HB1.out.trans hg2).cell (HC.out 1 _ rfl)
  clear hg2
  go_wp2_with fail
  refine (first2_calls _ _ _ _ _ (by simp) _).mono ?_
  rintro e w3 ⟨rfl, rfl⟩
  rw [HX.out]
  have e0 : (w2.alloc (.cells #[.int .i64 (chkR rs), .int .i64 (chkS l)] 47)).cell? ⟨w.heap.size, 0, none⟩ = some (.int .i64 f) := ((Grows.refl w2).alloc _).cell d0
  have e1 : (w2.alloc (.cells #[.int .i64 (chkR rs), .int .i64 (chkS l)] 47)).cell? ⟨w.heap.size, 1, none⟩ = some (.int .i64 t) := ((Grows.refl w2).alloc _).cell d1
  clear d0 d1
  by_cases h0 : x = 0
  · subst h0
    by_cases hw : winB (f, t) = true
    · have HV : Hid (faultOf rs l (f, t) = 0) := Lib.hid (by rw [HF.out, HX.out, if_neg (by simp), if_pos hw])
      go_wp2_with fail
      refine (window_calls f t _).mono ?_
      rintro e w4 ⟨rfl, hg4⟩
      have HG4 := Lib.hid ((HG2.out.alloc _).trans hg4)
      clear hg4 e0 e1
      go_wp2_with fail
      go_ret
      exact ⟨ret_i64 HV.out.symm, HG4.out⟩
    · have hw : winB (f, t) = false := by simpa using hw
      have HV : Hid (faultOf rs l (f, t) = 1) := Lib.hid (by rw [HF.out, HX.out, if_neg (by simp), if_neg (by simp [hw])])
      go_wp2_with fail
      refine (window_calls f t _).mono ?_
      rintro e w4 ⟨rfl, hg4⟩
      have HG4 := Lib.hid ((HG2.out.alloc _).trans hg4)
      clear hg4 e0 e1
      go_wp2_with fail
      go_ret
      exact ⟨ret_i64 HV.out.symm, HG4.out⟩
  · have HV : Hid (faultOf rs l (f, t) = x) := Lib.hid (by rw [HF.out, HX.out, if_pos h0])
    have hb : (x == 0) = false := by simpa using h0
    go_wp2_with fail
    go_ret
    exact ⟨ret_i64 HV.out.symm, HG2.out.alloc _⟩

end Go.Proofs.YteandmolnbcmmaaGreatDoor
