/- The laws of rules and samples, plain: rules and devices apart, other values, other names, later, spare samples. The laws of rules and samples, plain: other names, later, spare samples. The suffix minima of a window that gains a sample. No condition beyond what each theorem states. -/
import Derived.Test.YteandmolnbcmmaaGreatDoorKB

namespace Go.Proofs.YteandmolnbcmmaaGreatDoor

instance decMemB (d : ByteArray) (l : List ByteArray) : Decidable (d ∈ l) := @List.instDecidableMemOfLawfulBEq ByteArray instBEqOfDecidableEq inferInstance d l

theorem flatMap_congr' {α β : Type} {f g : α → List β} : ∀ {l : List α}, (∀ x ∈ l, f x = g x) → l.flatMap f = l.flatMap g
  | [], _ => rfl
  | a :: l, h => by rw [List.flatMap_cons, List.flatMap_cons, h a (by simp), flatMap_congr' (l := l) fun x hx => h x (by simp [hx])]

theorem flatMap_perm {α β : Type} {f g : α → List β} : ∀ {l : List α}, (∀ x ∈ l, (f x).Perm (g x)) → (l.flatMap f).Perm (l.flatMap g)
  | [], _ => .refl _
  | a :: l, h => by
    rw [List.flatMap_cons, List.flatMap_cons]
    exact (h a (by simp)).append (flatMap_perm fun x hx => h x (by simp [hx]))

theorem flatMap_swap {α β γ : Type} (f : α → β → List γ) (as : List α) : ∀ bs : List β, (as.flatMap fun a => bs.flatMap (f a)).Perm (bs.flatMap fun b => as.flatMap fun a => f a b)
  | [] => by simp
  | b :: bs => by
    rw [List.flatMap_cons]
    have h : ∀ as : List α, (as.flatMap fun a => (b :: bs).flatMap (f a)).Perm ((as.flatMap fun a => f a b) ++ as.flatMap fun a => bs.flatMap (f a)) := by
      intro as
      induction as with
      | nil => simp
      | cons a as ih =>
        simp only [List.flatMap_cons] at ih ⊢
        refine ((List.Perm.refl _).append ih).trans ?_
        simp only [List.append_assoc]
        refine (List.Perm.refl _).append ?_
        rw [← List.append_assoc, ← List.append_assoc]
        exact (List.perm_append_comm).append (.refl _)
    exact (h as).trans ((List.Perm.refl _).append (flatMap_swap f as bs))

theorem GoodRs.one {rs : List Rule} (h : GoodRs rs) {r : Rule} (hr : r ∈ rs) : GoodRs [r] := ⟨by simp, fun x hx => by simp at hx; subst hx; exact h.each x hr, by simp⟩

theorem rawOf_one (r : Rule) (l : List Samp) (w : Int × Int) : rawOf [r] l w = cutS w (whole r l) := by simp [rawOf]

/-- THE SPELLS OF RULES ARE THOSE OF EACH OF THEM BY ITSELF. -/
theorem law_rules_apart {rs : List Rule} {l : List Samp} {w : Int × Int} (hr : GoodRs rs) (hl : GoodL l) : sort3 spKey (rs.flatMap fun r => spells [r] l w) = spells rs l w := by
  have hp : (rs.flatMap fun r => spells [r] l w).Perm (rawOf rs l w) := by
    unfold rawOf
    refine flatMap_perm fun r _ => ?_
    unfold spells
    rw [rawOf_one]
    exact sort3_perm _ _
  exact (sort3_congr spKey (raw_told hr hl w) hp.symm).symm

/-- The samples of a device. -/
def ofDev (d : ByteArray) (l : List Samp) : List Samp := l.filter fun s => decide (s.device = d)

/-- The devices, each where it comes first. -/
def firsts (l : List Samp) : List ByteArray := l.foldl (fun ds s => if s.device ∈ ds then ds else ds ++ [s.device]) []

theorem firsts_spec (l : List Samp) : (firsts l).Nodup ∧ ∀ d, d ∈ firsts l ↔ ∃ s ∈ l, s.device = d := by
  refine snoc_ind (P := fun l => (firsts l).Nodup ∧ ∀ d, d ∈ firsts l ↔ ∃ s ∈ l, s.device = d) ?_ ?_ l
  · simp [firsts]
  · intro l s ih
    have e : firsts (l ++ [s]) = if s.device ∈ firsts l then firsts l else firsts l ++ [s.device] := by
      unfold firsts; rw [List.foldl_append]; rfl
    rw [e]
    split
    · rename_i h
      refine ⟨ih.1, fun d => ?_⟩
      rw [ih.2 d]
      constructor
      · rintro ⟨x, hx, rfl⟩; exact ⟨x, by simp [hx], rfl⟩
      · rintro ⟨x, hx, rfl⟩
        rcases List.mem_append.1 hx with hx | hx
        · exact ⟨x, hx, rfl⟩
        · simp at hx; subst hx; exact (ih.2 _).1 h
    · rename_i h
      refine ⟨?_, fun d => ?_⟩
      · rw [List.nodup_append]
        exact ⟨ih.1, by simp, fun a ha b hb => by simp at hb; subst hb; rintro rfl; exact h ha⟩
      · rw [List.mem_append, ih.2 d]
        constructor
        · rintro (⟨x, hx, rfl⟩ | hx)
          · exact ⟨x, by simp [hx], rfl⟩
          · simp at hx; subst hx; exact ⟨s, by simp, rfl⟩
        · rintro ⟨x, hx, rfl⟩
          rcases List.mem_append.1 hx with hx | hx
          · exact .inl ⟨x, hx, rfl⟩
          · simp at hx; subst hx; right; simp

theorem ofDev_good {l : List Samp} (h : GoodL l) (d : ByteArray) : GoodL (ofDev d l) :=
  ⟨Nat.le_trans (List.length_filter_le _ _) h.len, fun s hs => h.each s (List.mem_filter.1 hs).1, List.Pairwise.sublist List.filter_sublist h.order⟩

theorem seen_ofDev (m d d' : ByteArray) (l : List Samp) : seen m d (ofDev d' l) = if d = d' then seen m d l else [] := by
  unfold seen ofDev
  rw [List.filter_filter]
  split
  · rename_i h
    subst h
    congr 1
    apply List.filter_congr
    intro s _
    by_cases hd : s.device = d <;> by_cases hm : s.metric = m <;> simp [hd, hm]
  · rename_i h
    have : (l.filter fun s => decide (s.metric = m ∧ s.device = d) && decide (s.device = d')) = [] := by
      rw [List.filter_eq_nil_iff]
      intro s _
      simp only [Bool.and_eq_true, decide_eq_true_eq, not_and]
      rintro ⟨_, h1⟩ h2
      exact h (h1.symm.trans h2)
    rw [this]
    rfl

theorem mem_devs (m d : ByteArray) (l : List Samp) : d ∈ devs m l ↔ ∃ s ∈ l, s.metric = m ∧ s.device = d := by
  unfold devs
  rw [sortS_mem, List.mem_map]
  constructor
  · rintro ⟨s, hs, rfl⟩
    have := List.mem_filter.1 hs
    exact ⟨s, this.1, by simpa using this.2, rfl⟩
  · rintro ⟨s, hs, h1, h2⟩
    exact ⟨s, List.mem_filter.2 ⟨hs, by simpa using h1⟩, h2⟩

theorem devs_sorted (m : ByteArray) (l : List Samp) : (devs m l).Pairwise sLt := sortS_sorted _
theorem nodupS {l : List ByteArray} (h : l.Pairwise sLt) : l.Nodup := h.imp fun hab e => by subst e; exact sLt_irrefl _ hab

theorem devs_ofDev (m d : ByteArray) (l : List Samp) : devs m (ofDev d l) = if d ∈ devs m l then [d] else [] := by
  refine sorted_eqS (devs_sorted _ _) (by split <;> simp) fun x => ?_
  rw [mem_devs]
  unfold ofDev
  constructor
  · rintro ⟨s, hs, h1, h2⟩
    have := List.mem_filter.1 hs
    have hd : s.device = d := by simpa using this.2
    rw [if_pos ((mem_devs m d l).2 ⟨s, this.1, h1, hd⟩)]
    simp [← h2, hd]
  · intro h
    split at h
    · rename_i hd
      simp at h; subst h
      obtain ⟨s, hs, h1, h2⟩ := (mem_devs _ _ _).1 hd
      exact ⟨s, List.mem_filter.2 ⟨hs, by simpa using h2⟩, h1, h2⟩
    · simp at h

/-- THE SPELLS ARE THOSE OF THE SAMPLES OF EACH DEVICE BY THEMSELVES. -/
theorem law_devices_apart {rs : List Rule} {l : List Samp} {w : Int × Int} (hr : GoodRs rs) (hl : GoodL l) : sort3 spKey ((firsts l).flatMap fun d => spells rs (ofDev d l) w) = spells rs l w := by
  have hp : ((firsts l).flatMap fun d => spells rs (ofDev d l) w).Perm (rawOf rs l w) := by
    have h1 : ((firsts l).flatMap fun d => spells rs (ofDev d l) w).Perm ((firsts l).flatMap fun d => rawOf rs (ofDev d l) w) := flatMap_perm fun d _ => sort3_perm _ _
    refine h1.trans ?_
    have h2 : ((firsts l).flatMap fun d => rawOf rs (ofDev d l) w) = (firsts l).flatMap fun d => rs.flatMap fun r => if d ∈ devs r.metric l then unit l w r d else [] := by
      refine flatMap_congr' fun d _ => ?_
      rw [rawOf_eq]
      refine flatMap_congr' fun r _ => ?_
      rw [devs_ofDev]
      split
      · simp only [List.flatMap_cons, List.flatMap_nil, List.append_nil]
        unfold unit
        rw [seen_ofDev, if_pos rfl]
      · rfl
    rw [h2, rawOf_eq]
    refine (flatMap_swap _ _ _).trans (flatMap_perm fun r _ => ?_)
    have h3 : ((firsts l).flatMap fun d => if d ∈ devs r.metric l then unit l w r d else []) = ((firsts l).filter fun d => decide (d ∈ devs r.metric l)).flatMap (unit l w r) := by
      generalize firsts l = fl
      induction fl with
      | nil => rfl
      | cons a fl ih =>
        rw [List.flatMap_cons, ih, List.filter_cons]
        by_cases h : a ∈ devs r.metric l
        · simp [h]
        · simp [h]
    rw [h3]
    refine List.Perm.flatMap_right _ ?_
    refine (List.perm_ext_iff_of_nodup ((firsts_spec l).1.filter _) (nodupS (devs_sorted _ _))).2 fun d => ?_
    simp only [List.mem_filter, decide_eq_true_eq]
    constructor
    · exact fun h => h.2
    · intro h
      obtain ⟨s, hs, _, h2⟩ := (mem_devs _ _ _).1 h
      exact ⟨((firsts_spec l).2 d).2 ⟨s, hs, h2⟩, h⟩
  exact (sort3_congr spKey (raw_told hr hl w) hp.symm).symm

/-! ### Other values -/

def mapSamp (g : Int → Int) (l : List Samp) : List Samp := l.map fun s => { s with value := g s.value }

theorem seen_mapSamp (g : Int → Int) (m d : ByteArray) (l : List Samp) : seen m d (mapSamp g l) = mapV g (seen m d l) := by
  unfold seen mapSamp mapV
  rw [List.filter_map, List.map_map, List.map_map]
  rfl

theorem devs_mapSamp (g : Int → Int) (m : ByteArray) (l : List Samp) : devs m (mapSamp g l) = devs m l := by
  unfold devs mapSamp
  rw [List.filter_map, List.map_map]
  rfl

/-- Rules that come to the same, with other values, have the same spells. -/
theorem spells_map {rs : List Rule} {l : List Samp} {w : Int × Int} (f : Rule → Rule) (g : Int → Int)
    (hm : ∀ r ∈ rs, (f r).metric = r.metric ∧ (f r).key = r.key)
    (hs : ∀ r ∈ rs, ∀ d, spansOf (f r) (mapV g (seen r.metric d l)) = spansOf r (seen r.metric d l)) : spells (rs.map f) (mapSamp g l) w = spells rs l w := by
  unfold spells
  congr 1
  rw [rawOf_eq, rawOf_eq, List.flatMap_map]
  refine flatMap_congr' fun r hr => ?_
  rw [(hm r hr).1, devs_mapSamp]
  refine flatMap_congr' fun d _ => ?_
  unfold unit
  rw [(hm r hr).1, (hm r hr).2, seen_mapSamp, hs r hr d]

theorem spells_alike {rs : List Rule} {l : List Samp} {w : Int × Int} (hr : GoodRs rs) (hl : GoodL l) (f : Rule → Rule) (g : Int → Int)
    (hm : ∀ r ∈ rs, (f r).metric = r.metric ∧ (f r).key = r.key) (hA : ∀ r ∈ rs, Alike g (fun _ => True) r (f r)) : spells (rs.map f) (mapSamp g l) w = spells rs l w :=
  spells_map f g hm fun r hr' _ => spansOf_map (hA r hr') (hr.each r hr').1 (fun _ _ _ _ _ => trivial) _ (seen_sorted hl.order _ _) (seen_good hl.each _ _)

theorem mapSamp_id (l : List Samp) : mapSamp (fun v => v) l = l := by unfold mapSamp; simp

theorem mapSamp_order {l : List Samp} (g : Int → Int) (h : l.Pairwise fun a b => lt3 (sampKey a) (sampKey b)) : (mapSamp g l).Pairwise fun a b => lt3 (sampKey a) (sampKey b) := by
  unfold mapSamp
  rw [List.pairwise_map]
  exact h

theorem mapR_order {rs : List Rule} {f : Rule → Rule} (h : rs.Pairwise fun a b => sLt a.key b.key) (hf : ∀ r ∈ rs, (f r).key = r.key) : (rs.map f).Pairwise fun a b => sLt a.key b.key := by
  rw [List.pairwise_map]
  exact h.imp_of_mem fun ha hb hab => by rw [hf _ ha, hf _ hb]; exact hab

/-- What 'wAlike' asks. -/
def alikeP (want : List Spell) (rs : List Rule) (l : List Samp) (w : Int × Int) : Prop :=
  let e := faultOf rs l w
  if e = 1 ∨ e = 5 ∨ e = 2 then chkR rs ≠ 0 ∨ chkS l ≠ 0 ∨ END < w.2 else e = 0 ∧ spells rs l w = want

theorem alikeP_of {want : List Spell} {rs : List Rule} {l : List Samp} {w : Int × Int} (h1 : soft (chkR rs)) (h2 : soft (chkS l)) (hw : winOk w ∨ END < w.2)
    (h : chkR rs = 0 → chkS l = 0 → winOk w → spells rs l w = want) : alikeP want rs l w := by
  unfold soft at h1 h2
  unfold alikeP
  dsimp only
  by_cases e1 : chkR rs = 0
  · by_cases e2 : chkS l = 0
    · by_cases e3 : winOk w
      · have hf : faultOf rs l w = 0 := by unfold faultOf; rw [if_neg (by simp [e1]), if_neg (by simp [e2]), if_pos e3]
        rw [hf, if_neg (by omega)]
        exact ⟨rfl, h e1 e2 e3⟩
      · have hf : faultOf rs l w = 1 := by unfold faultOf; rw [if_neg (by simp [e1]), if_neg (by simp [e2]), if_neg e3]
        rw [hf, if_pos (by omega)]
        exact .inr (.inr (hw.resolve_left e3))
    · have hf : faultOf rs l w = chkS l := by unfold faultOf; rw [if_neg (by simp [e1]), if_pos e2]
      rw [hf, if_pos (by omega)]
      exact .inr (.inl e2)
  · have hf : faultOf rs l w = chkR rs := by unfold faultOf; rw [if_pos e1]
    rw [hf, if_pos (by omega)]
    exact .inl e1

/-- 'limit' of wValues: rules that count stay as they are. -/
def limR (f : Rule → Rule) (r : Rule) : Rule := if r.agg = 5 then r else f r

theorem law_values {rs : List Rule} {l : List Samp} {w : Int × Int} (hr : GoodRs rs) (hl : GoodL l) (hw : winOk w) (f : Rule → Rule) (g : Int → Int)
    (hm : ∀ r ∈ rs, r.agg ≠ 5 → (f r).metric = r.metric ∧ (f r).key = r.key ∧ (1 ≤ (f r).agg ∧ (f r).agg ≤ 6) ∧ (f r).empty = r.empty)
    (hA : ∀ r ∈ rs, r.agg ≠ 5 → Alike g (fun _ => True) r (f r)) : alikeP (spells rs l w) (rs.map (limR f)) (mapSamp g l) w := by
  have hm' : ∀ r ∈ rs, (limR f r).metric = r.metric ∧ (limR f r).key = r.key ∧ (1 ≤ (limR f r).agg ∧ (limR f r).agg ≤ 6) ∧ (limR f r).empty = r.empty := fun r h => by
    unfold limR
    split
    · exact ⟨rfl, rfl, (hr.each r h).1.agg, rfl⟩
    · exact hm r h (by assumption)
  refine alikeP_of (chkR_soft (mapR_order hr.order fun r h => (hm' r h).2.1) ?_) (chkS_soft (mapSamp_order g hl.order)) (.inl hw) fun _ _ _ => ?_
  · intro x hx
    obtain ⟨r, h, rfl⟩ := List.mem_map.1 hx
    have := hm' r h
    have := (hr.each r h).1.empty
    omega
  · refine spells_alike hr hl _ _ (fun r h => ⟨(hm' r h).1, (hm' r h).2.1⟩) fun r h => ?_
    unfold limR
    split
    · exact alike_count (by assumption)
    · exact hA r h (by assumption)

theorem law_negated {rs : List Rule} {l : List Samp} {w : Int × Int} (hr : GoodRs rs) (hl : GoodL l) (hw : winOk w) : alikeP (spells rs l w) (rs.map (limR negR)) (mapSamp (fun v => -v) l) w :=
  law_values hr hl hw negR _ (fun r h _ => ⟨rfl, rfl, by have := (hr.each r h).1.agg; unfold negR; dsimp only; split <;> omega, rfl⟩) fun r h h5 => alike_neg (hr.each r h).1 h5

theorem law_scaled {rs : List Rule} {l : List Samp} {w : Int × Int} (hr : GoodRs rs) (hl : GoodL l) (hw : winOk w) {k : Int} (hk : 0 < k) : alikeP (spells rs l w) (rs.map (limR (mulR k))) (mapSamp (fun v => k * v) l) w :=
  law_values hr hl hw (mulR k) _ (fun r h _ => ⟨rfl, rfl, (hr.each r h).1.agg, rfl⟩) fun r h h5 => alike_mul hk (hr.each r h).1 h5

theorem law_raised {rs : List Rule} {l : List Samp} {w : Int × Int} (hr : GoodRs rs) (hl : GoodL l) (hw : winOk w) (b : Int) : alikeP (spells rs l w) (rs.map (limR (addR b))) (mapSamp (fun v => v + b) l) w :=
  law_values hr hl hw (addR b) _ (fun r h _ => by
    have := (hr.each r h).1.agg
    unfold addR
    split <;> exact ⟨rfl, rfl, this, rfl⟩) fun r h h5 => alike_add b (hr.each r h).1 h5

/-- OF RULES THAT COUNT ALONE THE VALUES ARE OF NO MATTER. -/
theorem law_blind {rs : List Rule} {l : List Samp} {w : Int × Int} (hr : GoodRs rs) (hl : GoodL l) (hw : winOk w) (h5 : ∀ r ∈ rs, r.agg = 5) (g : Int → Int) : alikeP (spells rs l w) rs (mapSamp g l) w := by
  have h := law_values hr hl hw (fun r => r) g (fun r h h' => absurd (h5 r h) h') (fun r h h' => absurd (h5 r h) h')
  have e : rs.map (limR fun r => r) = rs := by
    have : ∀ r ∈ rs, limR (fun r => r) r = r := fun r h => by unfold limR; split <;> rfl
    conv => rhs; rw [← List.map_id rs]
    exact List.map_congr_left this
  rwa [e] at h

/-- A WINDOW OF ONE MOMENT: the last, the least, the greatest one, and the mean are the same. -/
theorem law_one {rs : List Rule} {l : List Samp} {w : Int × Int} (hr : GoodRs rs) (hl : GoodL l) (hw : winOk w) (h1 : ∀ r ∈ rs, r.long = 1) (a : Int) (ha : 1 ≤ a ∧ a ≤ 4) :
    alikeP (spells rs l w) (rs.map fun r => if 1 ≤ r.agg ∧ r.agg ≤ 4 then { r with agg := a } else r) l w := by
  have hm : ∀ r ∈ rs, ((if 1 ≤ r.agg ∧ r.agg ≤ 4 then { r with agg := a } else r : Rule)).metric = r.metric ∧ ((if 1 ≤ r.agg ∧ r.agg ≤ 4 then { r with agg := a } else r : Rule)).key = r.key ∧
      (1 ≤ ((if 1 ≤ r.agg ∧ r.agg ≤ 4 then { r with agg := a } else r : Rule)).agg ∧ ((if 1 ≤ r.agg ∧ r.agg ≤ 4 then { r with agg := a } else r : Rule)).agg ≤ 6) ∧ ((if 1 ≤ r.agg ∧ r.agg ≤ 4 then { r with agg := a } else r : Rule)).empty = r.empty := fun r h => by
    have := (hr.each r h).1.agg
    split
    · exact ⟨rfl, rfl, by dsimp only; omega, rfl⟩
    · exact ⟨rfl, rfl, this, rfl⟩
  refine alikeP_of (chkR_soft (mapR_order hr.order fun r h => (hm r h).2.1) ?_) (chkS_soft hl.order) (.inl hw) fun _ _ _ => ?_
  · intro x hx
    obtain ⟨r, h, rfl⟩ := List.mem_map.1 hx
    have := hm r h
    have := (hr.each r h).1.empty
    omega
  · conv => lhs; rw [← mapSamp_id l]
    refine spells_map _ (fun v => v) (fun r h => ⟨(hm r h).1, (hm r h).2.1⟩) fun r h d => ?_
    have hlong := h1 r h
    refine spansOf_map (Q := fun l => l.length ≤ 1) ?_ (hr.each r h).1 (fun x s _ hs _ => one_put hlong x s hs) _ (seen_sorted hl.order _ _) (seen_good hl.each _ _)
    split
    · rename_i hag
      exact alike_one hlong hlong rfl rfl rfl rfl rfl rfl (.inr ⟨hag.1, hag.2, by dsimp only; omega, by dsimp only; omega⟩)
    · exact alike_one hlong hlong rfl rfl rfl rfl rfl rfl (.inl rfl)

end Go.Proofs.YteandmolnbcmmaaGreatDoor

namespace Go.Proofs.YteandmolnbcmmaaGreatDoor

/-- A byte ahead of a string. -/
def pre (c : UInt8) (s : ByteArray) : ByteArray := ⟨(c :: s.data.toList).toArray⟩

theorem pre_lt (c : UInt8) (a b : ByteArray) : sLt (pre c a) (pre c b) ↔ sLt a b := by
  unfold sLt pre
  simp

theorem pre_inj (c : UInt8) {a b : ByteArray} (h : pre c a = pre c b) : a = b := by
  unfold pre at h
  simp only [ByteArray.mk.injEq] at h
  have h2 : c :: a.data.toList = c :: b.data.toList := by
    have := congrArg Array.toList h
    simpa using this
  injection h2 with _ h3
  exact bytes_ext h3

section
variable {α : Type} (key : α → Int × ByteArray × ByteArray)

/-- What keeps the order goes with sorting. -/
theorem sort3_map {l : List α} (f : α → α) (ht : Told key l) (hf : ∀ a b, lt3 (key (f a)) (key (f b)) ↔ lt3 (key a) (key b)) : sort3 key (l.map f) = (sort3 key l).map f := by
  refine (sort3_of key (fun a ha b hb e => ?_) ((sort3_perm key l).map f) ?_).symm
  · obtain ⟨x, hx, rfl⟩ := List.mem_map.1 ha
    obtain ⟨y, hy, rfl⟩ := List.mem_map.1 hb
    have : key x = key y := lt3_tri _ _ (fun h => by have := (hf x y).2 h; rw [e] at this; exact lt3_irrefl _ this) (fun h => by have := (hf y x).2 h; rw [e] at this; exact lt3_irrefl _ this)
    rw [ht x hx y hy this]
  · rw [List.pairwise_map]
    exact (sort3_sorted key l).imp fun h k => h ((hf _ _).1 k)
end

/-! ### Devices with other names -/

def renD (p : ByteArray → ByteArray) (s : Samp) : Samp := { s with device := p s.device }
def renSD (p : ByteArray → ByteArray) (s : Spell) : Spell := { s with device := p s.device }
def renSR (p : ByteArray → ByteArray) (s : Spell) : Spell := { s with rule := p s.rule }

section
variable {p : ByteArray → ByteArray}

theorem p_inj (hp : ∀ a b, sLt (p a) (p b) ↔ sLt a b) {a b : ByteArray} (h : p a = p b) : a = b :=
  sLt_tri _ _ (fun k => by have := (hp a b).2 k; rw [h] at this; exact sLt_irrefl _ this) (fun k => by have := (hp b a).2 k; rw [h] at this; exact sLt_irrefl _ this)

theorem seen_renD (hp : ∀ a b, sLt (p a) (p b) ↔ sLt a b) (m d : ByteArray) (l : List Samp) : seen m (p d) (l.map (renD p)) = seen m d l := by
  unfold seen
  rw [List.filter_map, List.map_map]
  have : ((fun s : Samp => decide (s.metric = m ∧ s.device = p d)) ∘ renD p) = fun s : Samp => decide (s.metric = m ∧ s.device = d) := by
    funext s
    simp only [Function.comp, renD]
    by_cases h : s.device = d
    · simp [h]
    · have : p s.device ≠ p d := fun e => h (p_inj hp e)
      simp [h, this]
  rw [this]
  rfl

theorem devs_renD (hp : ∀ a b, sLt (p a) (p b) ↔ sLt a b) (m : ByteArray) (l : List Samp) : devs m (l.map (renD p)) = (devs m l).map p := by
  refine sorted_eqS (devs_sorted _ _) ?_ fun x => ?_
  · rw [List.pairwise_map]
    exact (devs_sorted m l).imp fun h => (hp _ _).2 h
  · rw [mem_devs, List.mem_map]
    constructor
    · rintro ⟨s, hs, h1, h2⟩
      obtain ⟨y, hy, rfl⟩ := List.mem_map.1 hs
      exact ⟨y.device, (mem_devs _ _ _).2 ⟨y, hy, h1, rfl⟩, h2⟩
    · rintro ⟨d, hd, rfl⟩
      obtain ⟨s, hs, h1, h2⟩ := (mem_devs _ _ _).1 hd
      exact ⟨renD p s, List.mem_map.2 ⟨s, hs, rfl⟩, h1, by rw [← h2]; rfl⟩

theorem raw_renD (hp : ∀ a b, sLt (p a) (p b) ↔ sLt a b) (rs : List Rule) (l : List Samp) (w : Int × Int) : rawOf rs (l.map (renD p)) w = (rawOf rs l w).map (renSD p) := by
  rw [rawOf_eq, rawOf_eq, List.map_flatMap]
  refine flatMap_congr' fun r _ => ?_
  rw [devs_renD hp, List.map_flatMap, List.flatMap_map]
  refine flatMap_congr' fun d _ => ?_
  unfold unit
  rw [seen_renD hp, List.map_map]
  rfl

theorem spells_renD (hp : ∀ a b, sLt (p a) (p b) ↔ sLt a b) {rs : List Rule} {l : List Samp} (hr : GoodRs rs) (hl : GoodL l) (w : Int × Int) : spells rs (l.map (renD p)) w = (spells rs l w).map (renSD p) := by
  unfold spells
  rw [raw_renD hp, sort3_map spKey _ (raw_told hr hl w)]
  intro a b
  unfold lt3 spKey renSD
  dsimp only
  have e : p a.device = p b.device ↔ a.device = b.device := ⟨p_inj hp, fun h => by rw [h]⟩
  rw [hp, e]

theorem order_renD (hp : ∀ a b, sLt (p a) (p b) ↔ sLt a b) {l : List Samp} (h : l.Pairwise fun a b => lt3 (sampKey a) (sampKey b)) : (l.map (renD p)).Pairwise fun a b => lt3 (sampKey a) (sampKey b) := by
  rw [List.pairwise_map]
  refine h.imp fun {a b} hab => ?_
  unfold lt3 sampKey renD at *
  dsimp only at *
  have e : p a.device = p b.device ↔ a.device = b.device := ⟨p_inj hp, fun h => by rw [h]⟩
  rw [hp, e]
  exact hab

theorem law_devices_named (hp : ∀ a b, sLt (p a) (p b) ↔ sLt a b) {rs : List Rule} {l : List Samp} {w : Int × Int} (hr : GoodRs rs) (hl : GoodL l) (h0 : chkR rs = 0) (hw : winOk w) : alikeP ((spells rs l w).map (renSD p)) rs (l.map (renD p)) w :=
  alikeP_of (.inl h0) (chkS_soft (order_renD hp hl.order)) (.inl hw) fun _ _ _ => spells_renD hp hr hl w
end

/-! ### Metrics with other names, and rules with other keys -/

def renM (p : ByteArray → ByteArray) (s : Samp) : Samp := { s with metric := p s.metric }
def renR (k p : ByteArray → ByteArray) (r : Rule) : Rule := { r with key := k r.key, metric := p r.metric }

section
variable {k p : ByteArray → ByteArray}

theorem spansOf_renR (r : Rule) (l : List Sm) (hr : GoodR r) (hs : SortedS l) (hg : GoodS l) : spansOf (renR k p r) l = spansOf r l := by
  have A : Alike (fun v => v) (fun _ => True) r (renR k p r) := alike_of rfl rfl rfl fun l => by
    have e : mapV (fun v => v) l = l := by simp [mapV]
    rw [e]; rfl
  have := spansOf_map A hr (fun _ _ _ _ _ => trivial) l hs hg
  rwa [show mapV (fun v => v) l = l by simp [mapV]] at this

theorem seen_renM (hp : ∀ a b, sLt (p a) (p b) ↔ sLt a b) (m d : ByteArray) (l : List Samp) : seen (p m) d (l.map (renM p)) = seen m d l := by
  unfold seen
  rw [List.filter_map, List.map_map]
  have : ((fun s : Samp => decide (s.metric = p m ∧ s.device = d)) ∘ renM p) = fun s : Samp => decide (s.metric = m ∧ s.device = d) := by
    funext s
    simp only [Function.comp, renM]
    by_cases h : s.metric = m
    · simp [h]
    · have : p s.metric ≠ p m := fun e => h (p_inj hp e)
      simp [h, this]
  rw [this]
  rfl

theorem devs_renM (hp : ∀ a b, sLt (p a) (p b) ↔ sLt a b) (m : ByteArray) (l : List Samp) : devs (p m) (l.map (renM p)) = devs m l := by
  refine sorted_eqS (devs_sorted _ _) (devs_sorted m l) fun x => ?_
  rw [mem_devs, mem_devs]
  constructor
  · rintro ⟨s, hs, h1, h2⟩
    obtain ⟨y, hy, rfl⟩ := List.mem_map.1 hs
    exact ⟨y, hy, p_inj hp h1, h2⟩
  · rintro ⟨s, hs, h1, h2⟩
    exact ⟨renM p s, List.mem_map.2 ⟨s, hs, rfl⟩, by rw [← h1]; rfl, h2⟩

theorem raw_renM (hp : ∀ a b, sLt (p a) (p b) ↔ sLt a b) {rs : List Rule} {l : List Samp} (hr : GoodRs rs) (hl : GoodL l) (w : Int × Int) : rawOf (rs.map (renR k p)) (l.map (renM p)) w = (rawOf rs l w).map (renSR k) := by
  rw [rawOf_eq, rawOf_eq, List.map_flatMap, List.flatMap_map]
  refine flatMap_congr' fun r h => ?_
  show (devs (p r.metric) _).flatMap _ = _
  rw [devs_renM hp, List.map_flatMap]
  refine flatMap_congr' fun d _ => ?_
  unfold unit
  rw [List.map_map]
  show (cutL w.1 w.2 (spansOf (renR k p r) (seen (p r.metric) d _))).map (mkSp d (k r.key)) = _
  rw [seen_renM hp, spansOf_renR r _ (hr.each r h).1 (seen_sorted hl.order _ _) (seen_good hl.each _ _)]
  rfl

theorem spells_renM (hk : ∀ a b, sLt (k a) (k b) ↔ sLt a b) (hp : ∀ a b, sLt (p a) (p b) ↔ sLt a b) {rs : List Rule} {l : List Samp} (hr : GoodRs rs) (hl : GoodL l) (w : Int × Int) : spells (rs.map (renR k p)) (l.map (renM p)) w = (spells rs l w).map (renSR k) := by
  unfold spells
  rw [raw_renM hp hr hl, sort3_map spKey _ (raw_told hr hl w)]
  intro a b
  unfold lt3 spKey renSR
  dsimp only
  rw [hk]

theorem order_renM (hk : ∀ a b, sLt (k a) (k b) ↔ sLt a b) (hp : ∀ a b, sLt (p a) (p b) ↔ sLt a b) {l : List Samp} (h : l.Pairwise fun a b => lt3 (sampKey a) (sampKey b)) : (l.map (renM p)).Pairwise fun a b => lt3 (sampKey a) (sampKey b) := by
  have _ := hk
  rw [List.pairwise_map]
  refine h.imp fun {a b} hab => ?_
  unfold lt3 sampKey renM at *
  dsimp only at *
  rw [hp]
  exact hab

theorem law_metrics_named (hk : ∀ a b, sLt (k a) (k b) ↔ sLt a b) (hp : ∀ a b, sLt (p a) (p b) ↔ sLt a b) {rs : List Rule} {l : List Samp} {w : Int × Int} (hr : GoodRs rs) (hl : GoodL l) (hw : winOk w) : alikeP ((spells rs l w).map (renSR k)) (rs.map (renR k p)) (l.map (renM p)) w := by
  refine alikeP_of (chkR_soft ?_ ?_) (chkS_soft (order_renM hk hp hl.order)) (.inl hw) fun _ _ _ => spells_renM hk hp hr hl w
  · rw [List.pairwise_map]
    exact hr.order.imp fun h => (hk _ _).2 h
  · intro x hx
    obtain ⟨r, h, rfl⟩ := List.mem_map.1 hx
    have := (hr.each r h).1
    exact ⟨this.agg.1, this.agg.2, this.empty.1, this.empty.2⟩
end

/-! ### Later -/

def shSamp (k : Int) (s : Samp) : Samp := { s with at_ := s.at_ + k }
def shSp (k : Int) (s : Spell) : Spell := { s with from_ := s.from_ + k, to_ := s.to_ + k }

theorem seen_sh (k : Int) (m d : ByteArray) (l : List Samp) : seen m d (l.map (shSamp k)) = shS k (seen m d l) := by
  unfold seen shS
  rw [List.filter_map, List.map_map, List.map_map]
  rfl

theorem devs_sh (k : Int) (m : ByteArray) (l : List Samp) : devs m (l.map (shSamp k)) = devs m l := by
  unfold devs
  rw [List.filter_map, List.map_map]
  rfl

theorem order_sh (k : Int) {l : List Samp} (h : l.Pairwise fun a b => lt3 (sampKey a) (sampKey b)) : (l.map (shSamp k)).Pairwise fun a b => lt3 (sampKey a) (sampKey b) := by
  rw [List.pairwise_map]
  refine h.imp fun {a b} hab => ?_
  unfold lt3 sampKey shSamp at *
  dsimp only at *
  rcases hab with h | ⟨h1, h2⟩
  · left; omega
  · right; exact ⟨by omega, h2⟩

theorem raw_sh {rs : List Rule} {l : List Samp} {w : Int × Int} {k : Int} (hr : GoodRs rs) (hl : GoodL l) (hk : 0 ≤ k) (hkE : k ≤ END) (h5 : ∀ r ∈ rs, r.agg ≠ 5 ∧ r.empty ≠ 2) (hl' : GoodL (l.map (shSamp k))) (hw : w.2 + k ≤ END) :
    rawOf rs (l.map (shSamp k)) (w.1 + k, w.2 + k) = (rawOf rs l w).map (shSp k) := by
  rw [rawOf_eq, rawOf_eq, List.map_flatMap]
  refine flatMap_congr' fun r h => ?_
  rw [devs_sh, List.map_flatMap]
  refine flatMap_congr' fun d _ => ?_
  unfold unit
  have hg' := seen_good hl'.each r.metric d
  rw [seen_sh] at hg' ⊢
  rw [spansOf_later (hr.each r h).1 hk (h5 r h).1 (h5 r h).2 _ (seen_sorted hl.order _ _) (seen_good hl.each _ _) hg' hw hkE, List.map_map, List.map_map]
  rfl

theorem spells_sh {rs : List Rule} {l : List Samp} {w : Int × Int} {k : Int} (hr : GoodRs rs) (hl : GoodL l) (hk : 0 ≤ k) (hkE : k ≤ END) (h5 : ∀ r ∈ rs, r.agg ≠ 5 ∧ r.empty ≠ 2) (hl' : GoodL (l.map (shSamp k))) (hw : w.2 + k ≤ END) :
    spells rs (l.map (shSamp k)) (w.1 + k, w.2 + k) = (spells rs l w).map (shSp k) := by
  unfold spells
  rw [raw_sh hr hl hk hkE h5 hl' hw, sort3_map spKey _ (raw_told hr hl w)]
  intro a b
  unfold lt3 spKey shSp
  dsimp only
  have e1 : a.from_ + k < b.from_ + k ↔ a.from_ < b.from_ := by omega
  have e2 : a.from_ + k = b.from_ + k ↔ a.from_ = b.from_ := by omega
  rw [e1, e2]

/-- IF ALL SAMPLES COME SO MUCH LATER, THE SPELLS DO. -/
theorem law_times_moved {rs : List Rule} {l : List Samp} {w : Int × Int} {k : Int} (hr : GoodRs rs) (hl : GoodL l) (h0 : chkR rs = 0) (hw : winOk w) (hk : 0 ≤ k) (hkE : k ≤ END) (h5 : ∀ r ∈ rs, r.agg ≠ 5 ∧ r.empty ≠ 2) :
    alikeP ((spells rs l w).map (shSp k)) rs (l.map (shSamp k)) (w.1 + k, w.2 + k) := by
  refine alikeP_of (.inl h0) (chkS_soft (order_sh k hl.order)) ?_ fun _ h2 h3 => spells_sh hr hl hk hkE h5 (chkS_ok h2) h3.2.2
  unfold winOk at *
  dsimp only
  omega

/-! ### Spare samples -/

theorem sorted_eq3 {α : Type} (key : α → Int × ByteArray × ByteArray) {l m : List α} (hl : l.Pairwise fun a b => lt3 (key a) (key b)) (hm : m.Pairwise fun a b => lt3 (key a) (key b)) (h : ∀ x, x ∈ l ↔ x ∈ m) : l = m := by
  have nd : ∀ {l : List α}, (l.Pairwise fun a b => lt3 (key a) (key b)) → l.Nodup := fun h => h.imp fun hab e => by subst e; exact lt3_irrefl _ hab
  have hp : l.Perm m := (List.perm_ext_iff_of_nodup (nd hl) (nd hm)).2 h
  exact List.Perm.eq_of_pairwise (le := fun a b => lt3 (key a) (key b)) (fun a b _ _ h k => absurd (lt3_trans h k) (lt3_irrefl _)) hl hm hp

theorem filter_spare {l b : List Samp} {x : Samp} (hl : l.Pairwise fun a b => lt3 (sampKey a) (sampKey b)) (hb : b.Pairwise fun a b => lt3 (sampKey a) (sampKey b)) (h : ∀ s, s ∈ b ↔ s ∈ l ∨ s = x) (q : Samp → Bool) (hx : q x = false) :
    b.filter q = l.filter q := by
  refine sorted_eq3 sampKey (hb.sublist List.filter_sublist) (hl.sublist List.filter_sublist) fun s => ?_
  rw [List.mem_filter, List.mem_filter, h]
  constructor
  · rintro ⟨h1 | rfl, h2⟩
    · exact ⟨h1, h2⟩
    · rw [hx] at h2; cases h2
  · rintro ⟨h1, h2⟩
    exact ⟨.inl h1, h2⟩

/-- SAMPLES OF A METRIC THAT NO RULE HAS CHANGE NO SPELL. -/
theorem law_spare {rs : List Rule} {l b : List Samp} {w : Int × Int} {x : Samp} (h0 : chkR rs = 0) (hl : GoodL l) (hw : winOk w) (hb : b.Pairwise fun a b => lt3 (sampKey a) (sampKey b)) (h : ∀ s, s ∈ b ↔ s ∈ l ∨ s = x)
    (hx : ∀ r ∈ rs, r.metric ≠ x.metric) : alikeP (spells rs l w) rs b w := by
  refine alikeP_of (.inl h0) (chkS_soft hb) (.inl hw) fun _ _ _ => ?_
  unfold spells
  congr 1
  rw [rawOf_eq, rawOf_eq]
  refine flatMap_congr' fun r hr => ?_
  have hne : ¬ x.metric = r.metric := fun e => hx r hr e.symm
  have e1 : devs r.metric b = devs r.metric l := by
    unfold devs
    rw [filter_spare hl.order hb h (fun s => decide (s.metric = r.metric)) (by simp [hne])]
  rw [e1]
  refine flatMap_congr' fun d _ => ?_
  unfold unit seen
  rw [filter_spare hl.order hb h (fun s => decide (s.metric = r.metric ∧ s.device = d)) (by simp [hne])]

end Go.Proofs.YteandmolnbcmmaaGreatDoor

namespace Go.Proofs.YteandmolnbcmmaaGreatDoor

/-- Less; more. -/
abbrev ltI (a b : Int) : Prop := a < b
abbrev gtI (a b : Int) : Prop := b < a

theorem sumV_snoc' (l : List Sm) (s : Sm) : sumV (l ++ [s]) = sumV l + s.2 := by
  induction l with
  | nil => simp [sumV]
  | cons a l ih => simp only [List.cons_append, sumV, ih]; omega

theorem lmin_least {l : List Sm} {b : Sm} {m : List Sm} (h : lmin l = b :: m) : ∀ x ∈ m, ltI b.2 x.2 := by
  induction l generalizing b m with
  | nil => simp [lmin] at h
  | cons a l ih =>
    rw [lmin] at h
    cases hl : lmin l with
    | nil => rw [hl] at h; simp only [List.cons.injEq] at h; obtain ⟨rfl, rfl⟩ := h; simp
    | cons c n =>
      rw [hl] at h
      dsimp only at h
      have hi := ih hl
      split at h
      · rename_i hac
        simp only [List.cons.injEq] at h
        obtain ⟨rfl, rfl⟩ := h
        intro x hx
        rcases List.mem_cons.1 hx with rfl | hx
        · exact hac
        · have := hi x hx
          unfold ltI at *
          omega
      · simp only [List.cons.injEq] at h
        obtain ⟨rfl, rfl⟩ := h
        exact hi

theorem lmin_pair (l : List Sm) : (lmin l).Pairwise fun a b => ltI a.2 b.2 := by
  induction l with
  | nil => simp [lmin]
  | cons a l ih =>
    rw [lmin]
    cases hl : lmin l with
    | nil => simp
    | cons c n =>
      rw [hl] at ih
      dsimp only
      split
      · rename_i hac
        refine List.pairwise_cons.2 ⟨?_, ih⟩
        intro x hx
        rcases List.mem_cons.1 hx with rfl | hx
        · exact hac
        · have := (List.pairwise_cons.1 ih).1 x hx
          unfold ltI at *
          omega
      · exact ih

theorem lmin_snoc (l : List Sm) (s : Sm) : lmin (l ++ [s]) = (lmin l).filter (fun x => decide (ltI x.2 s.2)) ++ [s] := by
  induction l with
  | nil => rfl
  | cons a l ih =>
    rw [List.cons_append, lmin, ih, lmin]
    cases hl : lmin l with
    | nil =>
      by_cases h : ltI a.2 s.2
      · simp [h]
      · simp [h]
    | cons b m =>
      have hb := lmin_least hl
      by_cases hbs : ltI b.2 s.2
      · rw [List.filter_cons_of_pos (by simpa using hbs)]
        dsimp only [List.cons_append]
        by_cases hab : ltI a.2 b.2
        · have has : ltI a.2 s.2 := by unfold ltI at *; omega
          rw [if_pos hab, if_pos hab, List.filter_cons_of_pos (by simpa using has), List.filter_cons_of_pos (by simpa using hbs)]
          rfl
        · rw [if_neg hab, if_neg hab, List.filter_cons_of_pos (by simpa using hbs)]
          rfl
      · have hm : m.filter (fun x => decide (ltI x.2 s.2)) = [] := by
          rw [List.filter_eq_nil_iff]
          intro x hx
          have := hb x hx
          unfold ltI at *
          simp
          omega
        rw [List.filter_cons_of_neg (by simpa using hbs), hm]
        dsimp only [List.nil_append]
        by_cases hab : ltI a.2 b.2
        · rw [if_pos hab]
          by_cases has : ltI a.2 s.2
          · rw [if_pos has, List.filter_cons_of_pos (by simpa using has), List.filter_cons_of_neg (by simpa using hbs), hm]; rfl
          · rw [if_neg has, List.filter_cons_of_neg (by simpa using has), List.filter_cons_of_neg (by simpa using hbs), hm]; rfl
        · have has : ¬ ltI a.2 s.2 := by unfold ltI at *; omega
          rw [if_neg hab, if_neg has, List.filter_cons_of_neg (by simpa using hbs), hm]; rfl

theorem lmin_take (l : List Sm) (s : Sm) (k : Nat) (h1 : ∀ (j : Nat) x, k ≤ j → (lmin l)[j]? = some x → ¬ ltI x.2 s.2) (h2 : k = 0 ∨ ∃ x, (lmin l)[k - 1]? = some x ∧ ltI x.2 s.2) :
    lmin (l ++ [s]) = (lmin l).take k ++ [s] := by
  rw [lmin_snoc]
  congr 1
  have hp := lmin_pair l
  generalize lmin l = M at *
  conv => lhs; rw [← List.take_append_drop k M]
  rw [List.filter_append]
  have e1 : (M.drop k).filter (fun x => decide (ltI x.2 s.2)) = [] := by
    rw [List.filter_eq_nil_iff]
    intro x hx
    obtain ⟨j, hj⟩ := List.mem_iff_getElem?.1 hx
    rw [List.getElem?_drop] at hj
    have := h1 (k + j) x (by omega) hj
    simpa using this
  have e2 : (M.take k).filter (fun x => decide (ltI x.2 s.2)) = M.take k := by
    rw [List.filter_eq_self]
    intro x hx
    rcases h2 with rfl | ⟨y, hy, hys⟩
    · simp at hx
    · obtain ⟨j, hj⟩ := List.mem_iff_getElem?.1 hx
      rw [List.getElem?_take] at hj
      split at hj
      · rename_i hjk
        have hx2 : x.2 = y.2 ∨ ltI x.2 y.2 := by
          rcases Nat.lt_or_ge j (k - 1) with hlt | hge
          · right
            obtain ⟨hj1, rfl⟩ := List.getElem?_eq_some_iff.1 hj
            obtain ⟨hk1, rfl⟩ := List.getElem?_eq_some_iff.1 hy
            exact List.pairwise_iff_getElem.1 hp j (k - 1) hj1 hk1 hlt
          · left
            have : j = k - 1 := by omega
            subst this
            rw [hj] at hy
            cases hy; rfl
        unfold ltI at *
        simp
        omega
      · cases hj
  rw [e1, e2, List.append_nil]

theorem lmax_least {l : List Sm} {b : Sm} {m : List Sm} (h : lmax l = b :: m) : ∀ x ∈ m, gtI b.2 x.2 := by
  induction l generalizing b m with
  | nil => simp [lmax] at h
  | cons a l ih =>
    rw [lmax] at h
    cases hl : lmax l with
    | nil => rw [hl] at h; simp only [List.cons.injEq] at h; obtain ⟨rfl, rfl⟩ := h; simp
    | cons c n =>
      rw [hl] at h
      dsimp only at h
      have hi := ih hl
      split at h
      · rename_i hac
        simp only [List.cons.injEq] at h
        obtain ⟨rfl, rfl⟩ := h
        intro x hx
        rcases List.mem_cons.1 hx with rfl | hx
        · exact hac
        · have := hi x hx
          unfold gtI at *
          omega
      · simp only [List.cons.injEq] at h
        obtain ⟨rfl, rfl⟩ := h
        exact hi

theorem lmax_pair (l : List Sm) : (lmax l).Pairwise fun a b => gtI a.2 b.2 := by
  induction l with
  | nil => simp [lmax]
  | cons a l ih =>
    rw [lmax]
    cases hl : lmax l with
    | nil => simp
    | cons c n =>
      rw [hl] at ih
      dsimp only
      split
      · rename_i hac
        refine List.pairwise_cons.2 ⟨?_, ih⟩
        intro x hx
        rcases List.mem_cons.1 hx with rfl | hx
        · exact hac
        · have := (List.pairwise_cons.1 ih).1 x hx
          unfold gtI at *
          omega
      · exact ih

theorem lmax_snoc (l : List Sm) (s : Sm) : lmax (l ++ [s]) = (lmax l).filter (fun x => decide (gtI x.2 s.2)) ++ [s] := by
  induction l with
  | nil => rfl
  | cons a l ih =>
    rw [List.cons_append, lmax, ih, lmax]
    cases hl : lmax l with
    | nil =>
      by_cases h : gtI a.2 s.2
      · simp [h]
      · simp [h]
    | cons b m =>
      have hb := lmax_least hl
      by_cases hbs : gtI b.2 s.2
      · rw [List.filter_cons_of_pos (by simpa using hbs)]
        dsimp only [List.cons_append]
        by_cases hab : gtI a.2 b.2
        · have has : gtI a.2 s.2 := by unfold gtI at *; omega
          rw [if_pos hab, if_pos hab, List.filter_cons_of_pos (by simpa using has), List.filter_cons_of_pos (by simpa using hbs)]
          rfl
        · rw [if_neg hab, if_neg hab, List.filter_cons_of_pos (by simpa using hbs)]
          rfl
      · have hm : m.filter (fun x => decide (gtI x.2 s.2)) = [] := by
          rw [List.filter_eq_nil_iff]
          intro x hx
          have := hb x hx
          unfold gtI at *
          simp
          omega
        rw [List.filter_cons_of_neg (by simpa using hbs), hm]
        dsimp only [List.nil_append]
        by_cases hab : gtI a.2 b.2
        · rw [if_pos hab]
          by_cases has : gtI a.2 s.2
          · rw [if_pos has, List.filter_cons_of_pos (by simpa using has), List.filter_cons_of_neg (by simpa using hbs), hm]; rfl
          · rw [if_neg has, List.filter_cons_of_neg (by simpa using has), List.filter_cons_of_neg (by simpa using hbs), hm]; rfl
        · have has : ¬ gtI a.2 s.2 := by unfold gtI at *; omega
          rw [if_neg hab, if_neg has, List.filter_cons_of_neg (by simpa using hbs), hm]; rfl

theorem lmax_take (l : List Sm) (s : Sm) (k : Nat) (h1 : ∀ (j : Nat) x, k ≤ j → (lmax l)[j]? = some x → ¬ gtI x.2 s.2) (h2 : k = 0 ∨ ∃ x, (lmax l)[k - 1]? = some x ∧ gtI x.2 s.2) :
    lmax (l ++ [s]) = (lmax l).take k ++ [s] := by
  rw [lmax_snoc]
  congr 1
  have hp := lmax_pair l
  generalize lmax l = M at *
  conv => lhs; rw [← List.take_append_drop k M]
  rw [List.filter_append]
  have e1 : (M.drop k).filter (fun x => decide (gtI x.2 s.2)) = [] := by
    rw [List.filter_eq_nil_iff]
    intro x hx
    obtain ⟨j, hj⟩ := List.mem_iff_getElem?.1 hx
    rw [List.getElem?_drop] at hj
    have := h1 (k + j) x (by omega) hj
    simpa using this
  have e2 : (M.take k).filter (fun x => decide (gtI x.2 s.2)) = M.take k := by
    rw [List.filter_eq_self]
    intro x hx
    rcases h2 with rfl | ⟨y, hy, hys⟩
    · simp at hx
    · obtain ⟨j, hj⟩ := List.mem_iff_getElem?.1 hx
      rw [List.getElem?_take] at hj
      split at hj
      · rename_i hjk
        have hx2 : x.2 = y.2 ∨ gtI x.2 y.2 := by
          rcases Nat.lt_or_ge j (k - 1) with hlt | hge
          · right
            obtain ⟨hj1, rfl⟩ := List.getElem?_eq_some_iff.1 hj
            obtain ⟨hk1, rfl⟩ := List.getElem?_eq_some_iff.1 hy
            exact List.pairwise_iff_getElem.1 hp j (k - 1) hj1 hk1 hlt
          · left
            have : j = k - 1 := by omega
            subst this
            rw [hj] at hy
            cases hy; rfl
        unfold gtI at *
        simp
        omega
      · cases hj
  rw [e1, e2, List.append_nil]

end Go.Proofs.YteandmolnbcmmaaGreatDoor
