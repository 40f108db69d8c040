/- The plain twin of package rule: samples that come later. The plain twin of package rule: the order of strings, of samples and of spells; sorting; the checks; Spells. The plain twin of package rule: the checks, and Spells. No condition beyond what each theorem states. -/
import Derived.Test.YteandmolnbcmmaaGreatDoorKA

namespace Go.Proofs.YteandmolnbcmmaaGreatDoor

/-- What a span is within a window: empty where the first is not less than the second. -/
def cutSp (f t : Int) (s : Span) : Span := (max s.1 f, min s.2 t)

def cutL (f t : Int) (l : List Span) : List Span := (l.map (cutSp f t)).filter fun s => decide (s.1 < s.2)

theorem cutL_append (f t : Int) (a b : List Span) : cutL f t (a ++ b) = cutL f t a ++ cutL f t b := by simp [cutL]

/-- A step from B on turns nothing within a window before B. -/
theorem stepAt_cut {r : Rule} {c B f t : Int} {u : Tk} (h : Chain c u) (hat : B ≤ dueOf r u) (hE : dueOf r u < END) (hB : t ≤ B) : cutL f t (stepAt r (dueOf r u) u).out = cutL f t u.out := by
  generalize dueOf r u = at_ at *
  have ho : (upd r at_ { u with win := dropW r.long at_ u.win }).out = u.out := by unfold upd; dsimp only; split <;> rfl
  have hf : (upd r at_ { u with win := dropW r.long at_ u.win }).firing = u.firing := by unfold upd; dsimp only; split <;> rfl
  have hb : (upd r at_ { u with win := dropW r.long at_ u.win }).began = u.began := by unfold upd; dsimp only; split <;> rfl
  unfold stepAt
  dsimp only
  generalize upd r at_ { u with win := dropW r.long at_ u.win } = v at *
  split
  · unfold toggle
    cases hv : v.firing with
    | true =>
      obtain ⟨l, hl⟩ := h.opened (hf ▸ hv)
      simp only [if_true]
      rw [ho, hl, setTo_snoc, cutL_append, cutL_append]
      have e : cutSp f t (u.began, at_) = cutSp f t (u.began, END) := by unfold cutSp; simp only [Prod.mk.injEq, true_and]; omega
      simp only [cutL, List.map_cons, List.map_nil, e]
    | false =>
      simp only [Bool.false_eq_true, if_false]
      rw [ho, cutL_append]
      have e : cutL f t [(at_, END)] = [] := by
        have : ¬ max at_ f < min END t := by omega
        simp [cutL, cutSp, this]
      rw [e, List.append_nil]
  · rw [ho]

theorem adv_cut {r : Rule} {p : Nat} {c B f t : Int} {u : Tk} (hr : GoodR r) (hi : Inv r p u) (h : Chain c u) (hc : c ≤ dueOf r u) (hB : B ≤ dueOf r u) (ht : t ≤ B) :
    cutL f t (adv r END u).out = cutL f t u.out :=
  (adv_ind hr (fun v => (∃ c, Chain c v ∧ c ≤ dueOf r v) ∧ B ≤ dueOf r v ∧ cutL f t v.out = cutL f t u.out) (fun v hv hx hlt => by
    obtain ⟨⟨c', h1, h2⟩, h3, h4⟩ := hx
    have hlE : dueOf r v < END := by omega
    have hd := stepAt_due hr hv hlE
    exact ⟨⟨dueOf r v + 1, stepAt_chain h1 h2 (dueOf_nonneg hr hv) hlE, by omega⟩, by omega, by rw [stepAt_cut h1 h3 hlE ht, h4]⟩) _ u (Nat.le_refl _) hi ⟨⟨c, h, hc⟩, hB, rfl⟩).2.1.2.2

/-- To go on to a moment, and then further. -/
theorem advF_adv {r : Rule} {B B' : Int} (hr : GoodR r) (hBB : B ≤ B') : ∀ (n : Nat) (p : Nat) (t : Tk), pot r t ≤ n → Inv r p t → adv r B' (adv r B t) = adv r B' t
  | n, p, t, hn, hi => by
    by_cases h : min B END ≤ dueOf r t
    · rw [adv_stop h]
    · have hlt : dueOf r t < END := by omega
      have hs := stepAt_pot hi hlt
      rw [adv_step hr hi (show dueOf r t < min B END by omega), adv_step hr hi (show dueOf r t < min B' END by omega)]
      match n with
      | 0 => omega
      | n + 1 => exact advF_adv hr hBB n p _ (by omega) (stepAt_inv hi (dueOf_nonneg hr hi) hlt)

theorem adv_adv {r : Rule} {B B' : Int} {p : Nat} {t : Tk} (hr : GoodR r) (hBB : B ≤ B') (hi : Inv r p t) : adv r B' (adv r B t) = adv r B' t := advF_adv hr hBB _ p t (Nat.le_refl _) hi

/-! ### Later -/

def shS (k : Int) (l : List Sm) : List Sm := l.map fun s => (s.1 + k, s.2)
def shP (k : Int) (s : Span) : Span := (s.1 + k, if s.2 = END then END else s.2 + k)

/-- The one track is as the other one was k before. -/
structure Later (k : Int) (t t' : Tk) : Prop where
  win : t'.win = shS k t.win
  state : t'.state = t.state
  firing : t'.firing = t.firing
  since : t'.since = t.since + k ∨ (t.firing = false ∧ t.state ≠ 1)
  out : t'.out = t.out.map (shP k)

theorem valueOf_sh (agg k : Int) (l : List Sm) : valueOf agg (shS k l) = valueOf agg l := by
  have f : ∀ l : List Sm, firstV (shS k l) = firstV l := fun l => by cases l <;> rfl
  have la : ∀ l : List Sm, lastV (shS k l) = lastV l := fun l => by
    unfold lastV
    have e : (shS k l).reverse = shS k l.reverse := by simp [shS]
    rw [e, f]
  have su : ∀ l : List Sm, sumV (shS k l) = sumV l := fun l => by
    induction l with
    | nil => rfl
    | cons a l ih =>
      have e : shS k (a :: l) = (a.1 + k, a.2) :: shS k l := rfl
      rw [e, sumV, ih, sumV]
  have mi : ∀ l : List Sm, lmin (shS k l) = shS k (lmin l) := fun l => by
    induction l with
    | nil => rfl
    | cons a l ih =>
      have e : shS k (a :: l) = (a.1 + k, a.2) :: shS k l := rfl
      rw [e, lmin, ih, lmin]
      cases lmin l with
      | nil => rfl
      | cons b m =>
        have e : shS k (b :: m) = (b.1 + k, b.2) :: shS k m := rfl
        rw [e]
        dsimp only
        split <;> rfl
  have ma : ∀ l : List Sm, lmax (shS k l) = shS k (lmax l) := fun l => by
    induction l with
    | nil => rfl
    | cons a l ih =>
      have e : shS k (a :: l) = (a.1 + k, a.2) :: shS k l := rfl
      rw [e, lmax, ih, lmax]
      cases lmax l with
      | nil => rfl
      | cons b m =>
        have e : shS k (b :: m) = (b.1 + k, b.2) :: shS k m := rfl
        rw [e]
        dsimp only
        split <;> rfl
  have le : (shS k l).length = l.length := by simp [shS]
  unfold valueOf
  rw [f, la, su, mi, ma, f, f, le]

theorem nowOf_sh (r : Rule) (k : Int) (l : List Sm) : nowOf r (shS k l) = nowOf r l := by
  unfold nowOf
  rw [valueOf_sh]
  have : (shS k l = []) = (l = []) := by simp [shS]
  simp only [this]

theorem dropW_sh (long at_ k : Int) (l : List Sm) : dropW long (at_ + k) (shS k l) = shS k (dropW long at_ l) := by
  induction l with
  | nil => rfl
  | cons a l ih =>
    have e : shS k (a :: l) = (a.1 + k, a.2) :: shS k l := rfl
    rw [e, dropW_cons, dropW_cons, ih]
    dsimp only
    by_cases h : a.1 + long ≤ at_
    · rw [if_pos h, if_pos (by omega)]
    · rw [if_neg h, if_neg (by omega)]; rfl

section
variable {r : Rule} {k : Int} {t t' : Tk}

theorem later_turn (hk : 0 ≤ k) (h : Later k t t') : min (turnOf r t') END = min (turnOf r t + k) END := by
  unfold turnOf
  rw [h.firing, h.state]
  rcases h.since with hs | ⟨h1, h2⟩
  · rw [hs]
    repeat' split
    all_goals omega
  · simp [h1, h2]
    omega

theorem later_due (hk : 0 ≤ k) (h : Later k t t') : dueOf r t' = min (dueOf r t + k) END := by
  have ht := later_turn (r := r) hk h
  unfold dueOf
  rw [h.win]
  cases t.win with
  | nil =>
    show min (turnOf r t') END = _
    rw [ht]
    dsimp only
    omega
  | cons a l =>
    show min (min (turnOf r t') END) (a.1 + k + r.long) = _
    rw [ht]
    dsimp only
    omega

theorem later_upd (at_ : Int) (h : Later k t t') : Later k (upd r at_ t) (upd r (at_ + k) t') := by
  have e : nowOf r t'.win = nowOf r t.win := by rw [h.win, nowOf_sh]
  unfold upd
  rw [e, h.state]
  split
  · exact h
  · exact ⟨h.win, rfl, h.firing, .inl rfl, h.out⟩

theorem later_step (hk : 0 ≤ k) {c : Int} (hc : Chain c t) (h : Later k t t') (at_ : Int) (hat : at_ + k < END) (_h0 : 0 ≤ at_) : Later k (stepAt r at_ t) (stepAt r (at_ + k) t') := by
  have h1 : Later k { t with win := dropW r.long at_ t.win } { t' with win := dropW r.long (at_ + k) t'.win } :=
    ⟨by dsimp only; rw [h.win, dropW_sh], h.state, h.firing, h.since, h.out⟩
  have h2 := later_upd (r := r) at_ h1
  have ho : (upd r at_ { t with win := dropW r.long at_ t.win }).out = t.out := by unfold upd; dsimp only; split <;> rfl
  have hf : (upd r at_ { t with win := dropW r.long at_ t.win }).firing = t.firing := by unfold upd; dsimp only; split <;> rfl
  have hb : (upd r at_ { t with win := dropW r.long at_ t.win }).began = t.began := by unfold upd; dsimp only; split <;> rfl
  unfold stepAt
  dsimp only
  generalize upd r at_ { t with win := dropW r.long at_ t.win } = u at *
  generalize upd r (at_ + k) { t' with win := dropW r.long (at_ + k) t'.win } = u' at *
  have htn := later_turn (r := r) hk h2
  have hiff : turnOf r u' = at_ + k ↔ turnOf r u = at_ := by omega
  by_cases e : turnOf r u = at_
  · rw [if_pos e, if_pos (hiff.2 e)]
    have hst : (u.firing = false ∧ u.state = 1) ∨ (u.firing = true ∧ u.state = 2) := by
      unfold turnOf at e
      split at e
      · rename_i h; exact .inl h
      · split at e
        · rename_i h; exact .inr h
        · omega
    have hsn : u'.since = u.since + k := by
      rcases h2.since with hs | ⟨a, b⟩
      · exact hs
      · rcases hst with hst | hst
        · exact absurd hst.2 b
        · rw [hst.1] at a; cases a
    unfold toggle
    rw [h2.firing]
    cases hfu : u.firing with
    | true =>
      simp only [if_true]
      obtain ⟨l, hl⟩ := hc.opened (hf ▸ hfu)
      refine ⟨h2.win, h2.state, rfl, .inl hsn, ?_⟩
      show setTo u'.out (at_ + k) = (setTo u.out at_).map (shP k)
      rw [h2.out, ho, hl, List.map_append, setTo_snoc]
      show setTo (l.map (shP k) ++ [(t.began + k, _)]) _ = _
      rw [setTo_snoc, List.map_append]
      have : ¬ at_ = END := by omega
      simp [shP, this]
    | false =>
      simp only [Bool.false_eq_true, if_false]
      refine ⟨h2.win, h2.state, rfl, .inl hsn, ?_⟩
      show u'.out ++ [(at_ + k, END)] = (u.out ++ [(at_, END)]).map (shP k)
      rw [h2.out, List.map_append]
      simp [shP]
  · rw [if_neg e, if_neg (fun x => e (hiff.1 x))]
    exact h2
end

/-- Both go on, the one to B, the other one to B + k, which is not behind the end. -/
theorem later_adv {r : Rule} {k : Int} (hr : GoodR r) (hk : 0 ≤ k) {B : Int} (hB : B + k ≤ END) : ∀ (n p p' : Nat) (c : Int) (t t' : Tk), pot r t ≤ n → Inv r p t → Inv r p' t' → Chain c t → c ≤ dueOf r t → Later k t t' →
    Later k (adv r B t) (adv r (B + k) t')
  | n, p, p', c, t, t', hn, hi, hi', hc, hcd, h => by
    have hd := later_due (r := r) hk h
    by_cases hs : min B END ≤ dueOf r t
    · rw [adv_stop hs, adv_stop (show min (B + k) END ≤ dueOf r t' by omega)]
      exact h
    · have hlt : dueOf r t < END := by omega
      have hlt' : dueOf r t' < END := by omega
      have hsp := stepAt_pot hi hlt
      have e : dueOf r t' = dueOf r t + k := by omega
      rw [adv_step hr hi (show dueOf r t < min B END by omega), adv_step hr hi' (show dueOf r t' < min (B + k) END by omega)]
      have h0 := dueOf_nonneg hr hi
      have hl := later_step (r := r) hk hc h (dueOf r t) (by omega) h0
      have hi2 := stepAt_inv hi h0 hlt
      have hi2' := stepAt_inv hi' (dueOf_nonneg hr hi') hlt'
      have hch := stepAt_chain hc hcd h0 hlt
      have hdu := stepAt_due hr hi hlt
      rw [e] at hi2'
      rw [e]
      match n with
      | 0 => omega
      | n + 1 => exact later_adv hr hk hB n p p' _ _ _ (by omega) hi2 hi2' hch (by omega) hl

theorem later_put {r : Rule} {k : Int} {t t' : Tk} (s : Sm) (h : Later k t t') : Later k (putS r s t) (putS r (s.1 + k, s.2) t') := by
  unfold putS
  dsimp only
  refine later_upd s.1 ⟨?_, h.state, h.firing, h.since, h.out⟩
  dsimp only
  rw [h.win, dropW_sh]
  simp [shS]

theorem sorted_sh {k : Int} {l : List Sm} (h : SortedS l) : SortedS (shS k l) := by
  unfold SortedS shS
  rw [List.pairwise_map]
  exact List.Pairwise.imp (fun h => by dsimp only; omega) h

theorem later_feed {r : Rule} {k : Int} (hr : GoodR r) (hk : 0 ≤ k) (h5 : r.agg ≠ 5) (he : r.empty ≠ 2) (l : List Sm) (hs : SortedS l) (hg : GoodS l) (hg' : GoodS (shS k l)) :
    Later k (feed r l (init r)) (feed r (shS k l) (init r)) := by
  revert hs hg hg'
  refine snoc_ind (P := fun l => SortedS l → GoodS l → GoodS (shS k l) → Later k (feed r l (init r)) (feed r (shS k l) (init r))) ?_ ?_ l
  · intro _ _ _
    refine ⟨rfl, rfl, rfl, .inr ⟨rfl, ?_⟩, rfl⟩
    show nowOf r [] ≠ 1
    have := hr.empty
    rw [nowOf_none r h5]
    repeat' split
    all_goals omega
  · intro l s ih hs hg hg'
    have hs' := List.pairwise_append.1 hs
    have hgl : GoodS l := fun x hx => hg x (by simp [hx])
    have e : shS k (l ++ [s]) = shS k l ++ [(s.1 + k, s.2)] := by simp [shS]
    rw [e] at hg' ⊢
    have hgl' : GoodS (shS k l) := fun x hx => hg' x (by simp [hx])
    have hgs' := hg' (s.1 + k, s.2) (by simp)
    have hL := ih hs'.1 hgl hgl'
    have hi := (feed_inv hr l hs'.1 hgl).1
    have hi' := (feed_inv hr (shS k l) (sorted_sh hs'.1) hgl').1
    obtain ⟨c, h1, h2, _⟩ := feed_chain hr l hs'.1 hgl
    rw [feed_snoc, feed_snoc]
    exact later_put s (later_adv hr hk (by dsimp only at hgs'; omega) _ _ _ _ _ _ (Nat.le_refl _) hi hi' h1 h2 hL)

/-- SPANS OF SAMPLES THAT COME LATER, within a window. -/
theorem spansOf_later {r : Rule} {k f t : Int} (hr : GoodR r) (hk : 0 ≤ k) (h5 : r.agg ≠ 5) (he : r.empty ≠ 2) (l : List Sm) (hs : SortedS l) (hg : GoodS l) (hg' : GoodS (shS k l)) (ht : t + k ≤ END) (hkE : k ≤ END) :
    cutL (f + k) (t + k) (spansOf r (shS k l)) = (cutL f t (spansOf r l)).map fun s => (s.1 + k, s.2 + k) := by
  have hL := later_feed hr hk h5 he l hs hg hg'
  have hi := (feed_inv hr l hs hg).1
  have hi' := (feed_inv hr (shS k l) (sorted_sh hs) hg').1
  obtain ⟨c, h1, h2, h3⟩ := feed_chain hr l hs hg
  have hc : c ≤ END - k := by
    rcases h3 with h3 | ⟨x, hx, h3⟩
    · omega
    · have := hg' (x.1 + k, x.2) (List.mem_map.2 ⟨x, hx, rfl⟩)
      dsimp only at this
      omega
  have hA := later_adv hr hk (B := END - k) (by omega) _ _ _ _ _ _ (Nat.le_refl _) hi hi' h1 h2 hL
  rw [show END - k + k = END by omega] at hA
  obtain ⟨c', hc', hch, hcd⟩ := adv_chain hr hi h1 h2 hc
  have hiB := adv_inv (before := END - k) hr hi
  have hdu := adv_due (before := END - k) hr hi
  have hE : cutL f t (spansOf r l) = cutL f t (adv r (END - k) (feed r l (init r))).out := by
    unfold spansOf
    rw [← adv_adv hr (show END - k ≤ END by omega) hi]
    exact adv_cut hr hiB hch hcd (show END - k ≤ _ by omega) (by omega)
  rw [hE]
  unfold spansOf
  rw [hA.out]
  have hbd : ∀ s ∈ (adv r (END - k) (feed r l (init r))).out, s.2 ≤ END := fun s hs => by have := hch.le s hs; omega
  generalize (adv r (END - k) (feed r l (init r))).out = o at hbd
  unfold cutL
  rw [List.map_map]
  induction o with
  | nil => rfl
  | cons s o ih =>
    have ih' := ih fun x hx => hbd x (by simp [hx])
    have hsE := hbd s (by simp)
    simp only [List.map_cons]
    have e : (cutSp (f + k) (t + k) ∘ shP k) s = ((cutSp f t s).1 + k, (cutSp f t s).2 + k) := by
      simp only [Function.comp, cutSp, shP, Prod.mk.injEq]
      refine ⟨by omega, ?_⟩
      split <;> omega
    rw [e, List.filter_cons, List.filter_cons]
    dsimp only
    by_cases hlt : (cutSp f t s).1 < (cutSp f t s).2
    · rw [if_pos (by simp; omega), if_pos (by simp; omega), List.map_cons, ih']
    · rw [if_neg (by simp; omega), if_neg (by simp; omega), ih']

end Go.Proofs.YteandmolnbcmmaaGreatDoor

namespace Go.Proofs.YteandmolnbcmmaaGreatDoor

/-! ### Strings -/

def sLt (a b : ByteArray) : Prop := a.data.toList < b.data.toList
instance (a b : ByteArray) : Decidable (sLt a b) := inferInstanceAs (Decidable (a.data.toList < b.data.toList))

theorem bytes_ext {a b : ByteArray} (h : a.data.toList = b.data.toList) : a = b := by
  cases a; cases b
  simp only [ByteArray.mk.injEq] at *
  exact Array.toList_inj.1 h

theorem sLt_irrefl (a : ByteArray) : ¬ sLt a a := List.lt_irrefl _
theorem sLt_trans {a b c : ByteArray} (h : sLt a b) (k : sLt b c) : sLt a c := List.lt_trans h k
theorem sLt_asymm {a b : ByteArray} (h : sLt a b) : ¬ sLt b a := fun k => sLt_irrefl a (sLt_trans h k)
theorem sLt_tri (a b : ByteArray) (h : ¬ sLt a b) (k : ¬ sLt b a) : a = b :=
  bytes_ext (List.le_antisymm (List.not_lt.1 k) (List.not_lt.1 h))

/-- What strings.Compare says. -/
def sCmp (a b : ByteArray) : Int := if sLt a b then -1 else if sLt b a then 1 else 0
def iCmp (a b : Int) : Int := if a < b then -1 else if b < a then 1 else 0

theorem sCmp_zero {a b : ByteArray} : sCmp a b = 0 ↔ a = b := by
  unfold sCmp
  constructor
  · intro h
    split at h
    · omega
    · split at h
      · omega
      · exact sLt_tri _ _ ‹_› ‹_›
  · rintro rfl
    rw [if_neg (sLt_irrefl a), if_neg (sLt_irrefl a)]
theorem sCmp_neg {a b : ByteArray} : sCmp a b < 0 ↔ sLt a b := by
  unfold sCmp
  by_cases h : sLt a b
  · simp [h]
  · rw [if_neg h]
    split <;> simp [h]
theorem iCmp_zero {a b : Int} : iCmp a b = 0 ↔ a = b := by unfold iCmp; repeat' split <;> omega
theorem iCmp_neg {a b : Int} : iCmp a b < 0 ↔ a < b := by unfold iCmp; repeat' split <;> omega

/-- The first that is not 0. -/
def orI : List Int → Int
  | [] => 0
  | a :: l => if a ≠ 0 then a else orI l

/-! ### Three keys, one behind the other -/

/-- By a number, then two strings: of samples and of spells. -/
def cmp3 (a : Int × ByteArray × ByteArray) (b : Int × ByteArray × ByteArray) : Int := orI [iCmp a.1 b.1, sCmp a.2.1 b.2.1, sCmp a.2.2 b.2.2]
def lt3 (a b : Int × ByteArray × ByteArray) : Prop := a.1 < b.1 ∨ (a.1 = b.1 ∧ (sLt a.2.1 b.2.1 ∨ (a.2.1 = b.2.1 ∧ sLt a.2.2 b.2.2)))
instance (a b : Int × ByteArray × ByteArray) : Decidable (lt3 a b) := by unfold lt3; exact inferInstance

theorem cmp3_neg (a b : Int × ByteArray × ByteArray) : cmp3 a b < 0 ↔ lt3 a b := by
  unfold cmp3 lt3 orI orI orI orI
  have h1 := @iCmp_zero a.1 b.1
  have h2 := @iCmp_neg a.1 b.1
  have h3 := @sCmp_zero a.2.1 b.2.1
  have h4 := @sCmp_neg a.2.1 b.2.1
  have h5 := @sCmp_zero a.2.2 b.2.2
  have h6 := @sCmp_neg a.2.2 b.2.2
  by_cases e1 : a.1 = b.1
  · rw [if_neg (by simpa using h1.2 e1)]
    by_cases e2 : a.2.1 = b.2.1
    · rw [if_neg (by simpa using h3.2 e2)]
      have n2 : ¬ sLt a.2.1 b.2.1 := by rw [e2]; exact sLt_irrefl _
      by_cases e3 : sCmp a.2.2 b.2.2 = 0
      · rw [if_neg (by simpa using e3)]
        have n3 : ¬ sLt a.2.2 b.2.2 := by rw [h5.1 e3]; exact sLt_irrefl _
        simp [e1, n2, n3]
      · rw [if_pos e3, h6]
        simp [e1, e2, sLt_irrefl]
    · rw [if_pos (fun h => e2 (h3.1 h)), h4]
      simp [e1, e2]
  · rw [if_pos (fun h => e1 (h1.1 h)), h2]
    simp [e1]

theorem cmp3_zero (a b : Int × ByteArray × ByteArray) : cmp3 a b = 0 ↔ a = b := by
  unfold cmp3 orI orI orI orI
  have h1 := @iCmp_zero a.1 b.1
  have h3 := @sCmp_zero a.2.1 b.2.1
  have h5 := @sCmp_zero a.2.2 b.2.2
  obtain ⟨x, y, z⟩ := a
  obtain ⟨x', y', z'⟩ := b
  dsimp only at *
  by_cases e1 : x = x'
  · rw [if_neg (by simpa using h1.2 e1)]
    by_cases e2 : y = y'
    · rw [if_neg (by simpa using h3.2 e2)]
      by_cases e3 : sCmp z z' = 0
      · rw [if_neg (by simpa using e3)]
        simp [e1, e2, h5.1 e3]
      · rw [if_pos e3]
        simp only [e3, false_iff, Prod.mk.injEq, not_and]
        exact fun _ _ h => e3 (h5.2 h)
    · rw [if_pos (fun h => e2 (h3.1 h))]
      simp only [Prod.mk.injEq]
      constructor
      · intro h; exact absurd (h3.1 h) e2
      · intro h; exact absurd h.2.1 e2
  · rw [if_pos (fun h => e1 (h1.1 h))]
    simp only [Prod.mk.injEq]
    constructor
    · intro h; exact absurd (h1.1 h) e1
    · intro h; exact absurd h.1 e1

theorem lt3_irrefl (a : Int × ByteArray × ByteArray) : ¬ lt3 a a := by simp [lt3, sLt_irrefl]
theorem lt3_trans {a b c : Int × ByteArray × ByteArray} (h : lt3 a b) (k : lt3 b c) : lt3 a c := by
  unfold lt3 at *
  rcases h with h | ⟨e, h⟩
  · rcases k with k | ⟨e', _⟩
    · left; omega
    · left; omega
  · rcases k with k | ⟨e', k⟩
    · left; omega
    · refine .inr ⟨by omega, ?_⟩
      rcases h with h | ⟨f, h⟩
      · rcases k with k | ⟨f', _⟩
        · exact .inl (sLt_trans h k)
        · left; rw [← f']; exact h
      · rcases k with k | ⟨f', k⟩
        · left; rw [f]; exact k
        · exact .inr ⟨f.trans f', sLt_trans h k⟩
theorem lt3_tri (a b : Int × ByteArray × ByteArray) (h : ¬ lt3 a b) (k : ¬ lt3 b a) : a = b := by
  obtain ⟨x, y, z⟩ := a
  obtain ⟨x', y', z'⟩ := b
  simp only [lt3, not_or, not_and] at h k
  have e1 : x = x' := by omega
  subst e1
  have h' := h.2 rfl
  have k' := k.2 rfl
  have e2 : y = y' := sLt_tri _ _ h'.1 k'.1
  subst e2
  have e3 : z = z' := sLt_tri _ _ (h'.2 rfl) (k'.2 rfl)
  subst e3
  rfl

/-! ### Sorting -/

section
variable {α : Type} (key : α → Int × ByteArray × ByteArray)

/-- Not behind. -/
def le3 (a b : α) : Bool := !decide (lt3 (key b) (key a))

def sort3 (l : List α) : List α := l.mergeSort (le3 key)

theorem le3_trans (a b c : α) (h : le3 key a b = true) (k : le3 key b c = true) : le3 key a c = true := by
  simp only [le3, Bool.not_eq_true', decide_eq_false_iff_not] at *
  intro hca
  by_cases hbc : lt3 (key b) (key c)
  · exact h (lt3_trans hbc hca)
  · have := lt3_tri _ _ hbc k
    rw [← this] at hca
    exact h hca

theorem le3_total (a b : α) : (le3 key a b || le3 key b a) = true := by
  simp only [le3, Bool.or_eq_true, Bool.not_eq_true', decide_eq_false_iff_not]
  by_cases h : lt3 (key b) (key a)
  · exact .inr fun k => lt3_irrefl _ (lt3_trans h k)
  · exact .inl h

theorem sort3_perm (l : List α) : (sort3 key l).Perm l := List.mergeSort_perm _ _
theorem sort3_sorted (l : List α) : (sort3 key l).Pairwise fun a b => ¬ lt3 (key b) (key a) := by
  have := List.pairwise_mergeSort (le3_trans key) (le3_total key) l
  exact this.imp fun h => by simpa [le3] using h

/-- The keys tell the members apart. -/
def Told (l : List α) : Prop := ∀ a ∈ l, ∀ b ∈ l, key a = key b → a = b

/-- Sorted, with the same members: the same list. -/
theorem sorted_unique {l m : List α} (ht : Told key l) (hp : l.Perm m) (hl : l.Pairwise fun a b => ¬ lt3 (key b) (key a)) (hm : m.Pairwise fun a b => ¬ lt3 (key b) (key a)) : l = m :=
  List.Perm.eq_of_pairwise (le := fun a b => ¬ lt3 (key b) (key a)) (fun a b ha hb h k => ht a ha b (hp.symm.subset hb) (lt3_tri _ _ k h)) hl hm hp

theorem sort3_of {l m : List α} (ht : Told key l) (hp : m.Perm l) (hm : m.Pairwise fun a b => ¬ lt3 (key b) (key a)) : m = sort3 key l :=
  sorted_unique key (fun a ha b hb => ht a (hp.subset ha) b (hp.subset hb)) (hp.trans (sort3_perm key l).symm) hm (sort3_sorted key l)

theorem sort3_congr {l m : List α} (ht : Told key l) (hp : l.Perm m) : sort3 key l = sort3 key m :=
  sorted_unique key (fun a ha b hb => ht a ((sort3_perm key l).subset ha) b ((sort3_perm key l).subset hb)) ((sort3_perm key l).trans (hp.trans (sort3_perm key m).symm)) (sort3_sorted key l) (sort3_sorted key m)
end

/-! ### Strings, sorted, each once -/

def leS (a b : ByteArray) : Bool := !decide (sLt b a)
def dedupS : List ByteArray → List ByteArray
  | a :: b :: l => if a = b then dedupS (b :: l) else a :: dedupS (b :: l)
  | l => l

theorem leS_trans (a b c : ByteArray) (h : leS a b = true) (k : leS b c = true) : leS a c = true := by
  simp only [leS, Bool.not_eq_true', decide_eq_false_iff_not] at *
  intro hca
  by_cases hbc : sLt b c
  · exact h (sLt_trans hbc hca)
  · have := sLt_tri _ _ hbc k
    rw [← this] at hca
    exact h hca
theorem leS_total (a b : ByteArray) : (leS a b || leS b a) = true := by
  simp only [leS, Bool.or_eq_true, Bool.not_eq_true', decide_eq_false_iff_not]
  by_cases h : sLt b a
  · exact .inr (sLt_asymm h)
  · exact .inl h

theorem dedupS_mem (l : List ByteArray) : ∀ x, x ∈ dedupS l ↔ x ∈ l := by
  intro x
  induction l with
  | nil => simp [dedupS]
  | cons a l ih =>
    cases l with
    | nil => simp [dedupS]
    | cons b l =>
      rw [dedupS]
      split
      · rename_i e; rw [ih, e]; simp
      · rw [List.mem_cons, ih, List.mem_cons (a := x) (b := a)]

theorem dedupS_sorted (l : List ByteArray) (h : l.Pairwise fun a b => ¬ sLt b a) : (dedupS l).Pairwise sLt := by
  induction l with
  | nil => simp [dedupS]
  | cons a l ih =>
    have h' := List.pairwise_cons.1 h
    cases l with
    | nil => simp [dedupS]
    | cons b l =>
      rw [dedupS]
      split
      · exact ih h'.2
      · rename_i hne
        refine List.pairwise_cons.2 ⟨fun x hx => ?_, ih h'.2⟩
        rw [dedupS_mem] at hx
        have hab : sLt a b := by
          by_cases hlt : sLt a b
          · exact hlt
          · exact absurd (sLt_tri _ _ hlt (h'.1 b (by simp))) hne
        rcases List.mem_cons.1 hx with rfl | hx
        · exact hab
        · have := (List.pairwise_cons.1 h'.2).1 x hx
          by_cases hbx : sLt b x
          · exact sLt_trans hab hbx
          · rw [← sLt_tri _ _ hbx this]; exact hab

theorem dedupS_length (l : List ByteArray) : (dedupS l).length ≤ l.length := by
  induction l with
  | nil => simp [dedupS]
  | cons a l ih =>
    cases l with
    | nil => simp [dedupS]
    | cons b l =>
      rw [dedupS]
      split
      · simp only [List.length_cons] at *; omega
      · simp only [List.length_cons] at *; omega

def sortS (l : List ByteArray) : List ByteArray := dedupS (l.mergeSort leS)

theorem sortS_mem (l : List ByteArray) (x : ByteArray) : x ∈ sortS l ↔ x ∈ l := by
  unfold sortS
  rw [dedupS_mem]
  exact (List.mergeSort_perm _ _).mem_iff

theorem sortS_sorted (l : List ByteArray) : (sortS l).Pairwise sLt := by
  refine dedupS_sorted _ ?_
  have := List.pairwise_mergeSort leS_trans leS_total l
  exact this.imp fun h => by simpa [leS] using h

theorem sorted_eqS {l m : List ByteArray} (hl : l.Pairwise sLt) (hm : m.Pairwise sLt) (h : ∀ x, x ∈ l ↔ x ∈ m) : l = m := by
  have nd : ∀ {l : List ByteArray}, l.Pairwise sLt → l.Nodup := fun h => h.imp fun hab e => by subst e; exact sLt_irrefl _ hab
  have hp : l.Perm m := (List.perm_ext_iff_of_nodup (nd hl) (nd hm)).2 h
  exact List.Perm.eq_of_pairwise (le := sLt) (fun a b _ _ h k => absurd k (sLt_asymm h)) hl hm hp

theorem sortS_congr {l m : List ByteArray} (h : ∀ x, x ∈ l ↔ x ∈ m) : sortS l = sortS m :=
  sorted_eqS (sortS_sorted l) (sortS_sorted m) fun x => by rw [sortS_mem, sortS_mem, h]

end Go.Proofs.YteandmolnbcmmaaGreatDoor

namespace Go.Proofs.YteandmolnbcmmaaGreatDoor

/-! ### The checks -/

def okC (c : UInt8) : Bool := (97 ≤ c && c ≤ 122) || (48 ≤ c && c ≤ 57) || c == 45 || c == 95
def keyL : List UInt8 → Bool
  | [] => false
  | c :: l => decide ((c :: l).length ≤ 40) && (97 ≤ c && c ≤ 122) && (c :: l).all okC
def keyB (s : ByteArray) : Bool := keyL s.data.toList

def sampKey (s : Samp) : Int × ByteArray × ByteArray := (s.at_, s.device, s.metric)
def spKey (s : Spell) : Int × ByteArray × ByteArray := (s.from_, s.device, s.rule)

def sampFault (s : Samp) : Int :=
  if ¬ (0 ≤ s.at_ ∧ s.at_ < END) then 1
  else if keyB s.device = false ∨ keyB s.metric = false then 5
  else if ¬ (-MAXN ≤ s.value ∧ s.value ≤ MAXN) then 1 else 0

def chkSFrom : Option Samp → List Samp → Int
  | _, [] => 0
  | p, s :: l =>
    if sampFault s ≠ 0 then sampFault s
    else if ∃ q, p = some q ∧ ¬ lt3 (sampKey q) (sampKey s) then 7
    else chkSFrom (some s) l

def chkS (l : List Samp) : Int := if 5000 < l.length then 2 else chkSFrom none l

def ruleFault (p : Option Rule) (r : Rule) : Int :=
  if keyB r.key = false then 5
  else if ∃ q, p = some q ∧ ¬ sLt q.key r.key then 7
  else if keyB r.metric = false then 5
  else if ¬ (1 ≤ r.agg ∧ r.agg ≤ 6) then 4
  else if ¬ (1 ≤ r.long ∧ r.long ≤ MAXL) ∨ ¬ (-MAXN ≤ r.on ∧ r.on ≤ MAXN) ∨ ¬ (-MAXN ≤ r.off ∧ r.off ≤ MAXN) ∨ (r.above = true ∧ r.on < r.off) ∨ (r.above = false ∧ r.off < r.on) then 1
  else if ¬ (0 ≤ r.hold ∧ r.hold ≤ MAXL) ∨ ¬ (0 ≤ r.rest ∧ r.rest ≤ MAXL) then 1
  else if ¬ (0 ≤ r.empty ∧ r.empty ≤ 2) then 4 else 0

def chkRFrom : Option Rule → List Rule → Int
  | _, [] => 0
  | p, r :: l => if ruleFault p r ≠ 0 then ruleFault p r else chkRFrom (some r) l

def chkR (l : List Rule) : Int := if 100 < l.length then 2 else chkRFrom none l

def winOk (w : Int × Int) : Prop := 0 ≤ w.1 ∧ w.1 ≤ w.2 ∧ w.2 ≤ END
instance (w : Int × Int) : Decidable (winOk w) := by unfold winOk; exact inferInstance

def faultOf (rs : List Rule) (l : List Samp) (w : Int × Int) : Int :=
  if chkR rs ≠ 0 then chkR rs else if chkS l ≠ 0 then chkS l else if winOk w then 0 else 1

structure GoodSamp (s : Samp) : Prop where
  at_ : 0 ≤ s.at_ ∧ s.at_ < END
  device : keyB s.device = true
  metric : keyB s.metric = true
  value : -MAXN ≤ s.value ∧ s.value ≤ MAXN

theorem sampFault_ok {s : Samp} (h : sampFault s = 0) : GoodSamp s := by
  unfold sampFault at h
  split at h
  · omega
  · split at h
    · omega
    · split at h
      · omega
      · rename_i h1 h2 h3
        simp only [not_or, Bool.not_eq_false] at h2
        exact ⟨by omega, h2.1, h2.2, by omega⟩

structure GoodL (l : List Samp) : Prop where
  len : l.length ≤ 5000
  each : ∀ s ∈ l, GoodSamp s
  order : l.Pairwise fun a b => lt3 (sampKey a) (sampKey b)

theorem chkSFrom_ok : ∀ (p : Option Samp) (l : List Samp), chkSFrom p l = 0 → (∀ s ∈ l, GoodSamp s) ∧ l.Pairwise (fun a b => lt3 (sampKey a) (sampKey b)) ∧ ∀ q, p = some q → ∀ s ∈ l, lt3 (sampKey q) (sampKey s)
  | _, [], _ => ⟨by simp, by simp, by simp⟩
  | p, s :: l, h => by
    rw [chkSFrom] at h
    split at h
    · omega
    · rename_i h1
      split at h
      · omega
      · rename_i h2
        obtain ⟨a, b, c⟩ := chkSFrom_ok (some s) l h
        have hq : ∀ q, p = some q → lt3 (sampKey q) (sampKey s) := fun q hq => by
          by_cases hl : lt3 (sampKey q) (sampKey s)
          · exact hl
          · exact absurd ⟨q, hq, hl⟩ h2
        refine ⟨fun x hx => ?_, List.pairwise_cons.2 ⟨c s rfl, b⟩, fun q hp x hx => ?_⟩
        · rcases List.mem_cons.1 hx with rfl | hx
          · exact sampFault_ok (by omega)
          · exact a x hx
        · rcases List.mem_cons.1 hx with rfl | hx
          · exact hq q hp
          · exact lt3_trans (hq q hp) (c s rfl x hx)

theorem chkS_ok {l : List Samp} (h : chkS l = 0) : GoodL l := by
  unfold chkS at h
  split at h
  · omega
  · obtain ⟨a, b, _⟩ := chkSFrom_ok none l h
    exact ⟨by omega, a, b⟩

structure GoodRs (l : List Rule) : Prop where
  len : l.length ≤ 100
  each : ∀ r ∈ l, GoodR r ∧ keyB r.key = true ∧ keyB r.metric = true
  order : l.Pairwise fun a b => sLt a.key b.key

theorem ruleFault_ok {p : Option Rule} {r : Rule} (h : ruleFault p r = 0) : (GoodR r ∧ keyB r.key = true ∧ keyB r.metric = true) ∧ ∀ q, p = some q → sLt q.key r.key := by
  unfold ruleFault at h
  split at h
  · omega
  split at h
  · omega
  split at h
  · omega
  split at h
  · omega
  split at h
  · omega
  split at h
  · omega
  split at h
  · omega
  rename_i h1 h2 h3 h4 h5 h6 h7
  simp only [Bool.not_eq_false] at h1 h3
  simp only [not_or, Decidable.not_not] at h5 h6
  obtain ⟨a, b, c, d, e⟩ := h5
  refine ⟨⟨⟨by omega, a, b, c, ⟨fun x => ?_, fun x => ?_⟩, h6.1, h6.2, by omega⟩, h1, h3⟩, fun q hq => ?_⟩
  · exact Int.not_lt.1 fun y => d ⟨x, y⟩
  · exact Int.not_lt.1 fun y => e ⟨x, y⟩
  · by_cases hl : sLt q.key r.key
    · exact hl
    · exact absurd ⟨q, hq, hl⟩ h2

theorem chkRFrom_ok : ∀ (p : Option Rule) (l : List Rule), chkRFrom p l = 0 → (∀ r ∈ l, GoodR r ∧ keyB r.key = true ∧ keyB r.metric = true) ∧ l.Pairwise (fun a b => sLt a.key b.key) ∧ ∀ q, p = some q → ∀ s ∈ l, sLt q.key s.key
  | _, [], _ => ⟨by simp, by simp, by simp⟩
  | p, s :: l, h => by
    rw [chkRFrom] at h
    split at h
    · omega
    · rename_i h1
      obtain ⟨a, b, c⟩ := chkRFrom_ok (some s) l h
      obtain ⟨hg, hq⟩ := ruleFault_ok (p := p) (r := s) (by omega)
      refine ⟨fun x hx => ?_, List.pairwise_cons.2 ⟨c s rfl, b⟩, fun q hp x hx => ?_⟩
      · rcases List.mem_cons.1 hx with rfl | hx
        · exact hg
        · exact a x hx
      · rcases List.mem_cons.1 hx with rfl | hx
        · exact hq q hp
        · exact sLt_trans (hq q hp) (c s rfl x hx)

theorem chkR_ok {l : List Rule} (h : chkR l = 0) : GoodRs l := by
  unfold chkR at h
  split at h
  · omega
  · obtain ⟨a, b, _⟩ := chkRFrom_ok none l h
    exact ⟨by omega, a, b⟩

theorem faultOf_ok {rs : List Rule} {l : List Samp} {w : Int × Int} (h : faultOf rs l w = 0) : chkR rs = 0 ∧ chkS l = 0 ∧ winOk w := by
  unfold faultOf at h
  split at h
  · omega
  · split at h
    · omega
    · split at h
      · exact ⟨by omega, by omega, by assumption⟩
      · omega

/-! ### Which errors other rules and samples can have -/

/-- ErrArg, ErrLarge or ErrName. -/
def soft (e : Int) : Prop := e = 0 ∨ e = 1 ∨ e = 2 ∨ e = 5

theorem chkSFrom_soft : ∀ (p : Option Samp) (l : List Samp), l.Pairwise (fun a b => lt3 (sampKey a) (sampKey b)) → (∀ q, p = some q → ∀ s ∈ l, lt3 (sampKey q) (sampKey s)) → soft (chkSFrom p l)
  | _, [], _, _ => .inl rfl
  | p, s :: l, h, hp => by
    rw [chkSFrom]
    have h' := List.pairwise_cons.1 h
    split
    · unfold sampFault soft
      repeat' split
      all_goals simp
    · rw [if_neg]
      · exact chkSFrom_soft (some s) l h'.2 (fun q hq x hx => by cases hq; exact h'.1 x hx)
      · rintro ⟨q, hq, hn⟩
        exact hn (hp q hq s (by simp))

theorem chkS_soft {l : List Samp} (h : l.Pairwise (fun a b => lt3 (sampKey a) (sampKey b))) : soft (chkS l) := by
  unfold chkS
  split
  · simp [soft]
  · exact chkSFrom_soft none l h (by simp)

theorem chkRFrom_soft : ∀ (p : Option Rule) (l : List Rule), l.Pairwise (fun a b => sLt a.key b.key) → (∀ q, p = some q → ∀ s ∈ l, sLt q.key s.key) → (∀ r ∈ l, 1 ≤ r.agg ∧ r.agg ≤ 6 ∧ 0 ≤ r.empty ∧ r.empty ≤ 2) → soft (chkRFrom p l)
  | _, [], _, _, _ => .inl rfl
  | p, s :: l, h, hp, hk => by
    rw [chkRFrom]
    have h' := List.pairwise_cons.1 h
    have hs := hk s (by simp)
    split
    · unfold ruleFault
      split
      · simp [soft]
      split
      · rename_i hx
        obtain ⟨q, hq, hn⟩ := hx
        exact absurd (hp q hq s (by simp)) hn
      split
      · simp [soft]
      split
      · omega
      split
      · simp [soft]
      split
      · simp [soft]
      split
      · omega
      · simp [soft]
    · exact chkRFrom_soft (some s) l h'.2 (fun q hq x hx => by cases hq; exact h'.1 x hx) (fun r hr => hk r (by simp [hr]))

theorem chkR_soft {l : List Rule} (h : l.Pairwise (fun a b => sLt a.key b.key)) (hk : ∀ r ∈ l, 1 ≤ r.agg ∧ r.agg ≤ 6 ∧ 0 ≤ r.empty ∧ r.empty ≤ 2) : soft (chkR l) := by
  unfold chkR
  split
  · simp [soft]
  · exact chkRFrom_soft none l h (by simp) hk

/-! ### Spells -/

/-- The samples of a metric: of a device. -/
def seen (m d : ByteArray) (l : List Samp) : List Sm := (l.filter fun s => decide (s.metric = m ∧ s.device = d)).map fun s => (s.at_, s.value)

/-- The devices that have a sample of a metric, sorted. -/
def devs (m : ByteArray) (l : List Samp) : List ByteArray := sortS ((l.filter fun s => decide (s.metric = m)).map (·.device))

def mkSp (d k : ByteArray) (s : Span) : Spell := ⟨d, k, s.1, s.2⟩

def whole (r : Rule) (l : List Samp) : List Spell := (devs r.metric l).flatMap fun d => (spansOf r (seen r.metric d l)).map (mkSp d r.key)

def cutOne (w : Int × Int) (s : Spell) : Spell := { s with from_ := max s.from_ w.1, to_ := min s.to_ w.2 }
def cutS (w : Int × Int) (l : List Spell) : List Spell := (l.map (cutOne w)).filter fun s => decide (s.from_ < s.to_)

/-- The spells of one rule and one device, within a window. -/
def unit (l : List Samp) (w : Int × Int) (r : Rule) (d : ByteArray) : List Spell := (cutL w.1 w.2 (spansOf r (seen r.metric d l))).map (mkSp d r.key)

def rawOf (rs : List Rule) (l : List Samp) (w : Int × Int) : List Spell := rs.flatMap fun r => cutS w (whole r l)

def spells (rs : List Rule) (l : List Samp) (w : Int × Int) : List Spell := sort3 spKey (rawOf rs l w)

theorem cutS_map (w : Int × Int) (d k : ByteArray) (l : List Span) : cutS w (l.map (mkSp d k)) = (cutL w.1 w.2 l).map (mkSp d k) := by
  unfold cutS cutL
  induction l with
  | nil => rfl
  | cons s l ih =>
    simp only [List.map_cons, List.filter_cons]
    have e : cutOne w (mkSp d k s) = mkSp d k (cutSp w.1 w.2 s) := rfl
    have e2 : (cutOne w (mkSp d k s)).from_ = (cutSp w.1 w.2 s).1 := rfl
    have e3 : (cutOne w (mkSp d k s)).to_ = (cutSp w.1 w.2 s).2 := rfl
    rw [e2, e3, e]
    split
    · rw [List.map_cons, ih]
    · exact ih

theorem cutS_append (w : Int × Int) (a b : List Spell) : cutS w (a ++ b) = cutS w a ++ cutS w b := by simp [cutS]

theorem cutS_whole (w : Int × Int) (r : Rule) (l : List Samp) : cutS w (whole r l) = (devs r.metric l).flatMap (unit l w r) := by
  unfold whole
  induction devs r.metric l with
  | nil => rfl
  | cons d ds ih => rw [List.flatMap_cons, List.flatMap_cons, cutS_append, cutS_map, ih]; rfl

theorem rawOf_eq (rs : List Rule) (l : List Samp) (w : Int × Int) : rawOf rs l w = rs.flatMap fun r => (devs r.metric l).flatMap (unit l w r) := by
  unfold rawOf
  simp only [cutS_whole]

theorem seen_sorted {l : List Samp} (h : l.Pairwise fun a b => lt3 (sampKey a) (sampKey b)) (m d : ByteArray) : SortedS (seen m d l) := by
  unfold SortedS seen
  rw [List.pairwise_map]
  have h1 : (l.filter fun s => decide (s.metric = m ∧ s.device = d)).Pairwise fun a b => lt3 (sampKey a) (sampKey b) := List.Pairwise.sublist List.filter_sublist h
  refine List.Pairwise.imp_of_mem ?_ h1
  intro a b ha hb hab
  have ha' := (List.mem_filter.1 ha).2
  have hb' := (List.mem_filter.1 hb).2
  simp only [decide_eq_true_eq] at ha' hb'
  unfold lt3 sampKey at hab
  dsimp only at hab
  rcases hab with h | ⟨_, h⟩
  · exact h
  · rw [ha'.2, hb'.2, ha'.1, hb'.1] at h
    rcases h with h | ⟨_, h⟩
    · exact absurd h (sLt_irrefl _)
    · exact absurd h (sLt_irrefl _)

theorem seen_good {l : List Samp} (h : ∀ s ∈ l, GoodSamp s) (m d : ByteArray) : GoodS (seen m d l) := by
  intro x hx
  obtain ⟨s, hs, rfl⟩ := List.mem_map.1 hx
  have := h s (List.mem_filter.1 hs).1
  exact ⟨this.at_.1, this.at_.2, this.value.1, this.value.2⟩

theorem cutL_apart {l : List Span} (h : Apart l) (f t : Int) : (cutL f t l).Pairwise (fun a b => a.2 < b.1) ∧ ∀ s ∈ cutL f t l, s.1 < s.2 := by
  refine ⟨?_, fun s hs => by simpa [cutL] using (List.mem_filter.1 hs).2⟩
  unfold cutL
  refine List.Pairwise.sublist List.filter_sublist ?_
  rw [List.pairwise_map]
  refine h.pw.imp fun hab => ?_
  unfold cutSp
  dsimp only
  omega

theorem pw_inj {l : List Span} (h : l.Pairwise fun a b => a.2 < b.1) (hl : ∀ s ∈ l, s.1 < s.2) : ∀ a ∈ l, ∀ b ∈ l, a.1 = b.1 → a = b := by
  induction l with
  | nil => simp
  | cons x l ih =>
    have h' := List.pairwise_cons.1 h
    have ih' := ih h'.2 fun s hs => hl s (by simp [hs])
    intro a ha b hb e
    rcases List.mem_cons.1 ha with e1 | ha' <;> rcases List.mem_cons.1 hb with e2 | hb'
    · rw [e1, e2]
    · have h1 := h'.1 b hb'; have h2 := hl a ha; rw [← e1] at h1; omega
    · have h1 := h'.1 a ha'; have h2 := hl b hb; rw [← e2] at h1; omega
    · exact ih' a ha' b hb' e

/-- Rules with one key are one. -/
theorem key_inj {rs : List Rule} (h : rs.Pairwise fun a b => sLt a.key b.key) : ∀ a ∈ rs, ∀ b ∈ rs, a.key = b.key → a = b := by
  induction rs with
  | nil => simp
  | cons x l ih =>
    have h' := List.pairwise_cons.1 h
    intro a ha b hb e
    rcases List.mem_cons.1 ha with e1 | ha' <;> rcases List.mem_cons.1 hb with e2 | hb'
    · rw [e1, e2]
    · have := h'.1 b hb'; rw [← e1, e] at this; exact absurd this (sLt_irrefl _)
    · have := h'.1 a ha'; rw [← e2, e] at this; exact absurd this (sLt_irrefl _)
    · exact ih h'.2 a ha' b hb' e

theorem mem_unit {l : List Samp} {w : Int × Int} {r : Rule} {d : ByteArray} {s : Spell} (h : s ∈ unit l w r d) : s.device = d ∧ s.rule = r.key ∧ (s.from_, s.to_) ∈ cutL w.1 w.2 (spansOf r (seen r.metric d l)) := by
  obtain ⟨x, hx, rfl⟩ := List.mem_map.1 h
  exact ⟨rfl, rfl, hx⟩

theorem mem_raw {rs : List Rule} {l : List Samp} {w : Int × Int} {s : Spell} (h : s ∈ rawOf rs l w) : ∃ r ∈ rs, s ∈ unit l w r s.device ∧ s.device ∈ devs r.metric l := by
  rw [rawOf_eq] at h
  obtain ⟨r, hr, h⟩ := List.mem_flatMap.1 h
  obtain ⟨d, hd, h⟩ := List.mem_flatMap.1 h
  have := (mem_unit h).1
  subst this
  exact ⟨r, hr, h, hd⟩

theorem raw_told {rs : List Rule} {l : List Samp} (hr : GoodRs rs) (hl : GoodL l) (w : Int × Int) : Told spKey (rawOf rs l w) := by
  intro a ha b hb e
  obtain ⟨r, hr1, ha, _⟩ := mem_raw ha
  obtain ⟨r', hr2, hb, _⟩ := mem_raw hb
  obtain ⟨_, a2, a3⟩ := mem_unit ha
  obtain ⟨_, b2, b3⟩ := mem_unit hb
  simp only [spKey, Prod.mk.injEq] at e
  obtain ⟨e1, e2, e3⟩ := e
  have er : r = r' := key_inj hr.order r hr1 r' hr2 (by rw [← a2, ← b2, e3])
  subst er
  rw [← e2] at b3
  have hap := spansOf_apart (hr.each r hr1).1 (seen r.metric a.device l) (seen_sorted hl.order _ _) (seen_good hl.each _ _)
  have hcp := cutL_apart hap w.1 w.2
  have := pw_inj hcp.1 hcp.2 _ a3 _ b3 e1
  simp only [Prod.mk.injEq] at this
  cases a; cases b
  simp_all

end Go.Proofs.YteandmolnbcmmaaGreatDoor
