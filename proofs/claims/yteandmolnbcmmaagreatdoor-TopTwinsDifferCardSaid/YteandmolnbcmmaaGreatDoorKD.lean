/- Windows joined, plain: the spells of a window are those of both of its parts, where one that goes on is one. Two rules that are the same but for their keys, plain: the edges of a device, sorted, come in pairs. Two rules that are the same but for their keys, plain: what fires at once, by device. Faults of parts: of one rule, of the samples of one device. No condition beyond what each theorem states. -/
import Derived.Test.YteandmolnbcmmaaGreatDoorKC

namespace Go.Proofs.YteandmolnbcmmaaGreatDoor

/-- What is a spell of rules: a span of one of them, cut. -/
theorem mem_raw_iff {rs : List Rule} {l : List Samp} {w : Int × Int} {y : Spell} :
    y ∈ rawOf rs l w ↔ ∃ r ∈ rs, ∃ d ∈ devs r.metric l, ∃ s ∈ spansOf r (seen r.metric d l), max s.1 w.1 < min s.2 w.2 ∧ y = ⟨d, r.key, max s.1 w.1, min s.2 w.2⟩ := by
  rw [rawOf_eq]
  constructor
  · intro h
    obtain ⟨r, hr, h⟩ := List.mem_flatMap.1 h
    obtain ⟨d, hd, h⟩ := List.mem_flatMap.1 h
    obtain ⟨x, hx, rfl⟩ := List.mem_map.1 h
    unfold cutL at hx
    obtain ⟨h1, h2⟩ := List.mem_filter.1 hx
    obtain ⟨s, hs, rfl⟩ := List.mem_map.1 h1
    exact ⟨r, hr, d, hd, s, hs, of_decide_eq_true h2, rfl⟩
  · rintro ⟨r, hr, d, hd, s, hs, h, rfl⟩
    refine List.mem_flatMap.2 ⟨r, hr, List.mem_flatMap.2 ⟨d, hd, List.mem_map.2 ⟨cutSp w.1 w.2 s, ?_, rfl⟩⟩⟩
    exact List.mem_filter.2 ⟨List.mem_map.2 ⟨s, hs, rfl⟩, decide_eq_true h⟩

theorem pw_flatMap {α β : Type} {R : β → β → Prop} {f : α → List β} : ∀ {l : List α}, (∀ x ∈ l, (f x).Pairwise R) → l.Pairwise (fun a b => ∀ x ∈ f a, ∀ y ∈ f b, R x y) → (l.flatMap f).Pairwise R
  | [], _, _ => by simp
  | a :: l, h1, h2 => by
    rw [List.flatMap_cons, List.pairwise_append]
    have h2' := List.pairwise_cons.1 h2
    refine ⟨h1 a (by simp), pw_flatMap (fun x hx => h1 x (by simp [hx])) h2'.2, fun x hx y hy => ?_⟩
    obtain ⟨b, hb, hy⟩ := List.mem_flatMap.1 hy
    exact h2'.1 b hb x hx y hy

theorem raw_nodup {rs : List Rule} {l : List Samp} (hr : GoodRs rs) (hl : GoodL l) (w : Int × Int) : (rawOf rs l w).Nodup := by
  rw [rawOf_eq]
  refine pw_flatMap (fun r hr1 => ?_) (hr.order.imp fun {a b} hab x hx y hy e => ?_)
  · refine pw_flatMap (fun d _ => ?_) ((devs_sorted r.metric l).imp fun {a b} hab x hx y hy e => ?_)
    · have hap := spansOf_apart (hr.each r hr1).1 (seen r.metric d l) (seen_sorted hl.order _ _) (seen_good hl.each _ _)
      have hcp := cutL_apart hap w.1 w.2
      unfold unit
      rw [List.pairwise_map]
      refine List.Pairwise.imp_of_mem ?_ hcp.1
      intro a b ha hb hab e
      simp only [mkSp, Spell.mk.injEq, true_and] at e
      have := hcp.2 a ha
      omega
    · rw [← (mem_unit hx).1, ← (mem_unit hy).1, e] at hab
      exact sLt_irrefl _ hab
  · obtain ⟨d, _, hx⟩ := List.mem_flatMap.1 hx
    obtain ⟨d', _, hy⟩ := List.mem_flatMap.1 hy
    rw [← (mem_unit hx).2.1, ← (mem_unit hy).2.1, e] at hab
    exact sLt_irrefl _ hab

/-! ### The join, as the program does it -/

def fitsJ (c : Int) (x s : Spell) : Bool := decide (x.to_ = c ∧ s.from_ = c ∧ s.device = x.device ∧ s.rule = x.rule)

/-- One round. -/
def joinF (c : Int) (st : List Spell × List Spell) (x : Spell) : List Spell × List Spell :=
  match st.2.findIdx? (fitsJ c x) with
  | none => (st.1 ++ [x], st.2)
  | some k => (st.1 ++ [{ x with to_ := (st.2[k]?.getD x).to_ }], st.2.eraseIdx k)

def joinL (c : Int) (a b : List Spell) : List Spell × List Spell := a.foldl (joinF c) ([], b)

theorem joinL_snoc (c : Int) (a b : List Spell) (x : Spell) : joinL c (a ++ [x]) b = joinF c (joinL c a b) x := by
  unfold joinL; rw [List.foldl_append]; rfl

/-- What becomes of one. -/
def joinA (c : Int) (b : List Spell) (x : Spell) : Spell := match b.find? (fitsJ c x) with | some s => { x with to_ := s.to_ } | none => x

/-- At most one fits. -/
def OneB (c : Int) (b : List Spell) : Prop := b.Pairwise fun s t => ¬ (s.from_ = c ∧ t.from_ = c ∧ s.device = t.device ∧ s.rule = t.rule)
def OneA (c : Int) (a : List Spell) : Prop := a.Pairwise fun s t => ¬ (s.to_ = c ∧ t.to_ = c ∧ s.device = t.device ∧ s.rule = t.rule)

theorem erase_fits {c : Int} {x : Spell} : ∀ {b : List Spell} {k : Nat}, OneB c b → b.findIdx? (fitsJ c x) = some k →
    ∃ s, b[k]? = some s ∧ b.find? (fitsJ c x) = some s ∧ b.eraseIdx k = b.filter fun t => !fitsJ c x t
  | [], k, _, h => by simp at h
  | s :: b, k, ho, h => by
    have ho' := List.pairwise_cons.1 ho
    rw [List.findIdx?_cons] at h
    by_cases hs : fitsJ c x s = true
    · rw [if_pos hs] at h
      cases h
      refine ⟨s, rfl, by rw [List.find?_cons, hs], ?_⟩
      rw [List.eraseIdx_zero, List.tail_cons, List.filter_cons, if_neg (by simp [hs])]
      refine (List.filter_eq_self.2 fun t ht => ?_).symm
      have := ho'.1 t ht
      unfold fitsJ at hs ⊢
      simp only [decide_eq_true_eq, Bool.not_eq_true', decide_eq_false_iff_not] at hs ⊢
      intro h2
      exact this ⟨hs.2.1, h2.2.1, by rw [hs.2.2.1, h2.2.2.1], by rw [hs.2.2.2, h2.2.2.2]⟩
    · rw [if_neg hs] at h
      cases hk : b.findIdx? (fitsJ c x) with
      | none => rw [hk] at h; simp at h
      | some j =>
        rw [hk] at h
        simp at h
        subst h
        obtain ⟨t, h1, h2, h3⟩ := erase_fits ho'.2 hk
        refine ⟨t, by simpa using h1, ?_, ?_⟩
        · rw [List.find?_cons]; simp only [Bool.not_eq_true] at hs; rw [hs]; exact h2
        · rw [List.eraseIdx_cons_succ, h3, List.filter_cons, if_pos (by simpa using hs)]

theorem joinL_all {c : Int} : ∀ (a b acc : List Spell), OneA c a → OneB c b →
    a.foldl (joinF c) (acc, b) = (acc ++ a.map (joinA c b), b.filter fun s => !a.any fun x => fitsJ c x s)
  | [], b, acc, _, _ => by rw [List.foldl_nil, List.map_nil, List.append_nil, List.filter_eq_self.2 (by simp)]
  | x :: a, b, acc, ha, hb => by
    have ha' := List.pairwise_cons.1 ha
    rw [List.foldl_cons]
    cases hk : b.findIdx? (fitsJ c x) with
    | none =>
      have hn : ∀ s ∈ b, fitsJ c x s = false := by
        intro s hs
        have := List.findIdx?_eq_none_iff.1 hk s hs
        simpa using this
      have e : joinF c (acc, b) x = (acc ++ [x], b) := by unfold joinF; simp only; rw [hk]
      rw [e, joinL_all a b _ ha'.2 hb]
      have ej : joinA c b x = x := by
        unfold joinA
        rw [List.find?_eq_none.2 fun s hs => by simp [hn s hs]]
      rw [List.map_cons, ej, List.append_assoc]
      refine Prod.ext rfl (List.filter_congr fun s hs => ?_)
      rw [List.any_cons, hn s hs, Bool.false_or]
    | some k =>
      obtain ⟨s, h1, h2, h3⟩ := erase_fits hb hk
      have hfs : fitsJ c x s = true := List.find?_some h2
      have e : joinF c (acc, b) x = (acc ++ [joinA c b x], b.filter fun t => !fitsJ c x t) := by
        unfold joinF joinA
        simp only
        rw [hk, h2]
        dsimp only
        rw [h1, h3]
        rfl
      rw [e, joinL_all a _ _ ha'.2 (List.Pairwise.sublist List.filter_sublist hb)]
      rw [List.map_cons, List.append_assoc]
      have hxy : ∀ y ∈ a, ∀ t, fitsJ c x t = true → fitsJ c y t = false := by
        intro y hy t ht
        have := ha'.1 y hy
        unfold fitsJ at ht ⊢
        simp only [decide_eq_true_eq, decide_eq_false_iff_not] at ht ⊢
        intro h4
        exact this ⟨ht.1, h4.1, by rw [← ht.2.2.1, h4.2.2.1], by rw [← ht.2.2.2, h4.2.2.2]⟩
      refine Prod.ext ?_ ?_
      · simp only [List.singleton_append]
        congr 2
        refine List.map_congr_left fun y hy => ?_
        unfold joinA
        rw [List.find?_filter]
        have : b.find? (fun t => decide ((!fitsJ c x t) = true ∧ fitsJ c y t = true)) = b.find? (fitsJ c y) := by
          congr 1
          funext t
          cases h5 : fitsJ c x t
          · simp
          · simp [hxy y hy t h5]
        rw [this]
      · simp only [List.filter_filter]
        refine List.filter_congr fun t _ => ?_
        rw [List.any_cons, Bool.not_or, Bool.and_comm]

theorem span_same {l : List Span} (h : l.Pairwise fun a b => a.2 < b.1) (s t : Span) (hs : s ∈ l) (ht : t ∈ l) (h1 : t.1 ≤ s.2) (h2 : s.1 ≤ t.2) : s = t := by
  induction l with
  | nil => simp at hs
  | cons a l ih =>
    have h' := List.pairwise_cons.1 h
    rcases List.mem_cons.1 hs with rfl | hs' <;> rcases List.mem_cons.1 ht with rfl | ht'
    · rfl
    · have := h'.1 t ht'; omega
    · have := h'.1 s hs'; omega
    · exact ih h'.2 hs' ht'

/-- Two of one unit. -/
theorem unit_same {rs : List Rule} {l : List Samp} (hr : GoodRs rs) (hl : GoodL l) {r r' : Rule} {d d' : ByteArray} {s s' : Span} (h1 : r ∈ rs) (h2 : r' ∈ rs)
    (hs : s ∈ spansOf r (seen r.metric d l)) (hs' : s' ∈ spansOf r' (seen r'.metric d' l)) (ek : r.key = r'.key) (ed : d = d') (a1 : s'.1 ≤ s.2) (a2 : s.1 ≤ s'.2) : r = r' ∧ d = d' ∧ s = s' := by
  have er : r = r' := key_inj hr.order r h1 r' h2 ek
  subst er ed
  have hap := spansOf_apart (hr.each r h1).1 (seen r.metric d l) (seen_sorted hl.order _ _) (seen_good hl.each _ _)
  exact ⟨rfl, rfl, span_same hap.pw s s' hs hs' a1 a2⟩

theorem nodup_pw {α : Type} {P : α → α → Prop} : ∀ {l : List α}, l.Nodup → (∀ a ∈ l, ∀ b ∈ l, P a b → a = b) → l.Pairwise fun a b => ¬ P a b
  | [], _, _ => by simp
  | a :: l, h, hp => by
    have h' := List.nodup_cons.1 h
    refine List.pairwise_cons.2 ⟨fun b hb hab => ?_, nodup_pw h'.2 fun x hx y hy => hp x (by simp [hx]) y (by simp [hy])⟩
    have := hp a (by simp) b (by simp [hb]) hab
    subst this
    exact h'.1 hb

theorem nodup_map {α β : Type} {f : α → β} : ∀ {l : List α}, l.Nodup → (∀ a ∈ l, ∀ b ∈ l, f a = f b → a = b) → (l.map f).Nodup := by
  intro l h hf
  rw [List.Nodup, List.pairwise_map]
  exact nodup_pw h hf

theorem joinA_key (c : Int) (b : List Spell) (x : Spell) : spKey (joinA c b x) = spKey x := by
  unfold joinA; split <;> rfl

/-- THE SPELLS OF A WINDOW ARE THOSE OF BOTH OF ITS PARTS, WHERE ONE THAT GOES ON IS ONE. -/
theorem law_joined {rs : List Rule} {l : List Samp} {f t c : Int} (hr : GoodRs rs) (hl : GoodL l) (h1 : f ≤ c) (h2 : c ≤ t) :
    sort3 spKey ((joinL c (spells rs l (f, c)) (spells rs l (c, t))).1 ++ (joinL c (spells rs l (f, c)) (spells rs l (c, t))).2) = spells rs l (f, t) := by
  have mA : ∀ y, y ∈ spells rs l (f, c) ↔ y ∈ rawOf rs l (f, c) := fun y => (sort3_perm spKey _).mem_iff
  have mB : ∀ y, y ∈ spells rs l (c, t) ↔ y ∈ rawOf rs l (c, t) := fun y => (sort3_perm spKey _).mem_iff
  have nA : (spells rs l (f, c)).Nodup := (sort3_perm spKey _).nodup_iff.2 (raw_nodup hr hl _)
  have nB : (spells rs l (c, t)).Nodup := (sort3_perm spKey _).nodup_iff.2 (raw_nodup hr hl _)
  have tA : Told spKey (spells rs l (f, c)) := fun a ha b hb => raw_told hr hl _ a ((mA a).1 ha) b ((mA b).1 hb)
  generalize spells rs l (f, c) = A at *
  generalize spells rs l (c, t) = B at *
  have pA : ∀ y, y ∈ A ↔ ∃ r ∈ rs, ∃ d ∈ devs r.metric l, ∃ s ∈ spansOf r (seen r.metric d l), max s.1 f < min s.2 c ∧ y = ⟨d, r.key, max s.1 f, min s.2 c⟩ := fun y => by rw [mA, mem_raw_iff]
  have pB : ∀ y, y ∈ B ↔ ∃ r ∈ rs, ∃ d ∈ devs r.metric l, ∃ s ∈ spansOf r (seen r.metric d l), max s.1 c < min s.2 t ∧ y = ⟨d, r.key, max s.1 c, min s.2 t⟩ := fun y => by rw [mB, mem_raw_iff]
  have oA : OneA c A := nodup_pw nA fun x hx y hy h => by
    obtain ⟨e1, e2, e3, e4⟩ := h
    obtain ⟨r, hr1, d, hd1, s, hs, hlt, rfl⟩ := (pA x).1 hx
    obtain ⟨r', hr2, d', hd2, s', hs', hlt', rfl⟩ := (pA y).1 hy
    dsimp only at e1 e2 e3 e4
    obtain ⟨rfl, rfl, rfl⟩ := unit_same hr hl hr1 hr2 hs hs' e4 e3 (by omega) (by omega)
    rfl
  have oB : OneB c B := nodup_pw nB fun x hx y hy h => by
    obtain ⟨e1, e2, e3, e4⟩ := h
    obtain ⟨r, hr1, d, hd1, s, hs, hlt, rfl⟩ := (pB x).1 hx
    obtain ⟨r', hr2, d', hd2, s', hs', hlt', rfl⟩ := (pB y).1 hy
    dsimp only at e1 e2 e3 e4
    obtain ⟨rfl, rfl, rfl⟩ := unit_same hr hl hr1 hr2 hs hs' e4 e3 (by omega) (by omega)
    rfl
  have hj : joinL c A B = (A.map (joinA c B), B.filter fun s => !A.any fun x => fitsJ c x s) := by
    have := joinL_all A B [] oA oB
    simpa [joinL] using this
  rw [hj]
  dsimp only
  have fits_iff : ∀ x s, fitsJ c x s = true ↔ x.to_ = c ∧ s.from_ = c ∧ s.device = x.device ∧ s.rule = x.rule := fun x s => by simp [fitsJ]
  have hperm : (A.map (joinA c B) ++ B.filter fun s => !A.any fun x => fitsJ c x s).Perm (rawOf rs l (f, t)) := by
    refine (List.perm_ext_iff_of_nodup ?_ (raw_nodup hr hl _)).2 fun y => ?_
    · rw [List.nodup_append]
      refine ⟨nodup_map nA fun a ha b hb e => tA a ha b hb (by rw [← joinA_key c B a, ← joinA_key c B b, e]), nB.filter _, fun a ha b hb e => ?_⟩
      obtain ⟨x, hx, rfl⟩ := List.mem_map.1 ha
      have hb' := (List.mem_filter.1 hb).1
      obtain ⟨r, hr1, d, hd1, s, hs, hlt, rfl⟩ := (pA x).1 hx
      obtain ⟨r', hr2, d', hd2, s', hs', hlt', rfl⟩ := (pB b).1 hb'
      have := congrArg (fun z => (spKey z).1) e
      rw [joinA_key] at this
      simp only [spKey] at this
      omega
    · rw [List.mem_append, List.mem_map, List.mem_filter, mem_raw_iff]
      constructor
      · rintro (⟨x, hx, rfl⟩ | ⟨hy, hn⟩)
        · obtain ⟨r, hr1, d, hd1, s, hs, hlt, rfl⟩ := (pA x).1 hx
          refine ⟨r, hr1, d, hd1, s, hs, by dsimp only; omega, ?_⟩
          unfold joinA
          split
          · rename_i z hz
            have hf := (fits_iff _ _).1 (List.find?_some hz)
            obtain ⟨r', hr2, d', hd2, s', hs', hlt', rfl⟩ := (pB z).1 (List.mem_of_find?_eq_some hz)
            dsimp only at hf
            obtain ⟨rfl, rfl, rfl⟩ := unit_same hr hl hr1 hr2 hs hs' hf.2.2.2.symm hf.2.2.1.symm (by omega) (by omega)
            rfl
          · rename_i hz
            have hn := List.find?_eq_none.1 hz
            by_cases hb : max s.1 c < min s.2 t
            · refine absurd ?_ (hn _ ((pB _).2 ⟨r, hr1, d, hd1, s, hs, hb, rfl⟩))
              rw [fits_iff]
              dsimp only
              refine ⟨?_, ?_, rfl, rfl⟩ <;> omega
            · simp only [Spell.mk.injEq, true_and]
              omega
        · obtain ⟨r, hr1, d, hd1, s, hs, hlt, rfl⟩ := (pB y).1 hy
          refine ⟨r, hr1, d, hd1, s, hs, by dsimp only; omega, ?_⟩
          by_cases ha : max s.1 f < min s.2 c
          · rw [Bool.not_eq_true', List.any_eq_false] at hn
            refine absurd ?_ (hn _ ((pA _).2 ⟨r, hr1, d, hd1, s, hs, ha, rfl⟩))
            rw [fits_iff]
            dsimp only
            refine ⟨?_, ?_, rfl, rfl⟩ <;> omega
          · simp only [Spell.mk.injEq, true_and, and_true]
            omega
      · rintro ⟨r, hr1, d, hd1, s, hs, hlt, rfl⟩
        dsimp only at hlt ⊢
        by_cases ha : max s.1 f < min s.2 c
        · refine .inl ⟨_, (pA _).2 ⟨r, hr1, d, hd1, s, hs, ha, rfl⟩, ?_⟩
          unfold joinA
          split
          · rename_i z hz
            have hf := (fits_iff _ _).1 (List.find?_some hz)
            obtain ⟨r', hr2, d', hd2, s', hs', hlt', rfl⟩ := (pB z).1 (List.mem_of_find?_eq_some hz)
            dsimp only at hf
            obtain ⟨rfl, rfl, rfl⟩ := unit_same hr hl hr1 hr2 hs hs' hf.2.2.2.symm hf.2.2.1.symm (by omega) (by omega)
            rfl
          · rename_i hz
            have hn := List.find?_eq_none.1 hz
            by_cases hb : max s.1 c < min s.2 t
            · refine absurd ?_ (hn _ ((pB _).2 ⟨r, hr1, d, hd1, s, hs, hb, rfl⟩))
              rw [fits_iff]
              dsimp only
              refine ⟨?_, ?_, rfl, rfl⟩ <;> omega
            · simp only [Spell.mk.injEq, true_and]
              omega
        · refine .inr ⟨(pB _).2 ⟨r, hr1, d, hd1, s, hs, by omega, ?_⟩, ?_⟩
          · simp only [Spell.mk.injEq, true_and, and_true]
            omega
          · rw [Bool.not_eq_true', List.any_eq_false]
            intro x hx hf
            have hf := (fits_iff _ _).1 hf
            obtain ⟨r', hr2, d', hd2, s', hs', hlt', rfl⟩ := (pA x).1 hx
            dsimp only at hf
            obtain ⟨rfl, rfl, rfl⟩ := unit_same hr hl hr1 hr2 hs hs' hf.2.2.2 hf.2.2.1 (by omega) (by omega)
            omega
  have hT : Told spKey (A.map (joinA c B) ++ B.filter fun s => !A.any fun x => fitsJ c x s) := fun a ha b hb => raw_told hr hl _ a (hperm.subset ha) b (hperm.subset hb)
  rw [sort3_congr spKey hT hperm]
  rfl

end Go.Proofs.YteandmolnbcmmaaGreatDoor

namespace Go.Proofs.YteandmolnbcmmaaGreatDoor

structure Edge where
  at_ : Int
  rule : Int
  by_ : Int

def edgesK (k : Int) (S : List Span) : List Edge := S.flatMap fun s => [⟨s.1, k, 1⟩, ⟨s.2, k, -1⟩]

theorem flatMap_two {α β : Type} (f g : α → List β) : ∀ l : List α, (l.flatMap f ++ l.flatMap g).Perm (l.flatMap fun x => f x ++ g x)
  | [] => by simp
  | a :: l => by
    simp only [List.flatMap_cons, List.append_assoc]
    refine (List.Perm.refl _).append ?_
    refine (List.perm_append_comm_assoc _ _ _).trans ?_
    exact (List.Perm.refl _).append (flatMap_two f g l)

/-- The times. -/
def timesT (S : List Span) : List Int := S.flatMap fun s => [s.1, s.2]

theorem timesT_length (S : List Span) : (timesT S).length = 2 * S.length := by
  induction S with
  | nil => rfl
  | cons s S ih => simp only [timesT, List.flatMap_cons, List.length_append, List.length_cons, List.length_nil] at *; omega

theorem timesT_even {S : List Span} {m : Nat} {s : Span} (h : S[m]? = some s) : (timesT S)[2 * m]? = some s.1 ∧ (timesT S)[2 * m + 1]? = some s.2 := by
  induction S generalizing m with
  | nil => simp at h
  | cons a S ih =>
    cases m with
    | zero =>
      simp at h
      subst h
      exact ⟨rfl, rfl⟩
    | succ m =>
      have := ih (m := m) (by simpa using h)
      simp only [timesT, List.flatMap_cons] at this ⊢
      rw [show 2 * (m + 1) = 2 * m + 1 + 1 by omega]
      exact this

theorem split_sorted {τ : Int} : ∀ {E : List Edge}, E.Pairwise (fun a b => ¬ b.at_ < a.at_) → E = (E.filter fun e => decide (e.at_ ≤ τ)) ++ (E.filter fun e => !decide (e.at_ ≤ τ))
  | [], _ => rfl
  | a :: E, h => by
    have h' := List.pairwise_cons.1 h
    by_cases ha : a.at_ ≤ τ
    · rw [List.filter_cons, if_pos (by simpa using ha), List.filter_cons, if_neg (by simpa using ha), List.cons_append, ← split_sorted h'.2]
    · have hn : ∀ e ∈ E, ¬ e.at_ ≤ τ := fun e he => by have := h'.1 e he; omega
      have e1 : (E.filter fun e => decide (e.at_ ≤ τ)) = [] := by
        rw [List.filter_eq_nil_iff]; intro e he; simpa using hn e he
      have e2 : (E.filter fun e => !decide (e.at_ ≤ τ)) = E := by
        rw [List.filter_eq_self]; intro e he; simpa using hn e he
      rw [List.filter_cons, if_neg (by simpa using ha), List.filter_cons, if_pos (by simpa using ha), e1, e2, List.nil_append]

/-- Both rules' edges at one time. -/
def PairAt (t b : Int) (g : List Edge) : Prop := ∃ k : Int, (k = 0 ∨ k = 1) ∧ g = [⟨t, k, b⟩, ⟨t, 1 - k, b⟩]

theorem pair_of {t b : Int} {g : List Edge} (h : g.Perm [⟨t, 0, b⟩, ⟨t, 1, b⟩]) : PairAt t b g := by
  match g, h.length_eq with
  | [x, y], _ =>
    have hx : x ∈ [(⟨t, 0, b⟩ : Edge), ⟨t, 1, b⟩] := h.subset (by simp)
    simp only [List.mem_cons, List.not_mem_nil, or_false] at hx
    rcases hx with rfl | rfl
    · have h1 := (List.perm_cons _).1 h
      have := h1.subset (List.mem_singleton.2 rfl)
      simp only [List.mem_cons, List.not_mem_nil, or_false] at this
      subst this
      exact ⟨0, .inl rfl, rfl⟩
    · have h1 := (List.perm_cons _).1 (h.trans (List.Perm.swap _ _ _))
      have := h1.subset (List.mem_singleton.2 rfl)
      simp only [List.mem_cons, List.not_mem_nil, or_false] at this
      subst this
      exact ⟨1, .inr rfl, rfl⟩

theorem front {τ : Int} {E G R : List Edge} (hs : E.Pairwise (fun a b => ¬ b.at_ < a.at_)) (hp : E.Perm (G ++ R)) (hG : ∀ e ∈ G, e.at_ ≤ τ) (hR : ∀ e ∈ R, τ < e.at_) :
    ∃ E1 E2, E = E1 ++ E2 ∧ E1.Perm G ∧ E2.Perm R ∧ E2.Pairwise (fun a b => ¬ b.at_ < a.at_) := by
  refine ⟨_, _, split_sorted (τ := τ) hs, ?_, ?_, hs.sublist List.filter_sublist⟩
  · refine (hp.filter _).trans ?_
    rw [List.filter_append, List.filter_eq_self.2 (by intro e he; simpa using hG e he), List.filter_eq_nil_iff.2 (by intro e he; have := hR e he; simp; omega), List.append_nil]
  · refine (hp.filter _).trans ?_
    rw [List.filter_append, List.filter_eq_nil_iff.2 (by intro e he; simpa using hG e he), List.filter_eq_self.2 (by intro e he; have := hR e he; simp; omega), List.nil_append]

/-- The edges of two rules that have the same spans. -/
def edges4 (S : List Span) : List Edge := S.flatMap fun s => [⟨s.1, 0, 1⟩, ⟨s.1, 1, 1⟩] ++ [⟨s.2, 0, -1⟩, ⟨s.2, 1, -1⟩]

theorem edges_four (S : List Span) : (edgesK 0 S ++ edgesK 1 S).Perm (edges4 S) := by
  refine (flatMap_two _ _ S).trans ?_
  unfold edges4
  refine flatMap_perm fun s _ => ?_
  exact List.Perm.cons _ (List.Perm.swap _ _ _)

/-- Each two at one time, the times rising. -/
inductive Paired : List Span → List Edge → Prop
  | nil : Paired [] []
  | cons {s : Span} {S : List Span} {g h E : List Edge} : PairAt s.1 1 g → PairAt s.2 (-1) h → Paired S E → Paired (s :: S) (g ++ (h ++ E))

theorem paired_of : ∀ {S : List Span} {E : List Edge}, S.Pairwise (fun a b => a.2 < b.1) → (∀ s ∈ S, s.1 < s.2) → E.Pairwise (fun a b => ¬ b.at_ < a.at_) → E.Perm (edges4 S) → Paired S E
  | [], E, _, _, _, hp => by
    have : E = [] := List.Perm.eq_nil hp
    subst this
    exact .nil
  | s :: S, E, hS, hl, hs, hp => by
    have hS' := List.pairwise_cons.1 hS
    have hsl := hl s (by simp)
    unfold edges4 at hp
    rw [List.flatMap_cons, List.append_assoc] at hp
    have hrest : ∀ e ∈ edges4 S, s.2 < e.at_ := by
      intro e he
      obtain ⟨x, hx, he⟩ := List.mem_flatMap.1 he
      have h1 := hS'.1 x hx
      have h2 := hl x (by simp [hx])
      simp only [List.cons_append, List.nil_append, List.mem_cons, List.not_mem_nil, or_false] at he
      rcases he with rfl | rfl | rfl | rfl <;> dsimp only <;> omega
    obtain ⟨g, E1, rfl, hg, hp1, hs1⟩ := front (τ := s.1) hs hp (by
      intro e he
      simp only [List.mem_cons, List.not_mem_nil, or_false] at he
      rcases he with rfl | rfl <;> exact Int.le_refl _) (by
      intro e he
      rcases List.mem_append.1 he with he | he
      · simp only [List.mem_cons, List.not_mem_nil, or_false] at he
        rcases he with rfl | rfl <;> exact hsl
      · have := hrest e he; omega)
    obtain ⟨h, E2, rfl, hh, hp2, hs2⟩ := front (τ := s.2) hs1 hp1 (by
      intro e he
      simp only [List.mem_cons, List.not_mem_nil, or_false] at he
      rcases he with rfl | rfl <;> exact Int.le_refl _) (fun e he => hrest e he)
    exact .cons (pair_of hg) (pair_of hh) (paired_of hS'.2 (fun x hx => hl x (by simp [hx])) hs2 hp2)

theorem Paired.length {S : List Span} {E : List Edge} (h : Paired S E) : E.length = 4 * S.length := by
  induction h with
  | nil => rfl
  | cons hg hh _ ih =>
    obtain ⟨_, _, rfl⟩ := hg
    obtain ⟨_, _, rfl⟩ := hh
    simp only [List.length_append, List.length_cons, List.length_nil]
    omega

/-- What stands at the m-th span's four edges. -/
theorem Paired.at_ {S : List Span} {E : List Edge} (h : Paired S E) {m : Nat} {s : Span} (hm : S[m]? = some s) :
    ∃ k k' : Int, (k = 0 ∨ k = 1) ∧ (k' = 0 ∨ k' = 1) ∧ E[4 * m]? = some ⟨s.1, k, 1⟩ ∧ E[4 * m + 1]? = some ⟨s.1, 1 - k, 1⟩ ∧ E[4 * m + 2]? = some ⟨s.2, k', -1⟩ ∧ E[4 * m + 3]? = some ⟨s.2, 1 - k', -1⟩ := by
  induction h generalizing m with
  | nil => simp at hm
  | cons hg hh _ ih =>
    obtain ⟨k, hk, rfl⟩ := hg
    obtain ⟨k', hk', rfl⟩ := hh
    cases m with
    | zero =>
      simp at hm
      subst hm
      exact ⟨k, k', hk, hk', rfl, rfl, rfl, rfl⟩
    | succ m =>
      obtain ⟨a, b, h1, h2, h3, h4, h5, h6⟩ := ih (m := m) (by simpa using hm)
      refine ⟨a, b, h1, h2, ?_, ?_, ?_, ?_⟩
      · rw [show 4 * (m + 1) = 4 * m + 1 + 1 + 1 + 1 by omega]; exact h3
      · rw [show 4 * (m + 1) + 1 = 4 * m + 1 + 1 + 1 + 1 + 1 by omega]; exact h4
      · rw [show 4 * (m + 1) + 2 = 4 * m + 2 + 1 + 1 + 1 + 1 by omega]; exact h5
      · rw [show 4 * (m + 1) + 3 = 4 * m + 3 + 1 + 1 + 1 + 1 by omega]; exact h6

end Go.Proofs.YteandmolnbcmmaaGreatDoor

namespace Go.Proofs.YteandmolnbcmmaaGreatDoor

def noRule (s : Spell) : Spell := { s with rule := ByteArray.empty }

/-- The spans of a device. -/
def spansD (C : List Spell) (d : ByteArray) : List Span := (C.filter fun s => decide (s.device = d)).map fun s => (s.from_, s.to_)

/-- Spells of one rule: of each device, one behind the other. -/
structure ApartS (C : List Spell) : Prop where
  pw : C.Pairwise fun a b => a.device = b.device → a.to_ < b.from_
  lt : ∀ s ∈ C, s.from_ < s.to_

theorem cut_apart {r : Rule} {l : List Samp} (hr : GoodR r) (hl : GoodL l) (w : Int × Int) : ApartS (cutS w (whole r l)) := by
  rw [cutS_whole]
  have hcp : ∀ d, (cutL w.1 w.2 (spansOf r (seen r.metric d l))).Pairwise (fun a b => a.2 < b.1) ∧ ∀ s ∈ cutL w.1 w.2 (spansOf r (seen r.metric d l)), s.1 < s.2 :=
    fun d => cutL_apart (spansOf_apart hr (seen r.metric d l) (seen_sorted hl.order _ _) (seen_good hl.each _ _)) w.1 w.2
  refine ⟨pw_flatMap (fun d _ => ?_) ((devs_sorted r.metric l).imp fun {a b} hab x hx y hy e => ?_), fun s hs => ?_⟩
  · unfold unit
    rw [List.pairwise_map]
    refine (hcp d).1.imp fun {a b} h _ => ?_
    exact h
  · rw [(mem_unit hx).1, (mem_unit hy).1] at e
    rw [e] at hab
    exact absurd hab (sLt_irrefl _)
  · obtain ⟨d, _, hs⟩ := List.mem_flatMap.1 hs
    obtain ⟨x, hx, rfl⟩ := List.mem_map.1 hs
    exact (hcp d).2 x hx

theorem ApartS.spans {C : List Spell} (h : ApartS C) (d : ByteArray) : (spansD C d).Pairwise (fun a b => a.2 < b.1) ∧ ∀ s ∈ spansD C d, s.1 < s.2 := by
  unfold spansD
  refine ⟨?_, fun s hs => ?_⟩
  · rw [List.pairwise_map]
    refine List.Pairwise.imp_of_mem ?_ (h.pw.sublist List.filter_sublist)
    intro a b ha hb hab
    have h1 := (List.mem_filter.1 ha).2
    have h2 := (List.mem_filter.1 hb).2
    simp only [decide_eq_true_eq] at h1 h2
    exact hab (by rw [h1, h2])
  · obtain ⟨x, hx, rfl⟩ := List.mem_map.1 hs
    exact h.lt x (List.mem_filter.1 hx).1

theorem filter_part {α : Type} (p : α → Bool) : ∀ l : List α, (l.filter p ++ l.filter fun x => !p x).Perm l
  | [] => by simp
  | a :: l => by
    by_cases h : p a = true
    · rw [List.filter_cons, if_pos h, List.filter_cons, if_neg (by simp [h]), List.cons_append]
      exact (filter_part p l).cons a
    · rw [List.filter_cons, if_neg h, List.filter_cons, if_pos (by simpa using h)]
      exact List.perm_middle.trans ((filter_part p l).cons a)

/-- Device by device, in whatever order: all. -/
theorem by_device : ∀ {D : List ByteArray} {C : List Spell}, D.Nodup → (∀ s ∈ C, s.device ∈ D) → (D.flatMap fun d => C.filter fun s => decide (s.device = d)).Perm C
  | [], C, _, h => by
    have : C = [] := by
      cases C with
      | nil => rfl
      | cons s C => have := h s (by simp); simp at this
    subst this
    simp
  | d :: D, C, hD, h => by
    have hD' := List.nodup_cons.1 hD
    rw [List.flatMap_cons]
    refine List.Perm.trans ?_ (filter_part (fun s => decide (s.device = d)) C)
    refine (List.Perm.refl _).append ?_
    have ih := by_device (D := D) (C := C.filter fun s => !decide (s.device = d)) hD'.2 (fun s hs => by
      have h1 := List.mem_filter.1 hs
      have h2 := h s h1.1
      have h3 : s.device ≠ d := by simpa using h1.2
      rcases List.mem_cons.1 h2 with e | e
      · exact absurd e h3
      · exact e)
    refine List.Perm.trans (List.Perm.of_eq ?_) ih
    refine flatMap_congr' fun x hx => ?_
    rw [List.filter_filter]
    refine List.filter_congr fun s _ => ?_
    by_cases e : s.device = x
    · have hxd : ¬ x = d := fun e => hD'.1 (by rw [← e]; exact hx)
      simp [e, hxd]
    · simp [e]

theorem spansD_mk (C : List Spell) (d : ByteArray) : (spansD C d).map (fun s => (⟨d, ByteArray.empty, s.1, s.2⟩ : Spell)) = (C.filter fun s => decide (s.device = d)).map noRule := by
  unfold spansD
  rw [List.map_map]
  refine List.map_congr_left fun s hs => ?_
  have := (List.mem_filter.1 hs).2
  simp only [decide_eq_true_eq] at this
  subst this
  rfl

/-- What both rules give at once, device by device. -/
theorem both_perm {C : List Spell} {D : List ByteArray} (hD : D.Nodup) (h : ∀ s ∈ C, s.device ∈ D) : (D.flatMap fun d => (spansD C d).map fun s => (⟨d, ByteArray.empty, s.1, s.2⟩ : Spell)).Perm (C.map noRule) := by
  have h1 : (D.flatMap fun d => (spansD C d).map fun s => (⟨d, ByteArray.empty, s.1, s.2⟩ : Spell)) = (D.flatMap fun d => C.filter fun s => decide (s.device = d)).map noRule := by
    rw [List.map_flatMap]
    exact flatMap_congr' fun d _ => spansD_mk C d
  rw [h1]
  exact (by_device hD h).map noRule

theorem lt3_noRule {a b : Spell} (h : a.rule = b.rule) : lt3 (spKey (noRule a)) (spKey (noRule b)) ↔ lt3 (spKey a) (spKey b) := by
  unfold lt3 spKey noRule
  dsimp only
  rw [h]
  constructor
  · rintro (h | ⟨h, h2 | ⟨_, h3⟩⟩)
    · exact .inl h
    · exact .inr ⟨h, .inl h2⟩
    · exact absurd h3 (sLt_irrefl _)
  · rintro (h | ⟨h, h2 | ⟨_, h3⟩⟩)
    · exact .inl h
    · exact .inr ⟨h, .inl h2⟩
    · exact absurd h3 (sLt_irrefl _)

/-- BOTH OF TWO RULES THAT ARE THE SAME FIRE AT ONCE JUST WHERE ONE DOES. -/
theorem law_twins {x : Rule} {l : List Samp} {w : Int × Int} {B : List Spell} (hr : GoodRs [x]) (hl : GoodL l) (hp : B.Perm ((cutS w (whole x l)).map noRule)) : sort3 spKey B = (spells [x] l w).map noRule := by
  have hraw := rawOf_one x l w
  have ht := raw_told hr hl w
  have hrule : ∀ s ∈ rawOf [x] l w, s.rule = x.key := by
    intro s hs
    obtain ⟨r, hr1, hs2, _⟩ := mem_raw hs
    simp at hr1
    subst hr1
    exact (mem_unit hs2).2.1
  rw [← hraw] at hp
  have ht2 : Told spKey ((rawOf [x] l w).map noRule) := by
    intro a ha b hb e
    obtain ⟨a, ha2, rfl⟩ := List.mem_map.1 ha
    obtain ⟨b, hb2, rfl⟩ := List.mem_map.1 hb
    have e1 := hrule a ha2
    have e2 := hrule b hb2
    have : a = b := by
      refine ht a ha2 b hb2 ?_
      simp only [spKey, noRule, Prod.mk.injEq, and_true] at e
      unfold spKey
      rw [e.1, e.2, e1, e2]
    rw [this]
  have hs : ((spells [x] l w).map noRule) = sort3 spKey ((rawOf [x] l w).map noRule) := by
    refine sort3_of spKey ht2 ((sort3_perm spKey _).map noRule) ?_
    rw [List.pairwise_map]
    refine List.Pairwise.imp_of_mem ?_ (sort3_sorted spKey (rawOf [x] l w))
    intro a b ha hb hab
    have e1 := hrule a ((sort3_perm spKey _).subset ha)
    have e2 := hrule b ((sort3_perm spKey _).subset hb)
    rw [lt3_noRule (by rw [e1, e2])]
    exact hab
  rw [hs]
  exact sort3_congr spKey (fun a ha b hb => ht2 a (hp.subset ha) b (hp.subset hb)) hp

end Go.Proofs.YteandmolnbcmmaaGreatDoor

namespace Go.Proofs.YteandmolnbcmmaaGreatDoor

theorem ruleFault_none {p : Option Rule} {r : Rule} (h : ruleFault p r = 0) : ruleFault none r = 0 := by
  unfold ruleFault at h ⊢
  by_cases h1 : keyB r.key = false
  · rw [if_pos h1] at h; omega
  rw [if_neg h1] at h ⊢
  by_cases h2 : ∃ q, p = some q ∧ ¬ sLt q.key r.key
  · rw [if_pos h2] at h; omega
  rw [if_neg h2] at h
  rw [if_neg (by rintro ⟨q, hq, _⟩; cases hq)]
  exact h

theorem chkRFrom_each : ∀ (p : Option Rule) (l : List Rule), chkRFrom p l = 0 → ∀ r ∈ l, ruleFault none r = 0
  | _, [], _, r, hr => by simp at hr
  | p, x :: l, h, r, hr => by
    have hs : chkRFrom p (x :: l) = if ruleFault p x ≠ 0 then ruleFault p x else chkRFrom (some x) l := rfl
    rw [hs] at h
    by_cases h1 : ruleFault p x = 0
    · rw [if_neg (by simp [h1])] at h
      rcases List.mem_cons.1 hr with rfl | hr
      · exact ruleFault_none h1
      · exact chkRFrom_each (some x) l h r hr
    · rw [if_pos h1] at h; exact absurd h h1

theorem chkR_one {rs : List Rule} (h : chkR rs = 0) {r : Rule} (hr : r ∈ rs) : chkR [r] = 0 := by
  unfold chkR at h ⊢
  split at h
  · omega
  · have := chkRFrom_each none rs h r hr
    rw [if_neg (by simp)]
    have hs : chkRFrom none [r] = if ruleFault none r ≠ 0 then ruleFault none r else 0 := rfl
    rw [hs, this]
    simp

theorem chkSFrom_each : ∀ (p : Option Samp) (l : List Samp), chkSFrom p l = 0 → ∀ s ∈ l, sampFault s = 0
  | _, [], _, r, hr => by simp at hr
  | p, x :: l, h, r, hr => by
    have hs : chkSFrom p (x :: l) = if sampFault x ≠ 0 then sampFault x else if ∃ q, p = some q ∧ ¬ lt3 (sampKey q) (sampKey x) then 7 else chkSFrom (some x) l := rfl
    rw [hs] at h
    by_cases h1 : sampFault x = 0
    · rw [if_neg (by simp [h1])] at h
      by_cases h2 : ∃ q, p = some q ∧ ¬ lt3 (sampKey q) (sampKey x)
      · rw [if_pos h2] at h; omega
      · rw [if_neg h2] at h
        rcases List.mem_cons.1 hr with rfl | hr
        · exact h1
        · exact chkSFrom_each (some x) l h r hr
    · rw [if_pos h1] at h; exact absurd h h1

theorem chkSFrom_zero : ∀ (p : Option Samp) (l : List Samp), (∀ s ∈ l, sampFault s = 0) → l.Pairwise (fun a b => lt3 (sampKey a) (sampKey b)) → (∀ q, p = some q → ∀ s ∈ l, lt3 (sampKey q) (sampKey s)) → chkSFrom p l = 0
  | _, [], _, _, _ => rfl
  | p, x :: l, h, ho, hp => by
    have ho' := List.pairwise_cons.1 ho
    have hs : chkSFrom p (x :: l) = if sampFault x ≠ 0 then sampFault x else if ∃ q, p = some q ∧ ¬ lt3 (sampKey q) (sampKey x) then 7 else chkSFrom (some x) l := rfl
    rw [hs, if_neg (by simp [h x (by simp)]), if_neg]
    · exact chkSFrom_zero (some x) l (fun s hs => h s (by simp [hs])) ho'.2 fun q hq s hs => by cases hq; exact ho'.1 s hs
    · rintro ⟨q, hq, hn⟩
      exact hn (hp q hq x (by simp))

theorem chkS_sub {l m : List Samp} (h : chkS l = 0) (hs : m.Sublist l) : chkS m = 0 := by
  have hg := chkS_ok h
  unfold chkS at h ⊢
  split at h
  · omega
  · have hl := hs.length_le
    rw [if_neg (by omega)]
    exact chkSFrom_zero none m (fun s hm => chkSFrom_each none l h s (hs.subset hm)) (hg.order.sublist hs) (by simp)

theorem fault_zero {rs : List Rule} {l : List Samp} {w : Int × Int} (h1 : chkR rs = 0) (h2 : chkS l = 0) (h3 : winOk w) : faultOf rs l w = 0 := by
  unfold faultOf
  rw [if_neg (by simp [h1]), if_neg (by simp [h2]), if_pos h3]

end Go.Proofs.YteandmolnbcmmaaGreatDoor
