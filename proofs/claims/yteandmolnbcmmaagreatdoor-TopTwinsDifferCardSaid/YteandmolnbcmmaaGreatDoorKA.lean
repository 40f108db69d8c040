/- The plain twin of package rule: samples, rules, the track machine, and what of it is true. No program in sight. The plain twin of package rule: the spans of a rule come one behind the other; and what is the same if values are others. The plain twin of package rule: which rules come to the same with other values. No condition beyond what each theorem states. -/

namespace Go.Proofs.YteandmolnbcmmaaGreatDoor

/-- A value at a moment. -/
abbrev Sm := Int × Int
abbrev Span := Int × Int

structure Rule where
  key : ByteArray
  metric : ByteArray
  agg : Int
  long : Int
  above : Bool
  on : Int
  off : Int
  hold : Int
  rest : Int
  empty : Int

structure Samp where
  device : ByteArray
  metric : ByteArray
  at_ : Int
  value : Int

structure Spell where
  device : ByteArray
  rule : ByteArray
  from_ : Int
  to_ : Int

abbrev END : Int := 345686400000
abbrev MAXN : Int := 1000000000
abbrev MAXL : Int := 2592000000

/-- The suffix minima of a window: those that can become the least one. -/
def lmin : List Sm → List Sm
  | [] => []
  | a :: l => match lmin l with
    | [] => [a]
    | b :: m => if a.2 < b.2 then a :: b :: m else b :: m

def lmax : List Sm → List Sm
  | [] => []
  | a :: l => match lmax l with
    | [] => [a]
    | b :: m => if b.2 < a.2 then a :: b :: m else b :: m

def sumV : List Sm → Int
  | [] => 0
  | a :: l => a.2 + sumV l

def firstV (l : List Sm) : Int := match l with | [] => 0 | a :: _ => a.2
def lastV (l : List Sm) : Int := firstV l.reverse

/-- What a window comes to, and by how much the limits are multiplied. -/
def valueOf (agg : Int) (l : List Sm) : Int × Int :=
  if agg = 1 then (lastV l, 1)
  else if agg = 2 then (firstV (lmin l), 1)
  else if agg = 3 then (firstV (lmax l), 1)
  else if agg = 4 then (sumV l, l.length)
  else if agg = 5 then (l.length, 1)
  else if agg = 6 then (lastV l - firstV l, 1)
  else (0, 1)

/-- Where a value stands between two limits. -/
def standAt (above : Bool) (v on off : Int) : Int :=
  if above then (if on ≤ v then 1 else if v < off then 2 else 0)
  else (if -on ≤ -v then 1 else if -v < -off then 2 else 0)

def nowOf (r : Rule) (l : List Sm) : Int :=
  if l = [] ∧ r.agg ≠ 5 then (if r.empty = 0 then 0 else if r.empty = 1 then 2 else 1)
  else standAt r.above (valueOf r.agg l).1 (r.on * (valueOf r.agg l).2) (r.off * (valueOf r.agg l).2)

structure Tk where
  win : List Sm
  state : Int
  since : Int
  firing : Bool
  began : Int
  out : List Span

def dropW (long at_ : Int) (l : List Sm) : List Sm := l.dropWhile fun s => decide (s.1 + long ≤ at_)

def upd (r : Rule) (at_ : Int) (t : Tk) : Tk :=
  if nowOf r t.win = t.state then t else { t with state := nowOf r t.win, since := at_ }

def turnOf (r : Rule) (t : Tk) : Int :=
  if t.firing = false ∧ t.state = 1 then t.since + r.hold
  else if t.firing = true ∧ t.state = 2 then t.since + r.rest
  else END

def dueOf (r : Rule) (t : Tk) : Int :=
  match t.win with
  | [] => min (turnOf r t) END
  | s :: _ => min (min (turnOf r t) END) (s.1 + r.long)

def setTo (l : List Span) (at_ : Int) : List Span := l.dropLast ++ (match l.getLast? with | some s => [(s.1, at_)] | none => [])

def toggle (at_ : Int) (t : Tk) : Tk :=
  if t.firing then { t with firing := false, out := setTo t.out at_ }
  else { t with firing := true, began := at_, out := t.out ++ [(at_, END)] }

def stepAt (r : Rule) (at_ : Int) (t : Tk) : Tk :=
  let u := upd r at_ { t with win := dropW r.long at_ t.win }
  if turnOf r u = at_ then toggle at_ u else u

def advF (r : Rule) (before : Int) : Nat → Tk → Tk
  | 0, t => t
  | f + 1, t => if min before END ≤ dueOf r t then t else advF r before f (stepAt r (dueOf r t) t)

/-- How many steps can come at most. -/
def pot (r : Rule) (t : Tk) : Nat := 2 * t.win.length + (if turnOf r t < END then 1 else 0)

def adv (r : Rule) (before : Int) (t : Tk) : Tk := advF r before (pot r t) t

def putS (r : Rule) (s : Sm) (t : Tk) : Tk := upd r s.1 { t with win := dropW r.long s.1 t.win ++ [s] }

def init (r : Rule) : Tk := ⟨[], nowOf r [], 0, false, 0, []⟩

def feed (r : Rule) (l : List Sm) (t : Tk) : Tk := l.foldl (fun t s => putS r s (adv r s.1 t)) t

def spansOf (r : Rule) (l : List Sm) : List Span := (adv r END (feed r l (init r))).out

/-! ### What the walk wants: the invariant -/

def SortedS (l : List Sm) : Prop := l.Pairwise fun a b => a.1 < b.1
def GoodS (l : List Sm) : Prop := ∀ s ∈ l, 0 ≤ s.1 ∧ s.1 < END ∧ -MAXN ≤ s.2 ∧ s.2 ≤ MAXN

structure GoodR (r : Rule) : Prop where
  agg : 1 ≤ r.agg ∧ r.agg ≤ 6
  long : 1 ≤ r.long ∧ r.long ≤ MAXL
  on : -MAXN ≤ r.on ∧ r.on ≤ MAXN
  off : -MAXN ≤ r.off ∧ r.off ≤ MAXN
  lim : (r.above = true → r.off ≤ r.on) ∧ (r.above = false → r.on ≤ r.off)
  hold : 0 ≤ r.hold ∧ r.hold ≤ MAXL
  rest : 0 ≤ r.rest ∧ r.rest ≤ MAXL
  empty : 0 ≤ r.empty ∧ r.empty ≤ 2

/-- The invariant of a track that has taken p samples. -/
structure Inv (r : Rule) (p : Nat) (t : Tk) : Prop where
  now : t.state = nowOf r t.win
  since : 0 ≤ t.since ∧ t.since ≤ END
  sorted : SortedS t.win
  good : GoodS t.win
  some : t.firing = true → t.out ≠ []
  room : t.out.length + t.win.length + (if t.firing = false ∧ t.state = 1 then 1 else 0) ≤ 2 * p + 1
  few : t.win.length ≤ p

theorem nowOf_range (r : Rule) (l : List Sm) : 0 ≤ nowOf r l ∧ nowOf r l ≤ 2 := by
  unfold nowOf standAt
  repeat' split
  all_goals omega

theorem dropW_length (long at_ : Int) (l : List Sm) : (dropW long at_ l).length ≤ l.length :=
  (List.dropWhile_sublist _).length_le

theorem dropW_sorted {long at_ : Int} {l : List Sm} (h : SortedS l) : SortedS (dropW long at_ l) := List.Pairwise.sublist (List.dropWhile_sublist _) h
theorem dropW_good {long at_ : Int} {l : List Sm} (h : GoodS l) : GoodS (dropW long at_ l) := fun s hs => h s ((List.dropWhile_sublist _).subset hs)

theorem dropW_cons (long at_ : Int) (a : Sm) (l : List Sm) : dropW long at_ (a :: l) = if a.1 + long ≤ at_ then dropW long at_ l else a :: l := by
  unfold dropW
  rw [List.dropWhile_cons]
  by_cases h : a.1 + long ≤ at_ <;> simp [h]

theorem dropW_nil (long at_ : Int) : dropW long at_ [] = [] := rfl

theorem init_inv (r : Rule) : Inv r 0 (init r) := by
  refine ⟨rfl, by simp [init], by simp [init, SortedS], by simp [init, GoodS], by simp [init], ?_, by simp [init]⟩
  simp only [init, List.length_nil]
  split <;> omega

theorem setTo_length {l : List Span} (at_ : Int) (h : l ≠ []) : (setTo l at_).length = l.length := by
  unfold setTo
  rw [List.getLast?_eq_some_getLast h]
  have : 0 < l.length := List.length_pos_iff.2 h
  simp
  omega

/-- One step keeps the invariant. -/
theorem stepAt_inv {r : Rule} {p : Nat} {t : Tk} (h : Inv r p t) (hd : 0 ≤ dueOf r t) (hE : dueOf r t < END) : Inv r p (stepAt r (dueOf r t) t) := by
  generalize hat : dueOf r t = at_ at *
  have hl := dropW_length r.long at_ t.win
  have hrn : t.out.length + t.win.length + (if t.firing = false ∧ t.state = 1 then 1 else 0) ≤ 2 * p + 1 := h.room
  have hrm : t.out.length + (dropW r.long at_ t.win).length + (if t.firing = false ∧ nowOf r (dropW r.long at_ t.win) = 1 then 1 else 0) ≤ 2 * p + 1 := by
    by_cases he : dropW r.long at_ t.win = t.win
    · rw [he, ← h.now]; exact hrn
    · have hlt : (dropW r.long at_ t.win).length < t.win.length := by
        rcases Nat.lt_or_ge (dropW r.long at_ t.win).length t.win.length with hlt | hge
        · exact hlt
        · exact absurd ((List.dropWhile_sublist _).eq_of_length (by unfold dropW at hge hl; omega)) he
      split <;> omega
  have hu : upd r at_ { t with win := dropW r.long at_ t.win } = { t with win := dropW r.long at_ t.win, state := nowOf r (dropW r.long at_ t.win), since := (upd r at_ { t with win := dropW r.long at_ t.win }).since } := by
    unfold upd
    dsimp only
    split
    · rename_i e; rw [e]
    · rfl
  have hs : 0 ≤ (upd r at_ { t with win := dropW r.long at_ t.win }).since ∧ (upd r at_ { t with win := dropW r.long at_ t.win }).since ≤ END := by
    unfold upd
    dsimp only
    split
    · exact h.since
    · dsimp only; omega
  unfold stepAt
  dsimp only
  generalize (upd r at_ { t with win := dropW r.long at_ t.win }).since = sn at hu hs
  rw [hu]
  split
  · rename_i htu
    unfold toggle
    dsimp only
    cases hf : t.firing with
    | true =>
      simp only [if_true]
      refine ⟨rfl, hs, dropW_sorted h.sorted, dropW_good h.good, by simp, ?_, Nat.le_trans hl h.few⟩
      dsimp only
      rw [setTo_length _ (h.some hf)]
      have hst : nowOf r (dropW r.long at_ t.win) = 2 := by
        unfold turnOf at htu
        dsimp only at htu
        rw [hf] at htu
        simp at htu
        split at htu
        · assumption
        · omega
      rw [hst]
      simp
      rw [hf] at hrm
      simp at hrm
      omega
    | false =>
      simp only [Bool.false_eq_true, if_false]
      refine ⟨rfl, hs, dropW_sorted h.sorted, dropW_good h.good, by simp, ?_, Nat.le_trans hl h.few⟩
      dsimp only
      have hst : nowOf r (dropW r.long at_ t.win) = 1 := by
        unfold turnOf at htu
        dsimp only at htu
        rw [hf] at htu
        simp at htu
        split at htu
        · assumption
        · omega
      simp [hf, hst] at hrm ⊢
      omega
  · exact ⟨rfl, hs, dropW_sorted h.sorted, dropW_good h.good, h.some, hrm, Nat.le_trans hl h.few⟩

/-- One step comes nearer to the end. -/
theorem stepAt_pot {r : Rule} {p : Nat} {t : Tk} (h : Inv r p t) (hE : dueOf r t < END) : pot r (stepAt r (dueOf r t) t) < pot r t := by
  have hw : (stepAt r (dueOf r t) t).win = dropW r.long (dueOf r t) t.win := by
    unfold stepAt upd toggle
    dsimp only
    repeat' split
    all_goals rfl
  generalize hat : dueOf r t = at_ at *
  by_cases he : dropW r.long at_ t.win = t.win
  · -- nothing is dropped: it begins or ends
    have htn : turnOf r t = at_ := by
      unfold dueOf at hat
      split at hat
      · omega
      · rename_i s l hc
        rw [hc, dropW_cons] at he
        split at he
        · have := dropW_length r.long at_ l
          rw [he] at this
          simp at this
          omega
        · omega
    have hu : upd r at_ { t with win := dropW r.long at_ t.win } = t := by
      unfold upd
      dsimp only
      rw [he, ← h.now, if_pos rfl]
    unfold stepAt
    dsimp only
    rw [hu, if_pos htn]
    unfold pot
    rw [if_pos (show turnOf r t < END by omega)]
    have h2 : turnOf r (toggle at_ t) = END := by
      unfold turnOf toggle
      unfold turnOf at htn
      cases hf : t.firing with
      | true =>
        simp [hf] at htn ⊢
        split at htn
        · intro h1; omega
        · omega
      | false =>
        simp [hf] at htn ⊢
        split at htn
        · intro h1; omega
        · omega
    have h3 : (toggle at_ t).win = t.win := by unfold toggle; split <;> rfl
    rw [h2, h3]
    simp
  · have hlt : (dropW r.long at_ t.win).length < t.win.length := by
      rcases Nat.lt_or_ge (dropW r.long at_ t.win).length t.win.length with hlt | hge
      · exact hlt
      · exact absurd ((List.dropWhile_sublist _).eq_of_length (by have := dropW_length r.long at_ t.win; unfold dropW at *; omega)) he
    unfold pot
    rw [hw]
    split <;> split <;> omega

theorem turnOf_nonneg {r : Rule} {p : Nat} {t : Tk} (hr : GoodR r) (h : Inv r p t) : 0 ≤ turnOf r t := by
  unfold turnOf
  have := h.since; have := hr.hold; have := hr.rest
  repeat' split
  all_goals omega

theorem dueOf_nonneg {r : Rule} {p : Nat} {t : Tk} (hr : GoodR r) (h : Inv r p t) : 0 ≤ dueOf r t := by
  have ht := turnOf_nonneg hr h
  have hE : (0 : Int) ≤ END := by decide
  unfold dueOf
  split
  · omega
  · rename_i s l hc
    have := h.good s (by rw [hc]; simp)
    have := hr.long
    omega

/-- More rounds than are wanted change nothing. -/
theorem advF_enough {r : Rule} {before : Int} (hr : GoodR r) {p : Nat} : ∀ (f g : Nat) (t : Tk), Inv r p t → pot r t ≤ f → pot r t ≤ g → advF r before f t = advF r before g t
  | 0, 0, _, _, _, _ => rfl
  | 0, g + 1, t, h, hf, _ => by
    have hp : pot r t = 0 := by omega
    have : END ≤ dueOf r t := by
      rcases Int.lt_or_le (dueOf r t) END with hlt | hge
      · have := stepAt_pot h hlt; omega
      · exact hge
    rw [advF, advF, if_pos (by omega)]
  | f + 1, 0, t, h, _, hg => by
    have hp : pot r t = 0 := by omega
    have : END ≤ dueOf r t := by
      rcases Int.lt_or_le (dueOf r t) END with hlt | hge
      · have := stepAt_pot h hlt; omega
      · exact hge
    rw [advF, advF, if_pos (by omega)]
  | f + 1, g + 1, t, h, hf, hg => by
    rw [advF, advF]
    split
    · rfl
    · rename_i hn
      have hlt : dueOf r t < END := by omega
      have hs := stepAt_pot h hlt
      exact advF_enough hr f g _ (stepAt_inv h (dueOf_nonneg hr h) hlt) (by omega) (by omega)

/-- The loop's two ways. -/
theorem adv_stop {r : Rule} {before : Int} {t : Tk} (h : min before END ≤ dueOf r t) : adv r before t = t := by
  unfold adv
  cases pot r t with
  | zero => rfl
  | succ f => rw [advF, if_pos h]

theorem adv_step {r : Rule} {before : Int} {p : Nat} {t : Tk} (hr : GoodR r) (hi : Inv r p t) (h : dueOf r t < min before END) : adv r before t = adv r before (stepAt r (dueOf r t) t) := by
  have hlt : dueOf r t < END := by omega
  have hs := stepAt_pot hi hlt
  unfold adv
  obtain ⟨f, hf⟩ : ∃ f, pot r t = f + 1 := ⟨pot r t - 1, by omega⟩
  rw [hf, advF, if_neg (by omega)]
  exact advF_enough hr _ _ _ (stepAt_inv hi (dueOf_nonneg hr hi) hlt) (by omega) (Nat.le_refl _)

theorem adv_ind {r : Rule} {before : Int} {p : Nat} (hr : GoodR r) (P : Tk → Prop) (hP : ∀ t, Inv r p t → P t → dueOf r t < min before END → P (stepAt r (dueOf r t) t)) :
    ∀ (n : Nat) (t : Tk), pot r t ≤ n → Inv r p t → P t → Inv r p (adv r before t) ∧ P (adv r before t) ∧ min before END ≤ dueOf r (adv r before t)
  | n, t, hn, hi, ht => by
    by_cases h : min before END ≤ dueOf r t
    · rw [adv_stop h]; exact ⟨hi, ht, h⟩
    · have hlt : dueOf r t < END := by omega
      have hs := stepAt_pot hi hlt
      rw [adv_step hr hi (by omega)]
      match n with
      | 0 => omega
      | n + 1 => exact adv_ind hr P hP n _ (by omega) (stepAt_inv hi (dueOf_nonneg hr hi) hlt) (hP t hi ht (by omega))

theorem adv_inv {r : Rule} {before : Int} {p : Nat} {t : Tk} (hr : GoodR r) (h : Inv r p t) : Inv r p (adv r before t) :=
  (adv_ind hr (fun _ => True) (fun _ _ _ _ => trivial) _ t (Nat.le_refl _) h trivial).1

theorem adv_due {r : Rule} {before : Int} {p : Nat} {t : Tk} (hr : GoodR r) (h : Inv r p t) : min before END ≤ dueOf r (adv r before t) :=
  (adv_ind hr (fun _ => True) (fun _ _ _ _ => trivial) _ t (Nat.le_refl _) h trivial).2.2

/-- A sample that comes behind all of the window. -/
theorem putS_inv {r : Rule} {p : Nat} {t : Tk} {s : Sm} (h : Inv r p t) (hs : 0 ≤ s.1 ∧ s.1 < END ∧ -MAXN ≤ s.2 ∧ s.2 ≤ MAXN) (hl : ∀ x ∈ t.win, x.1 < s.1) : Inv r (p + 1) (putS r s t) := by
  have hd := dropW_length r.long s.1 t.win
  have hsort : SortedS (dropW r.long s.1 t.win ++ [s]) := by
    unfold SortedS
    rw [List.pairwise_append]
    refine ⟨dropW_sorted h.sorted, by simp, fun a ha b hb => ?_⟩
    simp at hb
    subst hb
    exact hl a ((List.dropWhile_sublist _).subset ha)
  have hgood : GoodS (dropW r.long s.1 t.win ++ [s]) := fun x hx => by
    rcases List.mem_append.1 hx with hx | hx
    · exact dropW_good h.good x hx
    · simp at hx; subst hx; exact hs
  have hr := h.room
  have hf := h.few
  unfold putS upd
  dsimp only
  split
  · rename_i e
    refine ⟨e.symm, h.since, hsort, hgood, h.some, ?_, by simp; omega⟩
    dsimp only
    simp only [List.length_append, List.length_singleton]
    omega
  · refine ⟨rfl, ⟨hs.1, by dsimp only; omega⟩, hsort, hgood, h.some, ?_, by simp; omega⟩
    dsimp only
    simp only [List.length_append, List.length_singleton]
    split <;> split at hr <;> omega

theorem stepAt_win (r : Rule) (at_ : Int) (t : Tk) : (stepAt r at_ t).win = dropW r.long at_ t.win := by
  unfold stepAt upd toggle
  dsimp only
  repeat' split
  all_goals rfl

theorem adv_win {r : Rule} {before : Int} {p : Nat} {t : Tk} (hr : GoodR r) (h : Inv r p t) : ∀ x ∈ (adv r before t).win, x ∈ t.win :=
  (adv_ind hr (fun u => ∀ x ∈ u.win, x ∈ t.win) (fun u _ hu _ x hx => hu x (by rw [stepAt_win] at hx; exact (List.dropWhile_sublist _).subset hx)) _ t (Nat.le_refl _) h (fun _ hx => hx)).2.1

theorem putS_win {r : Rule} {s : Sm} {t : Tk} : (putS r s t).win = dropW r.long s.1 t.win ++ [s] := by
  unfold putS upd
  dsimp only
  split <;> rfl

theorem feed_snoc (r : Rule) (l : List Sm) (s : Sm) (t : Tk) : feed r (l ++ [s]) t = putS r s (adv r s.1 (feed r l t)) := by
  unfold feed
  rw [List.foldl_append]
  rfl

theorem snoc_ind {α : Type} {P : List α → Prop} (h0 : P []) (h1 : ∀ l a, P l → P (l ++ [a])) (l : List α) : P l := by
  have h : ∀ m : List α, P m.reverse := by
    intro m
    induction m with
    | nil => exact h0
    | cons a m ih => rw [List.reverse_cons]; exact h1 _ _ ih
  have := h l.reverse
  rwa [List.reverse_reverse] at this

/-- Behind some samples: the invariant, and the window has samples of these. -/
theorem feed_inv {r : Rule} (hr : GoodR r) (l : List Sm) (hs : SortedS l) (hg : GoodS l) : Inv r l.length (feed r l (init r)) ∧ ∀ x ∈ (feed r l (init r)).win, x ∈ l := by
  revert hs hg
  refine snoc_ind (P := fun l => SortedS l → GoodS l → Inv r l.length (feed r l (init r)) ∧ ∀ x ∈ (feed r l (init r)).win, x ∈ l) ?_ ?_ l
  · intro _ _; exact ⟨init_inv r, by simp [feed, init]⟩
  · intro l s ih hs hg
    have hs' := List.pairwise_append.1 hs
    obtain ⟨hi, hw⟩ := ih hs'.1 (fun x hx => hg x (by simp [hx]))
    have ha := adv_inv (before := s.1) hr hi
    have haw := adv_win (before := s.1) hr hi
    rw [feed_snoc]
    refine ⟨?_, fun x hx => ?_⟩
    · rw [List.length_append, List.length_singleton]
      exact putS_inv ha (hg s (by simp)) fun x hx => hs'.2.2 x (hw x (haw x hx)) s (by simp)
    · rw [putS_win] at hx
      rcases List.mem_append.1 hx with hx | hx
      · exact List.mem_append.2 (.inl (hw x (haw x ((List.dropWhile_sublist _).subset hx))))
      · exact List.mem_append.2 (.inr hx)

theorem spansOf_length {r : Rule} (hr : GoodR r) (l : List Sm) (hs : SortedS l) (hg : GoodS l) : (spansOf r l).length ≤ 2 * l.length + 1 := by
  have := (adv_inv (before := END) hr (feed_inv hr l hs hg).1).room
  unfold spansOf
  omega

end Go.Proofs.YteandmolnbcmmaaGreatDoor

namespace Go.Proofs.YteandmolnbcmmaaGreatDoor

/-! ### Spans come one behind the other -/

/-- All that came about did before the moment c. -/
structure Chain (c : Int) (t : Tk) : Prop where
  le : ∀ s ∈ t.out, 0 ≤ s.1 ∧ s.1 < s.2 ∧ s.2 ≤ END ∧ s.1 < c
  pw : t.out.Pairwise fun a b => a.2 < b.1
  closed : t.firing = false → ∀ s ∈ t.out, s.2 < c
  opened : t.firing = true → ∃ l, t.out = l ++ [(t.began, END)]
  shut : t.firing = true → ∀ s ∈ t.out.dropLast, s.2 < c ∧ s.2 < END
  ends : t.firing = false → ∀ s ∈ t.out, s.2 < END

theorem Chain.mono {c c' : Int} {t : Tk} (h : Chain c t) (hc : c ≤ c') : Chain c' t :=
  ⟨fun s hs => by have := h.le s hs; omega, h.pw, fun hf s hs => by have := h.closed hf s hs; omega, h.opened, fun hf s hs => by have := h.shut hf s hs; omega, h.ends⟩

theorem setTo_snoc (l : List Span) (a b c : Int) : setTo (l ++ [(a, b)]) c = l ++ [(a, c)] := by
  unfold setTo
  simp

theorem dropW_head_lt {long at_ : Int} {l : List Sm} {s : Sm} {m : List Sm} (h : dropW long at_ l = s :: m) : at_ < s.1 + long := by
  induction l with
  | nil => cases h
  | cons a l ih =>
    rw [dropW_cons] at h
    split at h
    · exact ih h
    · cases h; omega

/-- Behind a step all that is due comes later. -/
theorem stepAt_due {r : Rule} {p : Nat} {t : Tk} (hr : GoodR r) (_h : Inv r p t) (hE : dueOf r t < END) : dueOf r t < dueOf r (stepAt r (dueOf r t) t) := by
  have hEE : dueOf r t < END := hE
  have hge : dueOf r t ≤ turnOf r t := by unfold dueOf; split <;> omega
  generalize hat : dueOf r t = at_ at *
  have hh := hr.hold
  have hrr := hr.rest
  have hturn : at_ < turnOf r (stepAt r at_ t) := by
    have hu : at_ ≤ turnOf r (upd r at_ { t with win := dropW r.long at_ t.win }) := by
      unfold upd
      dsimp only
      split
      · exact hge
      · unfold turnOf
        dsimp only
        repeat' split
        all_goals omega
    unfold stepAt
    dsimp only
    split
    · rename_i htu
      generalize upd r at_ { t with win := dropW r.long at_ t.win } = u at *
      unfold turnOf at htu
      unfold turnOf toggle
      cases hf : u.firing with
      | true =>
        simp [hf] at htu ⊢
        split at htu
        · rename_i h2; simp [h2]; omega
        · omega
      | false =>
        simp [hf] at htu ⊢
        split at htu
        · rename_i h2; simp [h2]; omega
        · omega
    · omega
  have hwin := stepAt_win r at_ t
  unfold dueOf
  split
  · omega
  · rename_i s l hc
    rw [hwin] at hc
    have := dropW_head_lt hc
    omega

theorem stepAt_chain {r : Rule} {c : Int} {t : Tk} (h : Chain c t) (hc : c ≤ dueOf r t) (h0 : 0 ≤ dueOf r t) (hE : dueOf r t < END) : Chain (dueOf r t + 1) (stepAt r (dueOf r t) t) := by
  generalize hat : dueOf r t = at_ at *
  have ho : (upd r at_ { t with win := dropW r.long at_ t.win }).out = t.out := by unfold upd; dsimp only; split <;> rfl
  have hf : (upd r at_ { t with win := dropW r.long at_ t.win }).firing = t.firing := by unfold upd; dsimp only; split <;> rfl
  have hb : (upd r at_ { t with win := dropW r.long at_ t.win }).began = t.began := by unfold upd; dsimp only; split <;> rfl
  have h' : Chain (at_ + 1) t := h.mono (by omega)
  unfold stepAt
  dsimp only
  generalize upd r at_ { t with win := dropW r.long at_ t.win } = u at *
  have hu : Chain c u := ⟨by rw [ho]; exact h.le, by rw [ho]; exact h.pw, by rw [ho, hf]; exact h.closed, by rw [ho, hf, hb]; exact h.opened, by rw [ho, hf]; exact h.shut, by rw [ho, hf]; exact h.ends⟩
  split
  · unfold toggle
    cases hfu : u.firing with
    | true =>
      obtain ⟨l, hl⟩ := hu.opened hfu
      have hle := hu.le
      have hpw := hu.pw
      have hsh := hu.shut hfu
      rw [hl] at hle hpw hsh
      simp only [List.dropLast_concat] at hsh
      simp only [if_true]
      have hlast := hle (u.began, END) (by simp)
      rw [hl, setTo_snoc]
      have hpw' := List.pairwise_append.1 hpw
      refine ⟨fun s hs => ?_, ?_, fun _ s hs => ?_, fun hx => by simp at hx, fun hx => by simp at hx, fun _ s hs => ?_⟩
      · dsimp only at hs
        rcases List.mem_append.1 hs with hs | hs
        · have := hle s (List.mem_append.2 (.inl hs)); omega
        · simp at hs; subst hs; dsimp only at hlast ⊢; omega
      · dsimp only
        rw [List.pairwise_append]
        refine ⟨hpw'.1, by simp, fun a ha b hb => ?_⟩
        simp at hb; subst hb
        exact hpw'.2.2 a ha (u.began, END) (by simp)
      · dsimp only at hs
        rcases List.mem_append.1 hs with hs | hs
        · have := hsh s hs; omega
        · simp at hs; subst hs; dsimp only; omega
      · dsimp only at hs
        rcases List.mem_append.1 hs with hs | hs
        · have := hsh s hs; omega
        · simp at hs; subst hs; dsimp only; omega
    | false =>
      simp only [Bool.false_eq_true, if_false]
      have hcl := hu.closed hfu
      refine ⟨fun s hs => ?_, ?_, fun hx => by simp at hx, fun _ => ⟨u.out, rfl⟩, fun _ s hs => ?_, fun hx => by simp at hx⟩
      · dsimp only at hs
        rcases List.mem_append.1 hs with hs | hs
        · have := hu.le s hs; omega
        · simp at hs; subst hs; dsimp only; omega
      · dsimp only
        rw [List.pairwise_append]
        refine ⟨hu.pw, by simp, fun a ha b hb => ?_⟩
        simp at hb; subst hb
        have := hcl a ha
        dsimp only; omega
      · dsimp only at hs
        rw [List.dropLast_concat] at hs
        have := hcl s hs
        have := hu.ends hfu s hs
        omega
  · exact hu.mono (by omega)

/-- Up to a moment. -/
theorem adv_chain {r : Rule} {p : Nat} {before c : Int} {t : Tk} (hr : GoodR r) (hi : Inv r p t) (h : Chain c t) (hd : c ≤ dueOf r t) (hcb : c ≤ before) :
    ∃ c', c' ≤ before ∧ Chain c' (adv r before t) ∧ c' ≤ dueOf r (adv r before t) :=
  (adv_ind hr (fun u => ∃ c', c' ≤ before ∧ Chain c' u ∧ c' ≤ dueOf r u) (fun u hu hx hlt => by
    obtain ⟨c', h1, h2, h3⟩ := hx
    have hlE : dueOf r u < END := by omega
    exact ⟨dueOf r u + 1, by omega, stepAt_chain h2 h3 (dueOf_nonneg hr hu) hlE, by have := stepAt_due hr hu hlE; omega⟩) _ t (Nat.le_refl _) hi ⟨c, hcb, h, hd⟩).2.1

theorem putS_out {r : Rule} {s : Sm} {t : Tk} : (putS r s t).out = t.out ∧ (putS r s t).firing = t.firing ∧ (putS r s t).began = t.began := by
  unfold putS upd
  dsimp only
  split <;> exact ⟨rfl, rfl, rfl⟩

theorem putS_due {r : Rule} {s : Sm} {t : Tk} (hr : GoodR r) (hE : s.1 < END) (hd : s.1 ≤ dueOf r t) : s.1 ≤ dueOf r (putS r s t) := by
  have hh := hr.hold
  have hrr := hr.rest
  have hge : s.1 ≤ turnOf r t := by have : dueOf r t ≤ turnOf r t := (by unfold dueOf; split <;> omega); omega
  have hturn : s.1 ≤ turnOf r (putS r s t) := by
    unfold putS upd
    dsimp only
    split
    · exact hge
    · unfold turnOf
      dsimp only
      repeat' split
      all_goals omega
  have hl := hr.long
  unfold dueOf
  split
  · omega
  · rename_i x l hc
    have hx : s.1 < x.1 + r.long := by
      rw [putS_win] at hc
      cases hw : dropW r.long s.1 t.win with
      | nil => rw [hw] at hc; simp at hc; rw [← hc.1]; omega
      | cons y m => rw [hw] at hc; simp at hc; rw [← hc.1]; exact dropW_head_lt hw
    omega

theorem init_chain (r : Rule) : Chain 0 (init r) := ⟨by simp [init], by simp [init], by simp [init], by simp [init], by simp [init], by simp [init]⟩

theorem init_due {r : Rule} (hr : GoodR r) : 0 ≤ dueOf r (init r) := dueOf_nonneg hr (init_inv r)

/-- Behind some samples: a moment not behind the next sample's. -/
theorem feed_chain {r : Rule} (hr : GoodR r) (l : List Sm) (hs : SortedS l) (hg : GoodS l) :
    ∃ c, Chain c (feed r l (init r)) ∧ c ≤ dueOf r (feed r l (init r)) ∧ (c ≤ 0 ∨ ∃ x ∈ l, c ≤ x.1) := by
  revert hs hg
  refine snoc_ind (P := fun l => SortedS l → GoodS l → ∃ c, Chain c (feed r l (init r)) ∧ c ≤ dueOf r (feed r l (init r)) ∧ (c ≤ 0 ∨ ∃ x ∈ l, c ≤ x.1)) ?_ ?_ l
  · intro _ _; exact ⟨0, init_chain r, init_due hr, .inl (Int.le_refl _)⟩
  · intro l s ih hs hg
    have hs' := List.pairwise_append.1 hs
    have hgl : GoodS l := fun x hx => hg x (by simp [hx])
    have hgs := hg s (by simp)
    obtain ⟨c, h1, h2, h3⟩ := ih hs'.1 hgl
    have hi := (feed_inv hr l hs'.1 hgl).1
    have hcs : c ≤ s.1 := by
      rcases h3 with h3 | ⟨x, hx, h3⟩
      · omega
      · have := hs'.2.2 x hx s (by simp); omega
    obtain ⟨c', hc', hch, hdu⟩ := adv_chain hr hi h1 h2 hcs
    have had := adv_due (before := s.1) hr hi
    rw [feed_snoc]
    obtain ⟨po, pf, pb⟩ := @putS_out r s (adv r s.1 (feed r l (init r)))
    have hm := hch.mono hc'
    refine ⟨s.1, ⟨by rw [po]; exact hm.le, by rw [po]; exact hm.pw, by rw [po, pf]; exact hm.closed, by rw [po, pf, pb]; exact hm.opened, by rw [po, pf]; exact hm.shut, by rw [po, pf]; exact hm.ends⟩, putS_due hr hgs.2.1 (by omega), .inr ⟨s, by simp, Int.le_refl _⟩⟩

/-- What the spans of a rule are like. -/
structure Apart (l : List Span) : Prop where
  le : ∀ s ∈ l, 0 ≤ s.1 ∧ s.1 < s.2 ∧ s.2 ≤ END
  pw : l.Pairwise fun a b => a.2 < b.1

theorem feed_le_end {l : List Sm} {c : Int} (hg : GoodS l) (h : c ≤ 0 ∨ ∃ x ∈ l, c ≤ x.1) : c ≤ END := by
  rcases h with h | ⟨x, hx, h⟩
  · have : (0 : Int) ≤ END := by decide
    omega
  · have := hg x hx; omega

theorem spansOf_apart {r : Rule} (hr : GoodR r) (l : List Sm) (hs : SortedS l) (hg : GoodS l) : Apart (spansOf r l) := by
  obtain ⟨c, h1, h2, h3⟩ := feed_chain hr l hs hg
  obtain ⟨c', _, hch, _⟩ := adv_chain hr (feed_inv hr l hs hg).1 h1 h2 (feed_le_end hg h3)
  exact ⟨fun s hs => by have := hch.le s hs; omega, hch.pw⟩

/-! ### Other values, the same spans -/

/-- A window with other values. -/
def mapV (g : Int → Int) (l : List Sm) : List Sm := l.map fun s => (s.1, g s.2)

def Tk.mapT (g : Int → Int) (t : Tk) : Tk := { t with win := mapV g t.win }

/-- r' comes with values g v to what r comes to with v. -/
structure Alike (g : Int → Int) (Q : List Sm → Prop) (r r' : Rule) : Prop where
  long : r'.long = r.long
  hold : r'.hold = r.hold
  rest : r'.rest = r.rest
  now : ∀ l, Q l → nowOf r' (mapV g l) = nowOf r l
  nil : Q []
  drop : ∀ l at_, Q l → Q (dropW r.long at_ l)

theorem dropW_mapV (g : Int → Int) (long at_ : Int) (l : List Sm) : dropW long at_ (mapV g l) = mapV g (dropW long at_ l) := by
  unfold dropW mapV
  induction l with
  | nil => rfl
  | cons a l ih =>
    simp only [List.map_cons, List.dropWhile_cons]
    split
    · exact ih
    · rfl

section
variable {g : Int → Int} {Q : List Sm → Prop} {r r' : Rule}

theorem turnOf_map (A : Alike g Q r r') (t : Tk) : turnOf r' (t.mapT g) = turnOf r t := by
  unfold turnOf Tk.mapT; rw [A.hold, A.rest]

theorem dueOf_map (A : Alike g Q r r') (t : Tk) : dueOf r' (t.mapT g) = dueOf r t := by
  unfold dueOf
  rw [turnOf_map A]
  cases hw : t.win with
  | nil => simp [Tk.mapT, mapV, hw]
  | cons s l => simp [Tk.mapT, mapV, hw, A.long]

theorem upd_map (A : Alike g Q r r') (at_ : Int) (t : Tk) (h : Q t.win) : upd r' at_ (t.mapT g) = (upd r at_ t).mapT g := by
  unfold upd
  have e : nowOf r' (t.mapT g).win = nowOf r t.win := A.now _ h
  have e2 : (t.mapT g).state = t.state := rfl
  rw [e, e2]
  split <;> rfl

theorem upd_win (r : Rule) (at_ : Int) (t : Tk) : (upd r at_ t).win = t.win := by unfold upd; split <;> rfl

theorem toggle_map (at_ : Int) (t : Tk) : toggle at_ (t.mapT g) = (toggle at_ t).mapT g := by
  unfold toggle Tk.mapT
  dsimp only
  split <;> rfl

theorem stepAt_map (A : Alike g Q r r') (at_ : Int) (t : Tk) (h : Q t.win) : stepAt r' at_ (t.mapT g) = (stepAt r at_ t).mapT g := by
  unfold stepAt
  dsimp only
  have e : ({ t.mapT g with win := dropW r'.long at_ (t.mapT g).win } : Tk) = ({ t with win := dropW r.long at_ t.win } : Tk).mapT g := by
    unfold Tk.mapT
    rw [A.long, dropW_mapV]
  rw [e, upd_map A at_ _ (A.drop _ _ h), turnOf_map A]
  split
  · exact toggle_map _ _
  · rfl

theorem advF_map (A : Alike g Q r r') (before : Int) : ∀ (f : Nat) (t : Tk), Q t.win → advF r' before f (t.mapT g) = (advF r before f t).mapT g
  | 0, _, _ => rfl
  | f + 1, t, h => by
    rw [advF, advF, dueOf_map A]
    split
    · rfl
    · rw [stepAt_map A _ _ h, advF_map A before f _ (by rw [stepAt_win]; exact A.drop _ _ h)]

theorem advF_Q (A : Alike g Q r r') (before : Int) : ∀ (f : Nat) (t : Tk), Q t.win → Q (advF r before f t).win
  | 0, _, h => h
  | f + 1, t, h => by
    rw [advF]
    split
    · exact h
    · exact advF_Q A before f _ (by rw [stepAt_win]; exact A.drop _ _ h)

theorem adv_map (A : Alike g Q r r') (before : Int) (t : Tk) (h : Q t.win) : adv r' before (t.mapT g) = (adv r before t).mapT g := by
  have hp : pot r' (t.mapT g) = pot r t := by
    unfold pot
    rw [turnOf_map A]
    simp [Tk.mapT, mapV]
  unfold adv
  rw [hp, advF_map A before _ t h]

/-- 'put': what the put leaves is a window of Q. -/
theorem putS_map (A : Alike g Q r r') (s : Sm) (t : Tk) (h : Q (dropW r.long s.1 t.win ++ [s])) : putS r' (s.1, g s.2) (t.mapT g) = (putS r s t).mapT g := by
  unfold putS
  dsimp only
  have e : ({ t.mapT g with win := dropW r'.long s.1 (t.mapT g).win ++ [(s.1, g s.2)] } : Tk) = ({ t with win := dropW r.long s.1 t.win ++ [s] } : Tk).mapT g := by
    unfold Tk.mapT
    rw [A.long, dropW_mapV]
    simp [mapV]
  rw [e, upd_map A _ _ h]

theorem feed_map (A : Alike g Q r r') (hr : GoodR r) (hput : ∀ (l : List Sm) (s : Sm), Q l → SortedS (l ++ [s]) → GoodS (l ++ [s]) → Q (dropW r.long s.1 l ++ [s]))
    (l : List Sm) (hs : SortedS l) (hg : GoodS l) : feed r' (mapV g l) (init r') = (feed r l (init r)).mapT g ∧ Q (feed r l (init r)).win := by
  revert hs hg
  refine snoc_ind (P := fun l => SortedS l → GoodS l → feed r' (mapV g l) (init r') = (feed r l (init r)).mapT g ∧ Q (feed r l (init r)).win) ?_ ?_ l
  · intro _ _
    refine ⟨?_, A.nil⟩
    have := A.now [] A.nil
    simp only [mapV, List.map_nil] at this
    simp [feed, init, Tk.mapT, mapV, this]
  · intro l s ih hs hg
    have hs' := List.pairwise_append.1 hs
    have hgl : GoodS l := fun x hx => hg x (by simp [hx])
    obtain ⟨h1, h2⟩ := ih hs'.1 hgl
    obtain ⟨hi, hin⟩ := feed_inv hr l hs'.1 hgl
    have hai := adv_inv (before := s.1) hr hi
    have haw := adv_win (before := s.1) hr hi
    have hq : Q (adv r s.1 (feed r l (init r))).win := advF_Q A _ _ _ h2
    have hq2 : Q (dropW r.long s.1 (adv r s.1 (feed r l (init r))).win ++ [s]) := by
      refine hput _ s hq ?_ ?_
      · unfold SortedS
        rw [List.pairwise_append]
        refine ⟨hai.sorted, by simp, fun a ha b hb => ?_⟩
        simp at hb; subst hb
        exact hs'.2.2 a (hin a (haw a ha)) b (by simp)
      · intro x hx
        rcases List.mem_append.1 hx with hx | hx
        · exact hai.good x hx
        · simp at hx; subst hx; exact hg x (by simp)
    have em : mapV g (l ++ [s]) = mapV g l ++ [(s.1, g s.2)] := by simp [mapV]
    rw [em, feed_snoc, feed_snoc, h1, adv_map A _ _ h2, putS_map A _ _ hq2]
    exact ⟨rfl, by rw [putS_win]; exact hq2⟩

theorem spansOf_map (A : Alike g Q r r') (hr : GoodR r) (hput : ∀ (l : List Sm) (s : Sm), Q l → SortedS (l ++ [s]) → GoodS (l ++ [s]) → Q (dropW r.long s.1 l ++ [s]))
    (l : List Sm) (hs : SortedS l) (hg : GoodS l) : spansOf r' (mapV g l) = spansOf r l := by
  obtain ⟨h1, h2⟩ := feed_map A hr hput l hs hg
  unfold spansOf
  rw [h1, adv_map A _ _ h2]
  rfl
end

end Go.Proofs.YteandmolnbcmmaaGreatDoor

namespace Go.Proofs.YteandmolnbcmmaaGreatDoor

theorem mapV_nil_iff (g : Int → Int) (l : List Sm) : mapV g l = [] ↔ l = [] := by simp [mapV]
theorem mapV_length (g : Int → Int) (l : List Sm) : (mapV g l).length = l.length := by simp [mapV]
theorem mapV_cons (g : Int → Int) (a : Sm) (l : List Sm) : mapV g (a :: l) = (a.1, g a.2) :: mapV g l := rfl

theorem firstV_mapV (g : Int → Int) (l : List Sm) (h : l ≠ []) : firstV (mapV g l) = g (firstV l) := by
  cases l with
  | nil => exact absurd rfl h
  | cons a l => rfl

theorem lastV_mapV (g : Int → Int) (l : List Sm) (h : l ≠ []) : lastV (mapV g l) = g (lastV l) := by
  unfold lastV
  have e : (mapV g l).reverse = mapV g l.reverse := by simp [mapV]
  rw [e, firstV_mapV g l.reverse (by simpa using h)]

theorem lmin_ne (l : List Sm) (h : l ≠ []) : lmin l ≠ [] := by
  cases l with
  | nil => exact absurd rfl h
  | cons a l =>
    rw [lmin]
    split
    · simp
    · split <;> simp

theorem lmax_ne (l : List Sm) (h : l ≠ []) : lmax l ≠ [] := by
  cases l with
  | nil => exact absurd rfl h
  | cons a l =>
    rw [lmax]
    split
    · simp
    · split <;> simp

theorem lmin_up {g : Int → Int} (hg : ∀ a b, g a < g b ↔ a < b) (l : List Sm) : lmin (mapV g l) = mapV g (lmin l) := by
  induction l with
  | nil => rfl
  | cons a l ih =>
    rw [mapV_cons, lmin, ih, lmin]
    cases h : lmin l with
    | nil => rfl
    | cons b m =>
      simp only [mapV_cons]
      by_cases hab : a.2 < b.2
      · rw [if_pos hab, if_pos ((hg _ _).2 hab)]; rfl
      · rw [if_neg hab, if_neg (fun x => hab ((hg _ _).1 x))]; rfl

theorem lmax_up {g : Int → Int} (hg : ∀ a b, g a < g b ↔ a < b) (l : List Sm) : lmax (mapV g l) = mapV g (lmax l) := by
  induction l with
  | nil => rfl
  | cons a l ih =>
    rw [mapV_cons, lmax, ih, lmax]
    cases h : lmax l with
    | nil => rfl
    | cons b m =>
      simp only [mapV_cons]
      by_cases hab : b.2 < a.2
      · rw [if_pos hab, if_pos ((hg _ _).2 hab)]; rfl
      · rw [if_neg hab, if_neg (fun x => hab ((hg _ _).1 x))]; rfl

theorem lmin_neg (l : List Sm) : lmin (mapV (fun v => -v) l) = mapV (fun v => -v) (lmax l) := by
  induction l with
  | nil => rfl
  | cons a l ih =>
    rw [mapV_cons, lmin, ih, lmax]
    cases h : lmax l with
    | nil => rfl
    | cons b m =>
      simp only [mapV_cons]
      by_cases hab : b.2 < a.2
      · rw [if_pos hab, if_pos (by omega)]; rfl
      · rw [if_neg hab, if_neg (by omega)]; rfl

theorem lmax_neg (l : List Sm) : lmax (mapV (fun v => -v) l) = mapV (fun v => -v) (lmin l) := by
  induction l with
  | nil => rfl
  | cons a l ih =>
    rw [mapV_cons, lmax, ih, lmin]
    cases h : lmin l with
    | nil => rfl
    | cons b m =>
      simp only [mapV_cons]
      by_cases hab : a.2 < b.2
      · rw [if_pos hab, if_pos (by omega)]; rfl
      · rw [if_neg hab, if_neg (by omega)]; rfl

theorem sumV_neg (l : List Sm) : sumV (mapV (fun v => -v) l) = -sumV l := by
  induction l with
  | nil => rfl
  | cons a l ih => rw [mapV_cons, sumV, ih, sumV]; omega

theorem sumV_mul (k : Int) (l : List Sm) : sumV (mapV (fun v => k * v) l) = k * sumV l := by
  induction l with
  | nil => simp [mapV, sumV]
  | cons a l ih => rw [mapV_cons, sumV, ih, sumV, Int.mul_add]

theorem sumV_add (b : Int) (l : List Sm) : sumV (mapV (fun v => v + b) l) = sumV l + l.length * b := by
  induction l with
  | nil => simp [mapV, sumV]
  | cons a l ih =>
    rw [mapV_cons, sumV, ih, sumV]
    simp only [List.length_cons, Int.natCast_add, Int.add_mul]
    omega

/-- What is made of a window of other values. -/
theorem valueOf_neg (agg : Int) (l : List Sm) (h : l ≠ []) (ha : 1 ≤ agg ∧ agg ≤ 6) (h5 : agg ≠ 5) :
    valueOf (if agg = 2 ∨ agg = 3 then 5 - agg else agg) (mapV (fun v => -v) l) = (-(valueOf agg l).1, (valueOf agg l).2) := by
  have e1 := lastV_mapV (fun v => -v) l h
  have e2 := firstV_mapV (fun v => -v) l h
  have e3 := firstV_mapV (fun v => -v) (lmin l) (lmin_ne l h)
  have e4 := firstV_mapV (fun v => -v) (lmax l) (lmax_ne l h)
  have hc : agg = 1 ∨ agg = 2 ∨ agg = 3 ∨ agg = 4 ∨ agg = 6 := by omega
  rcases hc with rfl | rfl | rfl | rfl | rfl
  · simp [valueOf, e1]
  · simp [valueOf, lmax_neg, e3]
  · simp [valueOf, lmin_neg, e4]
  · simp [valueOf, sumV_neg, mapV_length]
  · simp [valueOf, e1, e2]; omega

theorem standAt_neg (above : Bool) (v on off : Int) : standAt (!above) (-v) (-on) (-off) = standAt above v on off := by
  unfold standAt
  cases above <;> simp

/-- A rule that counts takes no notice of values. -/
theorem now_count (r : Rule) (h : r.agg = 5) (g : Int → Int) (l : List Sm) : nowOf r (mapV g l) = nowOf r l := by
  unfold nowOf valueOf
  simp [h, mapV_length]

theorem nowOf_some (r : Rule) (l : List Sm) (h : l ≠ []) : nowOf r l = standAt r.above (valueOf r.agg l).1 (r.on * (valueOf r.agg l).2) (r.off * (valueOf r.agg l).2) := by
  unfold nowOf
  rw [if_neg (fun x => h x.1)]

theorem nowOf_none (r : Rule) (h : r.agg ≠ 5) : nowOf r [] = if r.empty = 0 then 0 else if r.empty = 1 then 2 else 1 := by
  unfold nowOf
  rw [if_pos ⟨rfl, h⟩]

theorem alike_of {g : Int → Int} {r r' : Rule} (long : r'.long = r.long) (hold : r'.hold = r.hold) (rest : r'.rest = r.rest) (now : ∀ l, nowOf r' (mapV g l) = nowOf r l) : Alike g (fun _ => True) r r' :=
  ⟨long, hold, rest, fun l _ => now l, trivial, fun _ _ _ => trivial⟩

theorem alike_count {g : Int → Int} {r : Rule} (h : r.agg = 5) : Alike g (fun _ => True) r r := alike_of rfl rfl rfl (now_count r h g)

def negR (r : Rule) : Rule := { r with above := !r.above, on := -r.on, off := -r.off, agg := if r.agg = 2 ∨ r.agg = 3 then 5 - r.agg else r.agg }

theorem alike_neg {r : Rule} (hr : GoodR r) (h5 : r.agg ≠ 5) : Alike (fun v => -v) (fun _ => True) r (negR r) := by
  refine alike_of rfl rfl rfl fun l => ?_
  have ha := hr.agg
  cases hl : l with
  | nil =>
    have e : mapV (fun v => -v) [] = [] := rfl
    have h5' : (negR r).agg ≠ 5 := by unfold negR; dsimp only; split <;> omega
    rw [e, nowOf_none _ h5, nowOf_none _ h5']
    rfl
  | cons a m =>
    rw [← hl]
    have hne : l ≠ [] := by rw [hl]; simp
    rw [nowOf_some _ _ hne, nowOf_some _ _ (by simpa [mapV_nil_iff] using hne)]
    have e := valueOf_neg r.agg l hne ha h5
    have e' : valueOf (negR r).agg (mapV (fun v => -v) l) = (-(valueOf r.agg l).1, (valueOf r.agg l).2) := e
    rw [e']
    show standAt (!r.above) (-(valueOf r.agg l).1) (-r.on * (valueOf r.agg l).2) (-r.off * (valueOf r.agg l).2) = _
    rw [Int.neg_mul, Int.neg_mul, standAt_neg]

def mulR (k : Int) (r : Rule) : Rule := { r with on := k * r.on, off := k * r.off }

theorem mul_lt_iff {k : Int} (hk : 0 < k) (a b : Int) : k * a < k * b ↔ a < b := Int.mul_lt_mul_left hk
theorem mul_le_iff {k : Int} (hk : 0 < k) (a b : Int) : k * a ≤ k * b ↔ a ≤ b := Int.mul_le_mul_left hk

theorem valueOf_mul {k : Int} (hk : 0 < k) (agg : Int) (l : List Sm) (h : l ≠ []) (ha : 1 ≤ agg ∧ agg ≤ 6) (h5 : agg ≠ 5) :
    valueOf agg (mapV (fun v => k * v) l) = (k * (valueOf agg l).1, (valueOf agg l).2) := by
  have e1 := lastV_mapV (fun v => k * v) l h
  have e2 := firstV_mapV (fun v => k * v) l h
  have e3 := firstV_mapV (fun v => k * v) (lmin l) (lmin_ne l h)
  have e4 := firstV_mapV (fun v => k * v) (lmax l) (lmax_ne l h)
  have hc : agg = 1 ∨ agg = 2 ∨ agg = 3 ∨ agg = 4 ∨ agg = 6 := by omega
  rcases hc with rfl | rfl | rfl | rfl | rfl
  · simp [valueOf, e1]
  · simp [valueOf, lmin_up (mul_lt_iff hk), e3]
  · simp [valueOf, lmax_up (mul_lt_iff hk), e4]
  · simp [valueOf, sumV_mul, mapV_length]
  · simp [valueOf, e1, e2, Int.mul_sub]

theorem standAt_mul {k : Int} (hk : 0 < k) (above : Bool) (v on off : Int) : standAt above (k * v) (k * on) (k * off) = standAt above v on off := by
  unfold standAt
  have h1 := mul_le_iff hk on v
  have h2 := mul_lt_iff hk v off
  have h3 := mul_le_iff hk v on
  have h4 := mul_lt_iff hk off v
  cases above
  · simp only [Int.neg_le_neg_iff, Int.neg_lt_neg_iff, h3, h4, Bool.false_eq_true, if_false]
  · simp only [h1, h2, if_true]

theorem alike_mul {k : Int} (hk : 0 < k) {r : Rule} (hr : GoodR r) (h5 : r.agg ≠ 5) : Alike (fun v => k * v) (fun _ => True) r (mulR k r) := by
  refine alike_of rfl rfl rfl fun l => ?_
  cases hl : l with
  | nil =>
    have e : mapV (fun v => k * v) [] = [] := rfl
    rw [e, nowOf_none _ h5, nowOf_none (mulR k r) h5]
    rfl
  | cons a m =>
    rw [← hl]
    have hne : l ≠ [] := by rw [hl]; simp
    rw [nowOf_some _ _ hne, nowOf_some _ _ (by simpa [mapV_nil_iff] using hne)]
    have e := valueOf_mul hk r.agg l hne hr.agg h5
    have e' : valueOf (mulR k r).agg (mapV (fun v => k * v) l) = (k * (valueOf r.agg l).1, (valueOf r.agg l).2) := e
    rw [e']
    show standAt r.above (k * (valueOf r.agg l).1) (k * r.on * (valueOf r.agg l).2) (k * r.off * (valueOf r.agg l).2) = _
    rw [Int.mul_assoc, Int.mul_assoc, standAt_mul hk]

def addR (b : Int) (r : Rule) : Rule := if r.agg ≠ 6 then { r with on := r.on + b, off := r.off + b } else r

theorem add_lt_iff (b x y : Int) : x + b < y + b ↔ x < y := by omega

theorem standAt_add (above : Bool) (v on off b : Int) : standAt above (v + b) (on + b) (off + b) = standAt above v on off := by
  unfold standAt
  cases above
  · have h1 : (-(on + b) ≤ -(v + b)) ↔ (-on ≤ -v) := by omega
    have h2 : (-(v + b) < -(off + b)) ↔ (-v < -off) := by omega
    simp only [h1, h2, Bool.false_eq_true, if_false]
  · have h1 : (on + b ≤ v + b) ↔ (on ≤ v) := by omega
    have h2 : (v + b < off + b) ↔ (v < off) := by omega
    simp only [h1, h2, if_true]

theorem alike_add (b : Int) {r : Rule} (hr : GoodR r) (h5 : r.agg ≠ 5) : Alike (fun v => v + b) (fun _ => True) r (addR b r) := by
  have ex : (addR b r).long = r.long ∧ (addR b r).hold = r.hold ∧ (addR b r).rest = r.rest ∧ (addR b r).agg = r.agg ∧ (addR b r).empty = r.empty ∧ (addR b r).above = r.above := by
    unfold addR; split <;> exact ⟨rfl, rfl, rfl, rfl, rfl, rfl⟩
  refine alike_of ex.1 ex.2.1 ex.2.2.1 fun l => ?_
  cases hl : l with
  | nil =>
    have e : mapV (fun v => v + b) [] = [] := rfl
    rw [e, nowOf_none _ h5, nowOf_none (addR b r) (by rw [ex.2.2.2.1]; exact h5), ex.2.2.2.2.1]
  | cons a m =>
    rw [← hl]
    have hne : l ≠ [] := by rw [hl]; simp
    rw [nowOf_some _ _ hne, nowOf_some _ _ (by simpa [mapV_nil_iff] using hne), ex.2.2.2.1, ex.2.2.2.2.2]
    have e1 := lastV_mapV (fun v => v + b) l hne
    have e2 := firstV_mapV (fun v => v + b) l hne
    have e3 := firstV_mapV (fun v => v + b) (lmin l) (lmin_ne l hne)
    have e4 := firstV_mapV (fun v => v + b) (lmax l) (lmax_ne l hne)
    have ha := hr.agg
    have hc : r.agg = 1 ∨ r.agg = 2 ∨ r.agg = 3 ∨ r.agg = 4 ∨ r.agg = 6 := by omega
    rcases hc with hc | hc | hc | hc | hc
    · simp [valueOf, addR, hc, e1, standAt_add]
    · simp [valueOf, addR, hc, lmin_up (add_lt_iff b), e3, standAt_add]
    · simp [valueOf, addR, hc, lmax_up (add_lt_iff b), e4, standAt_add]
    · simp only [valueOf, addR, hc, sumV_add, mapV_length]
      simp only [ne_eq, show ¬(4 : Int) = 6 by omega, not_false_eq_true, if_true, show ¬(4 : Int) = 1 by omega, show ¬(4 : Int) = 2 by omega, show ¬(4 : Int) = 3 by omega, if_false]
      rw [Int.add_mul, Int.add_mul, Int.mul_comm b, standAt_add]
    · have e5 : lastV l + b - (firstV l + b) = lastV l - firstV l := by omega
      simp [valueOf, addR, hc, e1, e2, e5]

/-- A window of one moment has one sample at most. -/
theorem alike_one {r r' : Rule} (hl : r.long = 1) (hl' : r'.long = 1) (hold : r'.hold = r.hold) (rest : r'.rest = r.rest) (habove : r'.above = r.above) (hon : r'.on = r.on) (hoff : r'.off = r.off) (hempty : r'.empty = r.empty)
    (hagg : r'.agg = r.agg ∨ (1 ≤ r.agg ∧ r.agg ≤ 4 ∧ 1 ≤ r'.agg ∧ r'.agg ≤ 4)) : Alike (fun v => v) (fun l => l.length ≤ 1) r r' := by
  refine ⟨by omega, hold, rest, fun l h => ?_, by simp, fun l at_ h => Nat.le_trans (dropW_length _ _ _) h⟩
  have e : mapV (fun v => v) l = l := by simp [mapV]
  rw [e]
  rcases hagg with hagg | hagg
  · unfold nowOf; rw [hagg, hempty, habove, hon, hoff]
  · match l, h with
    | [], _ => rw [nowOf_none _ (by omega), nowOf_none _ (by omega), hempty]
    | [s], _ =>
      have hv : ∀ a : Int, 1 ≤ a → a ≤ 4 → valueOf a [s] = (s.2, 1) := fun a h1 h2 => by
        have : a = 1 ∨ a = 2 ∨ a = 3 ∨ a = 4 := by omega
        rcases this with rfl | rfl | rfl | rfl <;> simp [valueOf, lastV, firstV, lmin, lmax, sumV]
      rw [nowOf_some _ _ (by simp), nowOf_some _ _ (by simp), hv _ hagg.1 hagg.2.1, hv _ hagg.2.2.1 hagg.2.2.2, habove, hon, hoff]

theorem one_put {r : Rule} (hl : r.long = 1) (l : List Sm) (s : Sm) (hs : SortedS (l ++ [s])) : (dropW r.long s.1 l ++ [s]).length ≤ 1 := by
  have h := (List.pairwise_append.1 hs).2.2
  have e : dropW r.long s.1 l = [] := by
    clear hs
    induction l with
    | nil => rfl
    | cons a l ih =>
      rw [dropW_cons, if_pos (by have := h a (by simp) s (by simp); omega)]
      exact ih fun x hx => h x (by simp [hx])
  simp [e]

end Go.Proofs.YteandmolnbcmmaaGreatDoor
