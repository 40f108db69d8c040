/- The edges of the spells of several rules by device, plain: one more spell, one more list; the times of pairs. Two rules that are the same but for their keys, plain: the second one's key, its spells; what is sorted at last. No condition beyond what each theorem states. -/
import Derived.Test.YteandmolnbcmmaaGreatDoorKD

namespace Go.Proofs.YteandmolnbcmmaaGreatDoor

/-- The edges that a list of spells, the k-th, gives a device. -/
def edS (k : Int) (C : List Spell) (d : ByteArray) : List Edge := edgesK k (spansD C d)

theorem edS_snoc (k : Int) (C : List Spell) (s : Spell) (d : ByteArray) : edS k (C ++ [s]) d = edS k C d ++ (if s.device = d then [⟨s.from_, k, 1⟩, ⟨s.to_, k, -1⟩] else []) := by
  unfold edS edgesK spansD
  rw [List.filter_append, List.map_append, List.flatMap_append]
  congr 1
  by_cases h : s.device = d <;> simp [h]

theorem edS_length (k : Int) (C : List Spell) (d : ByteArray) : (edS k C d).length ≤ 2 * C.length := by
  have h1 : ∀ S : List Span, (edgesK k S).length = 2 * S.length := by
    intro S
    induction S with
    | nil => rfl
    | cons s S ih => simp only [edgesK, List.flatMap_cons, List.length_append, List.length_cons, List.length_nil] at *; omega
  unfold edS
  rw [h1]
  unfold spansD
  rw [List.length_map]
  have := List.length_filter_le (fun s : Spell => decide (s.device = d)) C
  omega

def edL : Int → List (List Spell) → ByteArray → List Edge
  | _, [], _ => []
  | k, C :: Ls, d => edS k C d ++ edL (k + 1) Ls d

theorem edL_snoc (C : List Spell) (d : ByteArray) : ∀ (k : Int) (Ls : List (List Spell)), edL k (Ls ++ [C]) d = edL k Ls d ++ edS (k + Ls.length) C d
  | k, [] => by simp [edL]
  | k, A :: Ls => by
    rw [List.cons_append, edL, edL, edL_snoc C d (k + 1) Ls, List.append_assoc]
    congr 3
    rw [List.length_cons]
    push_cast
    omega

theorem edL_length (d : ByteArray) : ∀ (k : Int) (Ls : List (List Spell)), (edL k Ls d).length ≤ 2 * (Ls.map List.length).sum
  | k, [] => by simp [edL]
  | k, A :: Ls => by
    rw [edL, List.length_append, List.map_cons, List.sum_cons]
    have h1 := edS_length k A d
    have h2 := edL_length d (k + 1) Ls
    omega

/-- Where the pairs stand: the q-th time, a beginning if q is even. -/
theorem Paired.two {S : List Span} {E : List Edge} (h : Paired S E) {q : Nat} {t : Int} (hq : (timesT S)[q]? = some t) :
    ∃ k : Int, (k = 0 ∨ k = 1) ∧ E[2 * q]? = some ⟨t, k, if q % 2 = 0 then 1 else -1⟩ ∧ E[2 * q + 1]? = some ⟨t, 1 - k, if q % 2 = 0 then 1 else -1⟩ := by
  have hlt : q < (timesT S).length := (List.getElem?_eq_some_iff.1 hq).1
  rw [timesT_length] at hlt
  obtain ⟨s, hs⟩ : ∃ s, S[q / 2]? = some s := ⟨S[q / 2]'(by omega), List.getElem?_eq_getElem _⟩
  obtain ⟨k, k', hk, hk', h1, h2, h3, h4⟩ := h.at_ hs
  obtain ⟨t1, t2⟩ := timesT_even hs
  by_cases hp : q % 2 = 0
  · rw [show 2 * (q / 2) = q by omega, hq] at t1
    cases t1
    rw [show 4 * (q / 2) = 2 * q by omega] at h1
    rw [show 4 * (q / 2) + 1 = 2 * q + 1 by omega] at h2
    rw [if_pos hp]
    exact ⟨k, hk, h1, h2⟩
  · rw [show 2 * (q / 2) + 1 = q by omega, hq] at t2
    cases t2
    rw [show 4 * (q / 2) + 2 = 2 * q by omega] at h3
    rw [show 4 * (q / 2) + 3 = 2 * q + 1 by omega] at h4
    rw [if_neg hp]
    exact ⟨k', hk', h3, h4⟩

theorem timesT_sorted {S : List Span} (h : S.Pairwise (fun a b => a.2 < b.1)) (hl : ∀ s ∈ S, s.1 < s.2) : (timesT S).Pairwise (· < ·) := by
  unfold timesT
  induction S with
  | nil => exact List.Pairwise.nil
  | cons s S ih =>
    have h' := List.pairwise_cons.1 h
    have hs := hl s (by simp)
    rw [List.flatMap_cons]
    refine List.pairwise_append.2 ⟨?_, ih h'.2 (fun x hx => hl x (by simp [hx])), ?_⟩
    · refine List.pairwise_cons.2 ⟨?_, List.pairwise_singleton _ _⟩
      intro x hx
      rw [List.mem_singleton] at hx
      subst hx
      exact hs
    · intro x hx y hy
      obtain ⟨z, hz, hy⟩ := List.mem_flatMap.1 hy
      have h1 := h'.1 z hz
      have h2 := hl z (by simp [hz])
      simp only [List.mem_cons, List.not_mem_nil, or_false] at hx hy
      rcases hx with rfl | rfl <;> rcases hy with rfl | rfl <;> omega

theorem timesT_next {S : List Span} (h : S.Pairwise (fun a b => a.2 < b.1)) (hl : ∀ s ∈ S, s.1 < s.2) {q : Nat} {t u : Int} (hq : (timesT S)[q]? = some t) (hu : (timesT S)[q + 1]? = some u) : t < u := by
  have := List.pairwise_iff_getElem.1 (timesT_sorted h hl)
  obtain ⟨h1, rfl⟩ := List.getElem?_eq_some_iff.1 hq
  obtain ⟨h2, rfl⟩ := List.getElem?_eq_some_iff.1 hu
  exact this q (q + 1) h1 h2 (by omega)

end Go.Proofs.YteandmolnbcmmaaGreatDoor

namespace Go.Proofs.YteandmolnbcmmaaGreatDoor

/-- A byte behind a string. -/
def suf (c : UInt8) (s : ByteArray) : ByteArray := ⟨(s.data.toList ++ [c]).toArray⟩

theorem lt_app (c : UInt8) : ∀ l : List UInt8, l < l ++ [c]
  | [] => by simp
  | a :: l => by
    rw [List.cons_append, List.cons_lt_cons_iff]
    exact .inr ⟨rfl, lt_app c l⟩

theorem sLt_suf (c : UInt8) (s : ByteArray) : sLt s (suf c s) := by
  exact lt_app c s.data.toList

theorem suf_size (c : UInt8) (s : ByteArray) : (suf c s).size = s.size + 1 := by
  show (s.data.toList ++ [c]).toArray.size = s.data.size + 1
  rw [List.size_toArray, List.length_append, Array.length_toList]
  rfl

/-- The twin. -/
def twin (x : Rule) : Rule := { x with key := suf 122 x.key }

theorem twin_ren (x : Rule) : twin x = renR (suf 122) id x := rfl

theorem chkR_two {x y : Rule} (hx : chkR [x] = 0) (hy : chkR [y] = 0) (h : sLt x.key y.key) : chkR [x, y] = 0 := by
  unfold chkR at *
  simp only [List.length_cons, List.length_nil] at *
  rw [if_neg (by omega)] at *
  simp only [chkRFrom] at *
  have h1 : ruleFault none x = 0 := by
    by_cases e : ruleFault none x = 0
    · exact e
    · rw [if_pos e] at hx; exact absurd hx e
  have h2 : ruleFault none y = 0 := by
    by_cases e : ruleFault none y = 0
    · exact e
    · rw [if_pos e] at hy; exact absurd hy e
  have h3 : ruleFault (some x) y = 0 := by
    have e1 : ¬ ∃ q, some x = some q ∧ ¬ sLt q.key y.key := by
      rintro ⟨q, hq, hn⟩
      cases hq
      exact hn h
    have e2 : ¬ ∃ q, (none : Option Rule) = some q ∧ ¬ sLt q.key y.key := by
      rintro ⟨q, hq, _⟩
      cases hq
    unfold ruleFault at h2 ⊢
    rw [if_neg e1]
    rw [if_neg e2] at h2
    exact h2
  rw [if_neg (by rw [h1]; simp), if_neg (by rw [h3]; simp)]

theorem cutS_twin {x : Rule} {l : List Samp} (hr : GoodR x) (hl : GoodL l) (w : Int × Int) : cutS w (whole (twin x) l) = (cutS w (whole x l)).map (renSR (suf 122)) := by
  rw [cutS_whole, cutS_whole, List.map_flatMap]
  refine flatMap_congr' fun d _ => ?_
  unfold unit
  rw [twin_ren, spansOf_renR (k := suf 122) (p := id) x _ hr (seen_sorted hl.order _ _) (seen_good hl.each _ _), List.map_map]
  rfl

theorem spansD_ren (k : ByteArray → ByteArray) (C : List Spell) (d : ByteArray) : spansD (C.map (renSR k)) d = spansD C d := by
  unfold spansD
  rw [List.filter_map, List.map_map]
  rfl

theorem edL_two (C : List Spell) (k : ByteArray → ByteArray) (d : ByteArray) : edL 0 [C, C.map (renSR k)] d = edgesK 0 (spansD C d) ++ edgesK 1 (spansD C d) := by
  simp only [edL, edS, List.append_nil, spansD_ren]
  rfl

theorem told_noRule {x : Rule} {l : List Samp} (hr : GoodRs [x]) (hl : GoodL l) (w : Int × Int) : Told spKey ((cutS w (whole x l)).map noRule) := by
  rw [← rawOf_one x l w]
  have ht := raw_told hr hl w
  have hrule : ∀ s ∈ rawOf [x] l w, s.rule = x.key := by
    intro s hs
    obtain ⟨r, hr1, hs2, _⟩ := mem_raw hs
    simp at hr1
    subst hr1
    exact (mem_unit hs2).2.1
  intro a ha b hb e
  obtain ⟨a, ha2, rfl⟩ := List.mem_map.1 ha
  obtain ⟨b, hb2, rfl⟩ := List.mem_map.1 hb
  have e1 := hrule a ha2
  have e2 := hrule b hb2
  have : a = b := by
    refine ht a ha2 b hb2 ?_
    simp only [spKey, noRule, Prod.mk.injEq, and_true] at e
    unfold spKey
    rw [e.1, e.2, e1, e2]
  rw [this]

/-- What Quorum gives for the two. -/
theorem law_twins2 {x : Rule} {l : List Samp} {w : Int × Int} {D : List ByteArray} {Y : List Spell} (hr : GoodRs [x]) (hl : GoodL l) (hD : D.Nodup) (hin : ∀ s ∈ cutS w (whole x l), s.device ∈ D)
    (hY : Y.Perm (D.flatMap fun d => (spansD (cutS w (whole x l)) d).map fun s => (⟨d, ByteArray.empty, s.1, s.2⟩ : Spell))) (hs : Y.Pairwise fun a b => ¬ lt3 (spKey b) (spKey a)) : Y = (spells [x] l w).map noRule := by
  have hp := both_perm hD hin
  rw [← law_twins hr hl hp]
  have ht := told_noRule hr hl w
  exact sort3_of spKey (fun a ha b hb => ht a (hp.subset ha) b (hp.subset hb)) hY hs

/-- The sorted edges of one device come in pairs. -/
theorem paired_dev {x : Rule} {l : List Samp} {w : Int × Int} {d : ByteArray} {E : List Edge} (hr : GoodR x) (hl : GoodL l) (hp : E.Perm (edL 0 [cutS w (whole x l), cutS w (whole (twin x) l)] d))
    (hs : E.Pairwise fun a b => ¬ b.at_ < a.at_) : Paired (spansD (cutS w (whole x l)) d) E := by
  rw [cutS_twin hr hl, edL_two] at hp
  have ha := (cut_apart hr hl w).spans d
  exact paired_of ha.1 ha.2 hs (hp.trans (edges_four _))

end Go.Proofs.YteandmolnbcmmaaGreatDoor
