/- One cell stored in a loop that turns an own slice, whatever its elements. No condition beyond what each theorem states. -/
import Derived.Test.YteandmolnbcmmaaGreatDoorMA

namespace Go.Proofs.YteandmolnbcmmaaGreatDoor
open Go.RowKit Go.Sort

section
variable {α : Type} {enc : α → List Value} {f : α → α} {e : TypeId} {k base : Nat} {w0 wr : World} {g off n cap : Nat} {L : List α} {i : Nat} {x : α}
theorem InP.step (hk : ∀ x, (enc x).length = k) (hn : L.length = n) (h : InP enc f e k base w0 wr (.slice (some ⟨g, off, none⟩) n cap) L i) (hx : L[i]? = some x) (j : Nat) (hj : j < k) {u : Value} (hu : enc (f x) = (enc x).set j u) :
    InP enc f e k base w0 (wr.setCell ⟨g, off + i * k + j, none⟩ u) (.slice (some ⟨g, off, none⟩) n cap) L (i + 1) := by
  subst hn
  refine ⟨?_, h.kp.setCell (by simp [Value.ownBlock]) _⟩
  have := h.own.setAt (i * k + j) u
  rw [flatE_set hk (updL_get hx) hu hj, updL_set hx] at this
  rw [Nat.add_assoc]
  exact this

theorem InP.step2 (hk : ∀ x, (enc x).length = k) (hn : L.length = n) (h : InP enc f e k base w0 wr (.slice (some ⟨g, off, none⟩) n cap) L i) (hx : L[i]? = some x) (y : α) (j j' : Nat) (hj : j < k) (hj' : j' < k) {u u' : Value} (hy : enc y = (enc x).set j u) (hu : enc (f x) = (enc y).set j' u') :
    InP enc f e k base w0 ((wr.setCell ⟨g, off + i * k + j, none⟩ u).setCell ⟨g, off + i * k + j', none⟩ u') (.slice (some ⟨g, off, none⟩) n cap) L (i + 1) := by
  subst hn
  refine ⟨?_, (h.kp.setCell (by simp [Value.ownBlock]) _).setCell (by simp [Value.ownBlock]) _⟩
  have := (h.own.setAt (i * k + j) u).setAt (i * k + j') u'
  have hl := (List.getElem?_eq_some_iff.1 (updL_get (f := f) hx)).1
  rw [flatE_set hk (updL_get hx) hy hj, flatE_set hk (x := y) (by rw [List.getElem?_set_self hl]) hu hj', List.set_set, updL_set hx] at this
  rw [Nat.add_assoc, Nat.add_assoc]
  exact this

theorem InP.drew {v : Value} (h : InP enc f e k base w0 wr v L i) : InP enc f e k base w0 wr.drew v L i := ⟨h.own.drew, h.kp.drew⟩

theorem InP.cell (hk : ∀ x, (enc x).length = k) (hn : L.length = n) (h : InP enc f e k base w0 wr (.slice (some ⟨g, off, none⟩) n cap) L i) (hx : L[i]? = some x) (j : Nat) {u : Value} (hu : (enc x)[j]? = some u) : wr.cell? ⟨g, off + i * k + j, none⟩ = some u := by
  subst hn
  rw [Nat.add_assoc]
  exact h.own.cell _ _ (flatE_get hk _ _ _ (updL_get hx) j _ hu)

theorem InP.frozen (hn : L.length = n) (h : InP enc f e k base w0 wr (.slice (some ⟨g, off, none⟩) n cap) L i) (o : Nat) : wr.frozen? ⟨g, o, none⟩ = false := by
  subst hn
  exact h.own.frozen o

theorem InP.form {A : Option Addr} (hn : L.length = n) (h : InP enc f e k base w0 wr (.slice A n cap) L i) (h0 : 0 < n) : ∃ g off, A = some ⟨g, off, none⟩ := by
  subst hn
  obtain ⟨g, off, cap', hv, _⟩ := h.own.form h0
  simp only [Value.slice.injEq, true_and] at hv
  exact ⟨g, off, hv.1⟩
end

theorem key_small {s : ByteArray} (h : keyB s = true) : s.size ≤ 40 := by
  obtain ⟨⟨l⟩⟩ := s
  unfold keyB at h
  cases l with
  | nil => exact Nat.zero_le _
  | cons c l =>
    simp only [keyL, Bool.and_eq_true, decide_eq_true_eq] at h
    exact h.1.1

theorem spells_keys {rs : List Rule} {l : List Samp} {w : Int × Int} (hr : GoodRs rs) (hl : GoodL l) {s : Spell} (h : s ∈ spells rs l w) : s.device.size ≤ 40 ∧ s.rule.size ≤ 40 := by
  unfold spells at h
  obtain ⟨r, hr', hu, hd⟩ := mem_raw ((sort3_perm spKey _).subset h)
  obtain ⟨x, hx, _, he⟩ := (mem_devs _ _ _).1 hd
  refine ⟨?_, ?_⟩
  · rw [← he]
    exact key_small (hl.each x hx).device
  · unfold unit at hu
    obtain ⟨y, _, hy⟩ := List.mem_map.1 hu
    have hk : s.rule = r.key := by rw [← hy]; rfl
    rw [hk]
    exact key_small (hr.each r hr').2.1

theorem cat_pre (c : UInt8) (s : ByteArray) : (⟨#[c]⟩ : ByteArray) ++ s = pre c s := by
  apply ByteArray.ext
  rw [ByteArray.data_append]
  apply Array.ext'
  simp [pre]

theorem pre_size (c : UInt8) (s : ByteArray) : (pre c s).size = s.size + 1 := by
  rw [← cat_pre, ByteArray.size_append]
  exact Nat.add_comm 1 s.size
end Go.Proofs.YteandmolnbcmmaaGreatDoor
