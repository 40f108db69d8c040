/- What stands in memory while rule.sweep goes over the edges of a device. What rule.sweep leaves; an iterator's step and what stands beside it. No condition beyond what each theorem states. -/
import Derived.Test.YteandmolnbcmmaaGreatDoorRC
import Derived.Test.YteandmolnbcmmaaGreatDoorKT
import Derived.Test.YteandmolnbcmmaaGreatDoorLA

namespace Go.Proofs.YteandmolnbcmmaaGreatDoor
open Go.RowKit Go.Sort

/-- The spells of a device without a rule. -/
def mkE (d : ByteArray) (s : Span) : Spell := ⟨d, ⟨#[]⟩, s.1, s.2⟩

/-- base: the heap's size once the range has begun; r: its iterator; b: the map. tb: the block of what is there. -/
structure SW (w2 wr : World) (b r n tb : Nat) (x y : Int) (f : ByteArray → Option Value) (D : List ByteArray) (v : Value) (X : List Spell) : Prop where
  out : Own wr w2.heap.size 34 4 v X.length (flatE encSp X)
  th : Blk wr tb 3 #[.int .i64 x, .int .i64 y]
  far : w2.heap.size ≤ tb
  rng : RangeIs Tryz.prog 9 wr b r n f D
  rlt : r < w2.heap.size
  blt : b < w2.heap.size
  kp : Keeps (fun k => k < w2.heap.size ∧ k ≠ r) w2 wr

section
variable {w2 wr wy : World} {b r n tb : Nat} {x y : Int} {f : ByteArray → Option Value} {D : List ByteArray} {v v' : Value} {X Y : List Spell}

theorem SW.kept (h : SW w2 wr b r n tb x y f D v X) (hk : Keeps (· < wr.heap.size) wr wy) : SW w2 wy b r n tb x y f D v X where
  out := h.out.same fun g hg => hk.block g (h.out.lt g hg).2
  th := (hk.block _ h.th.lt).trans h.th
  far := h.far
  rng := h.rng.same (hk.block _ h.rng.map.lt) (hk.block _ h.rng.lt)
  rlt := h.rlt
  blt := h.blt
  kp := h.kp.trans (hk.mono fun _ hk' => Nat.lt_of_lt_of_le hk'.1 h.kp.size)

theorem SW.drew (h : SW w2 wr b r n tb x y f D v X) : SW w2 wr.drew b r n tb x y f D v X := h.kept (Keeps.refl _ wr).drew
theorem SW.drewN (h : SW w2 wr b r n tb x y f D v X) (m : Nat) : SW w2 (wr.drewN m) b r n tb x y f D v X := h.kept ((Keeps.refl _ wr).drewN m)
theorem SW.grows (h : SW w2 wr b r n tb x y f D v X) (hg : Grows wr wy) : SW w2 wy b r n tb x y f D v X := h.kept (Keeps.of_grows hg fun _ h => h)
theorem SW.alloc (h : SW w2 wr b r n tb x y f D v X) (o : Obj) : SW w2 (wr.alloc o) b r n tb x y f D v X := h.kept ((Keeps.refl _ wr).alloc (fun _ h => h) o)

theorem SW.left (h : SW w2 wr b r n tb x y f D v X) (hk : Keeps (· < wr.heap.size) wr wy) : wy.rangeLeft b r = wr.rangeLeft b r :=
  rangeLeft_same (hk.block _ h.rng.map.lt) (hk.block _ h.rng.lt)

theorem SW.put0 (h : SW w2 wr b r n tb x y f D v X) (u : Int) : SW w2 (wr.setCell ⟨tb, 0, none⟩ (.int .i64 u)) b r n tb u y f D v X where
  out := h.out.same fun g hg => Below.heap_setCell wr _ _ g (fun e => h.out.ne_blk h.th (by decide) (by rw [hg, e]))
  th := h.th.set_ 0 _
  far := h.far
  rng := h.rng.same (Below.heap_setCell wr _ _ _ (fun e => by have := h.blt; have := h.far; have e' : b = tb := e; omega)) (Below.heap_setCell wr _ _ _ (fun e => by have := h.rlt; have := h.far; have e' : r = tb := e; omega))
  rlt := h.rlt
  blt := h.blt
  kp := h.kp.setCell (fun e => by have := h.far; have e' : tb < w2.heap.size := e.1; omega) _

theorem SW.put1 (h : SW w2 wr b r n tb x y f D v X) (u : Int) : SW w2 (wr.setCell ⟨tb, 1, none⟩ (.int .i64 u)) b r n tb x u f D v X where
  out := h.out.same fun g hg => Below.heap_setCell wr _ _ g (fun e => h.out.ne_blk h.th (by decide) (by rw [hg, e]))
  th := h.th.set_ 1 _
  far := h.far
  rng := h.rng.same (Below.heap_setCell wr _ _ _ (fun e => by have := h.blt; have := h.far; have e' : b = tb := e; omega)) (Below.heap_setCell wr _ _ _ (fun e => by have := h.rlt; have := h.far; have e' : r = tb := e; omega))
  rlt := h.rlt
  blt := h.blt
  kp := h.kp.setCell (fun e => by have := h.far; have e' : tb < w2.heap.size := e.1; omega) _

theorem left_set {p : Addr} (u : Value) (hb : b ≠ p.block) (hr : r ≠ p.block) : (wr.setCell p u).rangeLeft b r = wr.rangeLeft b r :=
  rangeLeft_same (Below.heap_setCell wr _ _ _ hb) (Below.heap_setCell wr _ _ _ hr)

theorem SW.app (h : SW w2 wr b r n tb x y f D v X) (hg : wr.grownBy wy v.ownBlock) (ho : Own wy w2.heap.size 34 4 v' Y.length (flatE encSp Y)) : SW w2 wy b r n tb x y f D v' Y where
  out := ho
  th := h.th.grown hg fun e => h.out.ne_blk h.th (by decide) e.symm
  far := h.far
  rng := h.rng.same (hg.block _ h.rng.map.lt fun e => by have := (h.out.lt _ e.symm).1; have := h.blt; omega) (hg.block _ h.rng.lt fun e => by have := (h.out.lt _ e.symm).1; have := h.rlt; omega)
  rlt := h.rlt
  blt := h.blt
  kp := h.kp.trans ((Keeps.refl _ _).grown hg (fun k hk => Nat.lt_of_lt_of_le hk.1 h.kp.size) fun g e hk => by have := (h.out.lt g e).1; omega)

theorem SW.left_app (h : SW w2 wr b r n tb x y f D v X) (hg : wr.grownBy wy v.ownBlock) : wy.rangeLeft b r = wr.rangeLeft b r :=
  rangeLeft_same (hg.block _ h.rng.map.lt fun e => by have := (h.out.lt _ e.symm).1; have := h.blt; omega) (hg.block _ h.rng.lt fun e => by have := (h.out.lt _ e.symm).1; have := h.rlt; omega)
end

end Go.Proofs.YteandmolnbcmmaaGreatDoor

namespace Go.Proofs.YteandmolnbcmmaaGreatDoor
open Go.RowKit Go.Sort

/-- The times rise. -/
def TSorted (S : List Span) : Prop := (timesT S).Pairwise (· < ·)

theorem times_lt {S : List Span} (h : TSorted S) {q : Nat} {t u : Int} (hq : (timesT S)[q]? = some t) (hu : (timesT S)[q + 1]? = some u) : t < u := by
  have := List.pairwise_iff_getElem.1 h
  obtain ⟨h1, rfl⟩ := List.getElem?_eq_some_iff.1 hq
  obtain ⟨h2, rfl⟩ := List.getElem?_eq_some_iff.1 hu
  exact this q (q + 1) h1 h2 (by omega)

/-- The counts of both rules after j of the two edges of a time; k: the first one's rule, x: the counts ahead, c: by. -/
def ST (j : Nat) (k x c u0 u1 : Int) : Prop :=
  (j = 0 ∧ u0 = x ∧ u1 = x) ∨ (j = 1 ∧ k = 0 ∧ u0 = x + c ∧ u1 = x) ∨ (j = 1 ∧ k = 1 ∧ u0 = x ∧ u1 = x + c) ∨ (j = 2 ∧ u0 = x + c ∧ u1 = x + c)

theorem ST.next {j : Nat} {k x c u0 u1 : Int} (h : ST j k x c u0 u1) (hj : j < 2) (hk : k = 0 ∨ k = 1) :
    ((if j = 0 then k else 1 - k) = 0 ∧ ST (j + 1) k x c (u0 + c) u1) ∨ ((if j = 0 then k else 1 - k) = 1 ∧ ST (j + 1) k x c u0 (u1 + c)) := by
  unfold ST at *
  rcases h with ⟨rfl, rfl, rfl⟩ | ⟨rfl, rfl, rfl, rfl⟩ | ⟨rfl, rfl, rfl, rfl⟩ | ⟨rfl, _, _⟩
  · rcases hk with rfl | rfl
    · exact .inl ⟨rfl, .inr (.inl ⟨rfl, rfl, rfl, rfl⟩)⟩
    · exact .inr ⟨rfl, .inr (.inr (.inl ⟨rfl, rfl, rfl, rfl⟩))⟩
  · exact .inr ⟨rfl, .inr (.inr (.inr ⟨rfl, rfl, rfl⟩))⟩
  · exact .inl ⟨rfl, .inr (.inr (.inr ⟨rfl, rfl, rfl⟩))⟩
  · omega

theorem ST.done {k x c u0 u1 : Int} (h : ST 2 k x c u0 u1) : u0 = x + c ∧ u1 = x + c := by
  unfold ST at h
  rcases h with ⟨h, _⟩ | ⟨h, _⟩ | ⟨h, _⟩ | ⟨_, h⟩
  · omega
  · omega
  · omega
  · exact h

theorem ST.bound {j : Nat} {k x c u0 u1 : Int} (h : ST j k x c u0 u1) (hx : x = 0 ∨ x = 1) (hc : c = 1 ∨ c = -1) : -1 ≤ u0 ∧ u0 ≤ 2 ∧ -1 ≤ u1 ∧ u1 ≤ 2 := by
  unfold ST at h
  omega

/-- The edges of a slice, wherever nothing of what was there has turned but the iterator. -/
def EdgesAt (w2 : World) (r g off : Nat) (E : List Edge) : Prop :=
  ∀ W : World, Keeps (fun k => k < w2.heap.size ∧ k ≠ r) w2 W → ∀ (j : Nat) (e : Edge), E[j]? = some e →
    W.cell? ⟨g, off + j * 3, none⟩ = some (.int .i64 e.at_) ∧ W.cell? ⟨g, off + j * 3 + 1, none⟩ = some (.int .i64 e.rule) ∧ W.cell? ⟨g, off + j * 3 + 2, none⟩ = some (.int .i64 e.by_)

theorem edgesAt {w2 : World} {base r g off N c : Nat} {E : List Edge} (h : Own w2 base 166 3 (.slice (some ⟨g, off, none⟩) N c) N (flatE encEd E)) (hr : g ≠ r) : EdgesAt w2 r g off E := by
  intro W hK j e hj
  have hlt := (h.lt g rfl).2
  have hc : ∀ (i : Nat) (u : Value), (encEd e)[i]? = some u → W.cell? ⟨g, off + (j * 3 + i), none⟩ = some u := fun i u hu =>
    hK.cell ⟨hlt, hr⟩ (h.cell _ _ (flatE_get encEd_len E j e hj i u hu))
  refine ⟨hc 0 _ rfl, ?_, ?_⟩
  · rw [Nat.add_assoc]; exact hc 1 _ rfl
  · rw [Nat.add_assoc]; exact hc 2 _ rfl

/-- The q-th pair, and where the next one begins. -/
theorem two_at {T : List Span} {E : List Edge} (h : Paired T E) {q i' : Nat} {t : Int} (hi : i' = 2 * q) (ht : (timesT T)[q]? = some t) :
    ∃ k : Int, (k = 0 ∨ k = 1) ∧ ∀ j, j < 2 → E[i' + j]? = some ⟨t, if j = 0 then k else 1 - k, if q % 2 = 0 then 1 else -1⟩ := by
  obtain ⟨k, hk, h0, h1⟩ := h.two ht
  refine ⟨k, hk, fun j hj => ?_⟩
  subst hi
  match j, hj with
  | 0, _ => exact h0
  | 1, _ => exact h1

def SwPost (w : World) (Ls : List (List Spell)) (S : ByteArray → List Span) (q : Bool) (e : Ending) (w' : World) : Prop :=
  ∃ (ov : Value) (D : List ByteArray) (Y : List Spell), e = .returned ov ∧ Own w' w.heap.size 34 4 ov Y.length (flatE encSp Y) ∧ D.Nodup ∧ (∀ d, d.size ≤ maxLen → edL 0 Ls d ≠ [] → d ∈ D) ∧
    Y.Perm (if q then D.flatMap fun d => (S d).map (mkE d) else []) ∧ (Y.Pairwise fun a b => ¬ lt3 (spKey b) (spKey a)) ∧ Below w.heap.size w w'

end Go.Proofs.YteandmolnbcmmaaGreatDoor
