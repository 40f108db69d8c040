/- A slice of the call's own, wherever it begins in its block: what it holds, append, and the cut of the first element. Walks: (*track).turn, due, now. Walks: (*track).due, now. No condition beyond what each theorem states. -/
import Derived.Laws.AppendOwn
import Derived.Test.YteandmolnbcmmaaGreatDoorKF
import Derived.Test.YteandmolnbcmmaaGreatDoorKG

namespace Go.Proofs.YteandmolnbcmmaaGreatDoor
open Go.RowKit Go.Sort

/-- The slice value v holds the cells xs (n elements of k cells) in a block of its own, of element type e. -/
def Own (w : World) (base : Nat) (e : TypeId) (k : Nat) (v : Value) (n : Nat) (xs : List Value) : Prop :=
  xs.length = n * k ∧
  ((v = .slice none 0 0 ∧ n = 0) ∨
   ∃ g off cap cur, v = .slice (some ⟨g, off, none⟩) n cap ∧ base ≤ g ∧ w.heap[g]? = some (.cells cur e (0, 0)) ∧ n ≤ cap ∧ cap ≤ maxLen ∧ off + cap * k ≤ cur.size ∧ (cur.toList.drop off).take (n * k) = xs)

theorem Own.nil (w : World) (base : Nat) (e : TypeId) (k : Nat) : Own w base e k (.slice none 0 0) 0 [] := ⟨by simp, .inl ⟨rfl, rfl⟩⟩

theorem Own.lt {w : World} {base : Nat} {e : TypeId} {k : Nat} {v : Value} {n : Nat} {xs : List Value} (h : Own w base e k v n xs) : ∀ g, v.ownBlock = some g → base ≤ g ∧ g < w.heap.size := by
  intro g hg
  rcases h.2 with ⟨rfl, _⟩ | ⟨g', off, cap, cur, rfl, hb, hgg, _⟩
  · simp [Value.ownBlock] at hg
  · simp [Value.ownBlock] at hg
    subst hg
    exact ⟨hb, (Array.getElem?_eq_some_iff.1 hgg).1⟩

theorem Own.kept {w w' : World} {base : Nat} {e : TypeId} {k : Nat} {v : Value} {n : Nat} {xs : List Value} {row : Option Nat} (h : Own w base e k v n xs) (hg : w.grownBy w' row) (hne : v.ownBlock = none ∨ v.ownBlock ≠ row) : Own w' base e k v n xs := by
  refine ⟨h.1, ?_⟩
  rcases h.2 with hn | ⟨g, off, cap, cur, rfl, hb, hgg, rest⟩
  · exact .inl hn
  · refine .inr ⟨g, off, cap, cur, rfl, hb, ?_, rest⟩
    rw [hg.block g (Array.getElem?_eq_some_iff.1 hgg).1 (by simpa [Value.ownBlock] using hne)]
    exact hgg

theorem Own.same {w w' : World} {base : Nat} {e : TypeId} {k : Nat} {v : Value} {n : Nat} {xs : List Value} (h : Own w base e k v n xs) (hg : ∀ g, v.ownBlock = some g → w'.heap[g]? = w.heap[g]?) : Own w' base e k v n xs := by
  refine ⟨h.1, ?_⟩
  rcases h.2 with hn | ⟨g, off, cap, cur, rfl, hb, hgg, rest⟩
  · exact .inl hn
  · exact .inr ⟨g, off, cap, cur, rfl, hb, (hg g rfl).trans hgg, rest⟩

theorem Own.drew {w : World} {base : Nat} {e : TypeId} {k : Nat} {v : Value} {n : Nat} {xs : List Value} (h : Own w base e k v n xs) : Own w.drew base e k v n xs := h
theorem Own.drewN {w : World} {base : Nat} {e : TypeId} {k : Nat} {v : Value} {n : Nat} {xs : List Value} (h : Own w base e k v n xs) (m : Nat) : Own (w.drewN m) base e k v n xs := h
theorem Own.alloc {w : World} {base : Nat} {e : TypeId} {k : Nat} {v : Value} {n : Nat} {xs : List Value} (h : Own w base e k v n xs) (o : Obj) : Own (w.alloc o) base e k v n xs :=
  h.kept (World.grownBy_alloc w o none) (by cases hv : v.ownBlock <;> simp)

/-- Element i's cell j. -/
theorem Own.cell {w : World} {base : Nat} {e : TypeId} {k : Nat} {n : Nat} {xs : List Value} {g off cap : Nat} (h : Own w base e k (.slice (some ⟨g, off, none⟩) n cap) n xs) : (∀ j u, xs[j]? = some u → w.cell? ⟨g, off + j, none⟩ = some u) := by
  intro j u hu
  rcases h.2 with ⟨hv, _⟩ | ⟨g', off', cap', cur, hv, _, hgg, _, _, _, htake⟩
  · cases hv
  · simp only [Value.slice.injEq, Option.some.injEq, Addr.mk.injEq] at hv
    obtain ⟨⟨rfl, rfl, _⟩, _, _⟩ := hv
    rw [cell_of_row w g (off + j) cur e (0, 0) hgg]
    rw [← htake, List.getElem?_take] at hu
    split at hu
    · rw [List.getElem?_drop] at hu
      simpa using hu
    · cases hu

theorem Own.form {w : World} {base : Nat} {e : TypeId} {k : Nat} {v : Value} {n : Nat} {xs : List Value} (h : Own w base e k v n xs) (hn : 0 < n) : ∃ g off cap, v = .slice (some ⟨g, off, none⟩) n cap ∧ n ≤ cap ∧ base ≤ g ∧ g < w.heap.size := by
  rcases h.2 with ⟨_, h0⟩ | ⟨g, off, cap, cur, rfl, hb, hgg, hc, _⟩
  · omega
  · exact ⟨g, off, cap, rfl, hc, hb, (Array.getElem?_eq_some_iff.1 hgg).1⟩

theorem Own.slice {w : World} {base : Nat} {e : TypeId} {k : Nat} {v : Value} {n : Nat} {xs : List Value} (h : Own w base e k v n xs) : ∃ A c, v = .slice A n c ∧ n ≤ c := by
  rcases h.2 with ⟨rfl, h0⟩ | ⟨g, off, cap, cur, rfl, _, _, hc, _⟩
  · exact ⟨none, 0, by rw [h0], by omega⟩
  · exact ⟨_, cap, rfl, hc⟩

section
variable {P : Program} (w : World)

theorem run_append_room_at (t ty e : TypeId) (i : TypeInfo) (ht : P.underlying t = some (.slice e)) (hi : P.info? e = some i)
    (g off sLen sCap : Nat) (cur : Array Value) (hg : w.heap[g]? = some (.cells cur e (0, 0)))
    (a : Addr) (m c : Nat) (news : List Value) (hl : news.length = m * i.size) (hnews : ∀ j u, news[j]? = some u → w.cell? (a.add j) = some u) (h1 : ∀ u ∈ news, u.oneCell' = true)
    (hroom : sLen + m ≤ sCap) (hfit : off + sLen * i.size + news.length ≤ cur.size) :
    (Builtin.append_ #[t, t] ty #[.slice (some ⟨g, off, none⟩) sLen sCap, .slice (some a) m c]).run P w =
      .ok (.slice (some ⟨g, off, none⟩) (sLen + m) sCap) (w.setRow g (cur.toList.take (off + sLen * i.size) ++ news ++ cur.toList.drop (off + sLen * i.size + news.length)).toArray) := by
  have hf := run_firstCells_some (P := P) w i.size m a m c news hl hnews
  have hst := run_storeCells_at P g (off + sLen * i.size) e news 0 cur w hg (by simpa using hfit) h1
  simp only [Nat.add_zero] at hst
  have hadd : (⟨g, off, none⟩ : Addr).add (sLen * i.size) = ⟨g, off + sLen * i.size, none⟩ := by unfold Addr.add; split <;> simp_all
  simp [Builtin.append_, run_underlying ht, sizeOf, typeInfo, hi, Builtin.lenOf, hroom, hf, hadd, hst]

/-- append to a slice of the call's own. -/
theorem run_append_Own (base : Nat) (t ty e : TypeId) (i : TypeInfo) (z : Value) (size bytes : Nat) (ht : P.underlying t = some (.slice e)) (hi : P.info? e = some i) (hz : i.zero = some z)
    (hsize : i.size = size) (hby : i.bytes = bytes) (hzs : z.cells.size = size) (hsz : 0 < size)
    (v : Value) (n : Nat) (xs : List Value) (hown : Own w base e size v n xs)
    (a : Addr) (m c : Nat) (news : List Value) (hl : news.length = m * size) (hnews : ∀ j u, news[j]? = some u → w.cell? (a.add j) = some u) (h1 : ∀ u ∈ news, u.oneCell' = true)
    (h63 : n + m ≤ maxLen) (hbytes : (n + m) * bytes ≤ 140737488355328) (hbase : base ≤ w.heap.size) :
    ∃ v' w', (Builtin.append_ #[t, t] ty #[v, .slice (some a) m c]).run P w = .ok v' w' ∧ Own w' base e size v' (n + m) (xs ++ news) ∧ w.grownBy w' v.ownBlock ∧
      (v'.ownBlock = v.ownBlock ∨ ∃ g, v'.ownBlock = some g ∧ w.heap.size ≤ g) := by
  subst hsize
  subst hby
  have hsmall : n + m ≤ 9223372036854775807 := by simp only [maxLen] at h63; omega
  have hlen : (xs ++ news).length = (n + m) * i.size := by rw [List.length_append, hown.1, hl, Nat.add_mul]
  have grown : ∀ (old : Nat), old < n + m → ∀ (row : Option Nat),
      Own (w.drew.alloc (.cells (xs.toArray ++ news.toArray ++ Builtin.zeroCells z.cells (grownCap w (n + m) old e - (n + m))) e)) base e i.size
        (.slice (some ⟨w.heap.size, 0, none⟩) (n + m) (grownCap w (n + m) old e)) (n + m) (xs ++ news) ∧
      w.grownBy (w.drew.alloc (.cells (xs.toArray ++ news.toArray ++ Builtin.zeroCells z.cells (grownCap w (n + m) old e - (n + m))) e)) row := by
    intro old ho row
    have hge := grownCap_ge w (n + m) old e
    have hcm : grownCap w (n + m) old e ≤ maxLen := grownCap_le_maxLen w (n + m) old e h63
    refine ⟨⟨hlen, .inr ⟨w.heap.size, 0, _, _, rfl, hbase, heap_alloc_new w.drew _, hge, hcm, ?_, ?_⟩⟩, ⟨rfl, rfl, rfl, by simp, fun k hk _ => Below.heap_alloc w.drew _ k hk⟩⟩
    · simp only [Array.size_append, List.size_toArray, size_zeroCells, hzs, hown.1, hl, ← Nat.add_mul, Nat.zero_add]
      exact Nat.mul_le_mul_right _ (by omega)
    · simp only [Array.toList_append, List.append_assoc, List.drop_zero]
      rw [← List.append_assoc, ← hlen]
      exact List.take_left
  rcases hown.2 with ⟨rfl, rfl⟩ | ⟨g, off, cap, cur, rfl, hbg, hg, hnc, hcm, hcs, htake⟩
  · have hx : xs = [] := List.eq_nil_of_length_eq_zero (by simpa using hown.1)
    subst hx
    by_cases hm : m = 0
    · subst hm
      have hn : news = [] := List.eq_nil_of_length_eq_zero (by simpa using hl)
      subst hn
      refine ⟨.slice none 0 0, w, ?_, Own.nil w base e i.size, ⟨rfl, rfl, rfl, Nat.le_refl _, fun _ _ _ => rfl⟩, .inl rfl⟩
      simp [Builtin.append_, run_underlying ht, sizeOf, typeInfo, hi, Builtin.lenOf, Builtin.firstCells, loadCells, loadCellsFrom]
    · have hr := run_append_nil (P := P) w t ty e i z ht hi hz a m c news hl hnews (by omega) (by omega) (by have hb := hbytes; simp only [Nat.zero_add] at hb; omega)
      have hgr := grown 0 (by omega) (Value.ownBlock (.slice none 0 0))
      simp only [Nat.zero_add, List.nil_append, Array.empty_append] at hgr ⊢
      exact ⟨_, _, hr, hgr.1, hgr.2, .inr ⟨_, rfl, Nat.le_refl _⟩⟩
  · by_cases hroom : n + m ≤ cap
    · have hfit : off + n * i.size + news.length ≤ cur.size := by
        rw [hl, Nat.add_assoc, ← Nat.add_mul]
        exact Nat.le_trans (Nat.add_le_add_left (Nat.mul_le_mul_right _ hroom) _) hcs
      have hr := run_append_room_at (P := P) w t ty e i ht hi g off n cap cur hg a m c news hl hnews h1 hroom hfit
      refine ⟨_, _, hr, ⟨hlen, .inr ⟨g, off, cap, _, rfl, hbg, setRow_heap w g cur _ e _ hg, hroom, hcm, ?_, ?_⟩⟩, ⟨rfl, rfl, rfl, by simp, fun k _ hk => setRow_other w g k _ (fun e => hk (by simp [Value.ownBlock, e]))⟩, .inl rfl⟩
      · simp only [List.size_toArray, List.length_append, List.length_take, List.length_drop, Array.length_toList]
        omega
      · have hoff : off ≤ cur.toList.length := by rw [Array.length_toList]; omega
        rw [show cur.toList.take (off + n * i.size) = cur.toList.take off ++ (cur.toList.drop off).take (n * i.size) by rw [List.take_add]]
        rw [htake, ← hlen]
        simp only [List.append_assoc]
        rw [List.drop_append_of_le_length (by rw [List.length_take]; omega), List.drop_eq_nil_of_le (by rw [List.length_take]; omega), List.nil_append, ← List.append_assoc]
        exact List.take_left
    · have hr := run_append_grow (P := P) w t ty e i z ht hi hz ⟨g, off, none⟩ n cap xs hown.1 (fun j u hu => by
          have := Own.cell hown j u hu
          have hadd : (⟨g, off, none⟩ : Addr).add j = ⟨g, off + j, none⟩ := by unfold Addr.add; split <;> simp_all
          rw [hadd]; exact this) a m c news hl hnews (by omega) (by omega) (growslice_fits (by omega) hbytes)
      have hgr := grown cap (by omega) (Value.ownBlock (.slice (some ⟨g, off, none⟩) n cap))
      exact ⟨_, _, hr, hgr.1, hgr.2, .inr ⟨_, rfl, Nat.le_refl _⟩⟩

theorem wpList_append_Own {ops : Array Oper} {rest : List Oper} {o : Oper} {a : Act} {Q : Exit → Act → World → Prop} (hgd : o.guard = none) (s x : Operand) (t : TypeId)
    (ho : o.op = .call { callee := .builtin .append, args := #[s, x], argTypes := #[t, t] })
    (base : Nat) (e : TypeId) (i : TypeInfo) (z : Value) (size bytes : Nat) (ht : P.underlying t = some (.slice e)) (hi : P.info? e = some i) (hz : i.zero = some z)
    (hsize : i.size = size) (hby : i.bytes = bytes) (hzs : z.cells.size = size) (hsz : 0 < size)
    (v : Value) (n : Nat) (xs : List Value) (hs : a.eval s = v) (hown : Own w base e size v n xs)
    (ad : Addr) (m c : Nat) (news : List Value) (hx : a.eval x = .slice (some ad) m c) (hl : news.length = m * size) (hnews : ∀ j u, news[j]? = some u → w.cell? (ad.add j) = some u) (h1 : ∀ u ∈ news, u.oneCell' = true)
    (h63 : n + m ≤ maxLen) (hbytes : (n + m) * bytes ≤ 140737488355328) (hbase : base ≤ w.heap.size)
    (h : ∀ v' w', Own w' base e size v' (n + m) (xs ++ news) → w.grownBy w' v.ownBlock → (v'.ownBlock = v.ownBlock ∨ ∃ g, v'.ownBlock = some g ∧ w.heap.size ≤ g) → wpList P ops Q rest (a.put o.dst v') w') : wpList P ops Q (o :: rest) a w :=
  wpList_plain hgd fun K hK => by
    obtain ⟨v', w', hr, h2, h3, h4⟩ := run_append_Own (P := P) w base t o.type e i z size bytes ht hi hz hsize hby hzs hsz v n xs hown ad m c news hl hnews h1 h63 hbytes hbase
    unfold Oper.wp execOp
    simp only [ho, resolve, invoke, builtin, Sem.run_bind, Sem.run_pure, Result.andThen_ok, List.map_toArray, List.map_cons, List.map_nil, hs, hx, hr]
    exact hK _ _ (h v' w' h2 h3 h4)
end

end Go.Proofs.YteandmolnbcmmaaGreatDoor

namespace Go.Proofs.YteandmolnbcmmaaGreatDoor
open Go.RowKit Go.Sort

/-- A block that is known whole. -/
def Blk (w : World) (g : Nat) (t : TypeId) (cs : Array Value) : Prop := w.heap[g]? = some (.cells cs t (0, 0))

section
variable {w w' : World} {g : Nat} {t : TypeId} {cs : Array Value}
theorem Blk.lt (h : Blk w g t cs) : g < w.heap.size := by
  rcases Nat.lt_or_ge g w.heap.size with hlt | hge
  · exact hlt
  · unfold Blk at h; rw [Array.getElem?_eq_none hge] at h; cases h
theorem Blk.cell (h : Blk w g t cs) (i : Nat) : w.cell? ⟨g, i, none⟩ = cs[i]? := cell_of_row w g i cs t (0, 0) h
theorem Blk.frozen (h : Blk w g t cs) (i : Nat) : w.frozen? ⟨g, i, none⟩ = false := by
  unfold Blk at h
  simp [World.frozen?, h]
theorem Blk.new (w : World) (t : TypeId) (cs : Array Value) : Blk (w.alloc (.cells cs t)) w.heap.size t cs := heap_alloc_new w _
theorem Blk.drew (h : Blk w g t cs) : Blk w.drew g t cs := h
theorem Blk.drewN (h : Blk w g t cs) (n : Nat) : Blk (w.drewN n) g t cs := h
theorem Blk.alloc (h : Blk w g t cs) (o : Obj) : Blk (w.alloc o) g t cs := (Below.heap_alloc w o g h.lt).trans h
theorem Blk.set_ (h : Blk w g t cs) (i : Nat) (u : Value) : Blk (w.setCell ⟨g, i, none⟩ u) g t (cs.setIfInBounds i u) := by
  unfold Blk at h ⊢
  simp [World.setCell, Array.getElem?_modify, h]
theorem Blk.far (h : Blk w g t cs) {p : Addr} (hp : g ≠ p.block) (u : Value) : Blk (w.setCell p u) g t cs := (Below.heap_setCell w p u g hp).trans h
theorem Blk.below {B : Nat} (h : Blk w g t cs) (hb : Below B w w') (hg : g < B) : Blk w' g t cs := (hb.block g hg).trans h
theorem Blk.grown {row : Option Nat} (h : Blk w g t cs) (hb : w.grownBy w' row) (hg : some g ≠ row) : Blk w' g t cs := (hb.block g h.lt hg).trans h
end

/-- A track's ten cells. -/
def tkCells (rb ro : Nat) (wv lv mv : Value) (sum st si : Int) (fi : Bool) (be : Int) (fn : Value) : Array Value :=
  #[.pointer (some ⟨rb, ro, none⟩), wv, lv, mv, .int .i64 sum, .int .i64 st, .int .i64 si, .bool fi, .int .i64 be, fn]

set_option maxHeartbeats 1000000 in
theorem turn_calls (r : Rule) (t : Tk) (T rb ro : Nat) (wv lv mv : Value) (sum be : Int) (fn : Value) (w : World) (hr : GoodR r) (hsi : 0 ≤ t.since ∧ t.since ≤ END) (hb : Blk w T 253 (tkCells rb ro wv lv mv sum t.state t.since t.firing be fn)) (hc : Cells w rb ro (encR r)) :
    Calls Tryz.prog 189 #[.pointer (some ⟨T, 0, none⟩)] w fun e w' => e = .returned (.int .i64 (turnOf r t)) ∧ ∃ n, w' = w.drewN n := by
  have c0 : w.cell? ⟨T, 0, none⟩ = some (.pointer (some ⟨rb, ro, none⟩)) := hb.cell 0
  have c5 : w.cell? ⟨T, 5, none⟩ = some (.int .i64 t.state) := hb.cell 5
  have c6 : w.cell? ⟨T, 6, none⟩ = some (.int .i64 t.since) := hb.cell 6
  have c7 : w.cell? ⟨T, 7, none⟩ = some (.bool t.firing) := hb.cell 7
  have r7 : w.cell? ⟨rb, ro + 7, none⟩ = some (.int .i64 r.hold) := hc 7 _ rfl
  have r8 : w.cell? ⟨rb, ro + 8, none⟩ = some (.int .i64 r.rest) := hc 8 _ rfl
  have h1 := hr.hold
  have h2 := hr.rest
  unfold END MAXL at *
  obtain ⟨h1a, h1b⟩ := h1
  obtain ⟨h2a, h2b⟩ := h2
  obtain ⟨h3a, h3b⟩ := hsi
  have w1 : IntKind.i64.wrap (t.since + r.hold) = t.since + r.hold := IntWalk.i64_in _ (by omega)
  have w2 : IntKind.i64.wrap (t.since + r.rest) = t.since + r.rest := IntWalk.i64_in _ (by omega)
  clear hb hc hr
  cases hf : t.firing with
  | false =>
    rw [hf] at c7
    by_cases hs : t.state = 1
    · have HV : Hid (turnOf r t = t.since + r.hold) := Lib.hid (by unfold turnOf; rw [if_pos ⟨hf, hs⟩])
      rw [hs] at c5
      clear hf hs
      go_enter Tryz.func189, Tryz.ntmps189
      go_wp2_with fail
      go_quiet (fail)
      go_wp2_with fail
      go_ret
      exact ⟨ret_i64 HV.out.symm, _, rfl⟩
    · have HV : Hid (turnOf r t = END) := Lib.hid (by unfold turnOf; rw [if_neg (fun h => hs h.2), if_neg (by rw [hf]; simp)])
      have hb : (t.state == 1) = false := by simpa using hs
      clear hf hs
      go_enter Tryz.func189, Tryz.ntmps189
      go_wp2_with fail
      go_ret
      exact ⟨ret_i64 HV.out.symm, 0, rfl⟩
  | true =>
    rw [hf] at c7
    by_cases hs : t.state = 2
    · have HV : Hid (turnOf r t = t.since + r.rest) := Lib.hid (by unfold turnOf; rw [if_neg (by rw [hf]; simp), if_pos ⟨hf, hs⟩])
      rw [hs] at c5
      clear hf hs
      go_enter Tryz.func189, Tryz.ntmps189
      go_wp2_with fail
      go_quiet (fail)
      go_wp2_with fail
      go_ret
      exact ⟨ret_i64 HV.out.symm, _, rfl⟩
    · have HV : Hid (turnOf r t = END) := Lib.hid (by unfold turnOf; rw [if_neg (by rw [hf]; simp), if_neg (fun h => hs h.2)])
      have hb : (t.state == 2) = false := by simpa using hs
      clear hf hs
      go_enter Tryz.func189, Tryz.ntmps189
      go_wp2_with fail
      go_ret
      exact ⟨ret_i64 HV.out.symm, 0, rfl⟩

end Go.Proofs.YteandmolnbcmmaaGreatDoor

namespace Go.Proofs.YteandmolnbcmmaaGreatDoor
open Go.RowKit Go.Sort

/-- Samples, or spans, as cells. -/
def flat (l : List Sm) : List Value := l.flatMap fun s => [.int .i64 s.1, .int .i64 s.2]

theorem flat_length (l : List Sm) : (flat l).length = l.length * 2 := by
  induction l with
  | nil => rfl
  | cons a l ih => simp only [flat, List.flatMap_cons, List.length_append] at *; simp [ih]; omega

theorem flat_append (a b : List Sm) : flat (a ++ b) = flat a ++ flat b := by simp [flat]

theorem flat_get (l : List Sm) (i : Nat) (s : Sm) (h : l[i]? = some s) : (flat l)[i * 2]? = some (.int .i64 s.1) ∧ (flat l)[i * 2 + 1]? = some (.int .i64 s.2) := by
  induction l generalizing i with
  | nil => simp at h
  | cons a l ih =>
    cases i with
    | zero => simp at h; subst h; simp [flat]
    | succ i =>
      simp at h
      have := ih i h
      have e1 : (i + 1) * 2 = i * 2 + 1 + 1 := by omega
      rw [e1]
      simpa [flat, List.flatMap_cons] using this

/-- Element i of a slice of samples of the call's own. -/
theorem Own.at_ {w : World} {base : Nat} {e : TypeId} {n g off cap : Nat} {l : List Sm} (h : Own w base e 2 (.slice (some ⟨g, off, none⟩) n cap) n (flat l)) {i : Nat} {s : Sm} (hi : l[i]? = some s) :
    w.cell? ⟨g, off + i * 2, none⟩ = some (.int .i64 s.1) ∧ w.cell? ⟨g, off + i * 2 + 1, none⟩ = some (.int .i64 s.2) := by
  obtain ⟨a, b⟩ := flat_get l i s hi
  exact ⟨h.cell _ _ a, by rw [Nat.add_assoc]; exact h.cell _ _ b⟩

set_option maxHeartbeats 1000000 in
theorem due_calls (r : Rule) (t : Tk) (T rb ro B : Nat) (wv lv mv : Value) (sum be : Int) (fn : Value) (w : World) (hr : GoodR r) (hsi : 0 ≤ t.since ∧ t.since ≤ END) (hg : GoodS t.win) (hb : Blk w T 253 (tkCells rb ro wv lv mv sum t.state t.since t.firing be fn)) (hc : Cells w rb ro (encR r))
    (hown : Own w B 156 2 wv t.win.length (flat t.win)) (_hlen : t.win.length ≤ 1000000) :
    Calls Tryz.prog 186 #[.pointer (some ⟨T, 0, none⟩)] w fun e w' => e = .returned (.int .i64 (dueOf r t)) ∧ ∃ n, w' = w.drewN n := by
  have HT := Lib.hid (turn_calls r t T rb ro wv lv mv sum be fn w hr hsi hb hc)
  have c0 : w.cell? ⟨T, 0, none⟩ = some (.pointer (some ⟨rb, ro, none⟩)) := hb.cell 0
  have c1 : w.cell? ⟨T, 1, none⟩ = some wv := hb.cell 1
  have r3 : w.cell? ⟨rb, ro + 3, none⟩ = some (.int .i64 r.long) := hc 3 _ rfl
  obtain ⟨hl1, hl2⟩ := hr.long
  unfold MAXL at hl2
  clear hb hc hr
  cases hw : t.win with
  | nil =>
    rw [hw] at hown
    obtain ⟨A, c, rfl, _⟩ := hown.slice
    have HV : Hid (dueOf r t = min (turnOf r t) END) := Lib.hid (by unfold dueOf; rw [hw])
    clear hw hown hg _hlen hsi
    generalize turnOf r t = x at *
    unfold END at HV
    go_enter Tryz.func186, Tryz.ntmps186
    go_wp2_with fail
    refine HT.out.mono ?_
    rintro e w1 ⟨rfl, n, rfl⟩
    go_wp2_with fail
    go_ret
    exact ⟨ret_i64 HV.out.symm, _, rfl⟩
  | cons s l =>
    rw [hw] at hown _hlen hg
    obtain ⟨g, off, cap, rfl, hcap, _, _⟩ := hown.form (by simp)
    obtain ⟨d0, d1⟩ := hown.at_ (i := 0) (s := s) rfl
    simp only [Nat.zero_mul, Nat.add_zero] at d0 d1
    obtain ⟨g1, g2, _, _⟩ := hg s (by simp)
    have HV : Hid (dueOf r t = min (min (turnOf r t) END) (s.1 + r.long)) := Lib.hid (by unfold dueOf; rw [hw])
    clear hg hown hsi _hlen
    obtain ⟨n, hn⟩ : ∃ n, (s :: l).length = n := ⟨_, rfl⟩
    have hn0 : 0 < n := by rw [← hn]; simp
    rw [hn] at c1
    clear hw hn
    generalize turnOf r t = x at *
    unfold END at *
    have w1 : IntKind.i64.wrap (s.1 + r.long) = s.1 + r.long := IntWalk.i64_in _ (by omega)
    go_enter Tryz.func186, Tryz.ntmps186
    go_wp2_with fail
    refine HT.out.mono ?_
    rintro e w1 ⟨rfl, n, rfl⟩
    go_wp2_with fail
    go_quiet (fail)
    go_wp2_with fail
    go_ret
    exact ⟨ret_i64 (HV.out.trans (by omega)).symm, _, World.drewN_drewN _ _ _⟩

end Go.Proofs.YteandmolnbcmmaaGreatDoor
