/- The reader's memory under stores and appends. -/
import Derived.Test.YthogkokifiibnaaDoorEl13
namespace Go.Proofs.YthogkokifiibnaaDoor
open Go.RowKit Go.Sort

/-- blocks of the types in ts are as before -/
def KeptT (ts : List TypeId) (w w' : World) : Prop := ∀ (k : Nat) (cs : Array Value) (t : TypeId) (fr : Nat × Nat), w.heap[k]? = some (.cells cs t fr) → t ∈ ts → w'.heap[k]? = some (.cells cs t fr)
theorem KeptT.mono {ts us : List TypeId} {w w' : World} (h : KeptT ts w w') (hs : ∀ t ∈ us, t ∈ ts) : KeptT us w w' := fun k cs t fr hk ht => h k cs t fr hk (hs t ht)
theorem KeptT.of_below {ts : List TypeId} {w w' : World} (h : Below w.heap.size w w') : KeptT ts w w' := fun k _ _ _ hk _ => (h.block k (Array.getElem?_eq_some_iff.1 hk).1).trans hk
theorem KeptT.trans {ts : List TypeId} {w w1 w2 : World} (h : KeptT ts w w1) (k : KeptT ts w1 w2) : KeptT ts w w2 := fun i cs t fr hi ht => k i cs t fr (h i cs t fr hi ht) ht
theorem KeptT.set {ts : List TypeId} {w : World} {b : Nat} {cs : Array Value} {T : TypeId} (hB : Blk w b cs T) (hT : T ∉ ts) (i : Nat) (u : Value) : KeptT ts w (w.setCell ⟨b, i, none⟩ u) := fun k cs' t fr hk ht =>
  (Below.heap_setCell w ⟨b, i, none⟩ u k (fun e => by
    have e : k = b := e
    subst e
    have hB' : w.heap[k]? = _ := hB
    rw [hk] at hB'
    injection hB' with e1
    injection e1 with _ e2 _
    subst e2
    exact hT ht)).trans hk
theorem KeptT.grown {ts : List TypeId} {w w' : World} {row : Option Nat} (hg : w.grownBy w' row) (hr : ∀ g, row = some g → ∃ cur t fr, w.heap[g]? = some (.cells cur t fr) ∧ t ∉ ts) : KeptT ts w w' := fun k cs t fr hk ht => by
  rw [hg.block k (Array.getElem?_eq_some_iff.1 hk).1, hk]
  intro e
  obtain ⟨cur, t', fr', hc, hn⟩ := hr k e.symm
  rw [hk] at hc
  injection hc with hc
  injection hc with _ e2 _
  subst e2
  exact hn ht
theorem ownsRow_keptT {w w' : World} {base : Nat} {e : TypeId} {size n : Nat} {v : Value} {xs : List Value} (h : w.ownsRow base e size v n xs) (hk : KeptT [e] w w') : w'.ownsRow base e size v n xs := by
  refine ⟨h.1, ?_⟩
  rcases h.2 with h0 | ⟨g, cap, cur, hv, hb, hc, hr⟩
  · exact .inl h0
  · exact .inr ⟨g, cap, cur, hv, hb, hk g cur e (0, 0) hc (by simp), hr⟩
theorem CdB.keptT {w w' : World} {fv : Value} {zs : List Int} (h : CdB w fv zs) (hk : KeptT [3] w w') : CdB w' fv zs := by
  obtain ⟨A, c, e, hs⟩ := h
  refine ⟨A, c, e, fun hz => ?_⟩
  obtain ⟨g, cs, fr, eA, hg, hcs⟩ := hs hz
  exact ⟨g, cs, fr, eA, hk g cs _ fr hg (by simp), hcs⟩
theorem ElB.keptT {w w' : World} {fv : Value} {es : List ElemD} (h : ElB w fv es) (hk : KeptT [33] w w') : ElB w' fv es := by
  obtain ⟨A, c, e, hs⟩ := h
  refine ⟨A, c, e, fun hz => ?_⟩
  obtain ⟨g, cs, fr, eA, hg, hcs⟩ := hs hz
  exact ⟨g, cs, fr, eA, hk g cs _ fr hg (by simp), hcs⟩
theorem OwnG.keptT {w w' : World} {base : Nat} {v : Value} {gs : List GroupD} (h : OwnG w base v gs) (hk : KeptT [47] w w') : OwnG w' base v gs := ownsRow_keptT h hk
theorem OwnN.keptT {w w' : World} {base : Nat} {v : Value} {es : List EntryD} (h : OwnN w base v es) (hk : KeptT [3, 33, 50] w w') : OwnN w' base v es := by
  obtain ⟨zs, e, h, hf⟩ := h
  exact ⟨zs, e, ownsRow_keptT h (hk.mono (by simp)), fun z hz => ⟨(hf z hz).1.keptT (hk.mono (by simp)), (hf z hz).2.keptT (hk.mono (by simp))⟩⟩
/-- a block with one cell written -/
theorem Blk.put {w : World} {b : Nat} {cs : Array Value} {t : TypeId} (h : Blk w b cs t) (i : Nat) (u : Value) : Blk (w.setCell ⟨b, i, none⟩ u) b (cs.setIfInBounds i u) t := by
  have hlt := h.lt
  unfold Blk at h ⊢
  have hc : (w.setCell ⟨b, i, none⟩ u).heap = w.heap.modify b fun | .cells c e fr => .cells (c.setIfInBounds i u) e fr | o => o := rfl
  rw [hc, Array.getElem?_modify, if_pos rfl, h]
  rfl

/-- append(v, g), the new group in the newest block -/
theorem wpG {ops : Array Oper} {rest : List Oper} {o : Oper} {a : Act} {Q : Exit → Act → World → Prop} {W : World} (hgd : o.guard = none) (s x : Operand) (ho : o.op = .call { callee := .builtin .append, args := #[s, x], argTypes := #[37, 37] })
    (base : Nat) {v : Value} {gs : List GroupD} (hs : a.eval s = v) (h : OwnG W base v gs) (g : GroupD) (hx : a.eval x = .slice (some ⟨W.heap.size, 0, none⟩) 1 1) (hl : gs.length + 1 ≤ 1000000) (hb : base ≤ W.heap.size)
    (hK : ∀ v' w', Hid (OwnG w' base v' (gs ++ [g])) → Hid (KeptT [3, 33, 50, 70, 43] W w') → (∀ w0, Below base w0 W → Below base w0 w') → wpList Tryd.prog ops Q rest (a.put o.dst v') w') : wpList Tryd.prog ops Q (o :: rest) a (W.alloc (.cells #[.string ⟨g.name.toArray⟩, .int .i64 g.lo, .int .i64 g.hi] 47)) := by
  obtain ⟨i0, hi, hz0, hz1, hz2⟩ := info_parts infoGroup
  have hk := h.keep (bBox W (.cells #[.string ⟨g.name.toArray⟩, .int .i64 g.lo, .int .i64 g.hi] 47))
  have hcell : ∀ j u, (groupCells g)[j]? = some u → (W.alloc (.cells #[.string ⟨g.name.toArray⟩, .int .i64 g.lo, .int .i64 g.hi] 47)).cell? ((⟨W.heap.size, 0, none⟩ : Addr).add j) = some u := by
    intro j u hu
    rw [Go.WideShapes.add_plain, (Blk.new W _ _).cell]
    simpa [groupCells] using hu
  refine wpList_append_own _ hgd s x 37 ho base 47 i0 _ 3 32 Tryd.underlying37 hi hz0 hz1 hz2 rfl (by decide) v gs.length (rowG gs) hs hk ⟨W.heap.size, 0, none⟩ 1 1 (groupCells g) hx rfl hcell
    (fun u hu => by simp only [groupCells, List.mem_cons, List.not_mem_nil, or_false] at hu; rcases hu with rfl | rfl | rfl <;> rfl) (by unfold maxLen; omega) (by omega) (by simp; omega) ?_
  intro v' w' hown' hg _
  refine hK v' w' (Lib.hid ?_) (Lib.hid ?_) (fun w0 h0 => ?_)
  · unfold OwnG
    rw [List.length_append, rowG_snoc]
    exact hown'
  · refine (KeptT.of_below (bBox W _)).trans (KeptT.grown hg (fun k e => ?_))
    obtain ⟨_, cur, hc⟩ := hk.row k e
    exact ⟨cur, _, _, hc, by decide⟩
  · exact (h0.alloc hb _).grown hg (by simp; omega) (fun k e => (hk.row k e).1)
/-- append(v, e), the new entry in the newest block -/
theorem wpN {ops : Array Oper} {rest : List Oper} {o : Oper} {a : Act} {Q : Exit → Act → World → Prop} {W : World} (hgd : o.guard = none) (s x : Operand) (ho : o.op = .call { callee := .builtin .append, args := #[s, x], argTypes := #[36, 36] })
    (base : Nat) {v : Value} {es : List EntryD} (hs : a.eval s = v) (h : OwnN W base v es) (e : EntryD) {v1 v2 : Value} (h1 : CdB W v1 e.codes) (h2 : ElB W v2 e.els) (hx : a.eval x = .slice (some ⟨W.heap.size, 0, none⟩) 1 1) (hl : es.length + 1 ≤ 1000000) (hb : base ≤ W.heap.size)
    (hK : ∀ v' w', Hid (OwnN w' base v' (es ++ [e])) → Hid (KeptT [3, 33, 47, 70, 43] W w') → (∀ w0, Below base w0 W → Below base w0 w') → wpList Tryd.prog ops Q rest (a.put o.dst v') w') : wpList Tryd.prog ops Q (o :: rest) a (W.alloc (.cells #[v1, v2] 50)) := by
  obtain ⟨i0, hi, hz0, hz1, hz2⟩ := info_parts infoEntry
  have hN := h.keep (bBox W (.cells #[v1, v2] 50))
  have hrow := hN.row
  obtain ⟨zs, hzs, hk, hf⟩ := h.keep (bBox W (.cells #[v1, v2] 50))
  have hcell : ∀ j u, [v1, v2][j]? = some u → (W.alloc (.cells #[v1, v2] 50)).cell? ((⟨W.heap.size, 0, none⟩ : Addr).add j) = some u := by
    intro j u hu
    rw [Go.WideShapes.add_plain, (Blk.new W _ _).cell]
    simpa using hu
  have hone : v1.oneCell' = true ∧ v2.oneCell' = true := by
    obtain ⟨A1, c1, r1, _⟩ := h1
    obtain ⟨A2, c2, r2, _⟩ := h2
    rw [r1, r2]
    exact ⟨rfl, rfl⟩
  refine wpList_append_own _ hgd s x 36 ho base 50 i0 _ 2 48 Tryd.underlying36 hi hz0 hz1 hz2 rfl (by decide) v es.length (rowN zs) hs hk ⟨W.heap.size, 0, none⟩ 1 1 [v1, v2] hx rfl hcell
    (fun u hu => by simp only [List.mem_cons, List.not_mem_nil, or_false] at hu; rcases hu with rfl | rfl; exact hone.1; exact hone.2) (by unfold maxLen; omega) (by omega) (by simp; omega) ?_
  intro v' w' hown' hg _
  have hkt : KeptT [3, 33, 47, 70, 43] (W.alloc (.cells #[v1, v2] 50)) w' := KeptT.grown hg (fun k e => by
    obtain ⟨_, cur, hc⟩ := hrow k e
    exact ⟨cur, _, _, hc, by decide⟩)
  have hkt0 := (KeptT.of_below (bBox W (.cells #[v1, v2] 50))).trans hkt
  refine hK v' w' (Lib.hid ?_) (Lib.hid hkt0) (fun w0 h0 => ?_)
  · refine ⟨zs ++ [(e, v1, v2)], by simp [hzs], ?_, fun z hz => ?_⟩
    · rw [List.length_append, rowN_snoc]
      exact hown'
    · rcases List.mem_append.1 hz with hz | hz
      · exact ⟨(hf z hz).1.keptT (hkt.mono (by simp)), (hf z hz).2.keptT (hkt.mono (by simp))⟩
      · simp at hz
        subst hz
        exact ⟨h1.keptT (hkt0.mono (by simp)), h2.keptT (hkt0.mono (by simp))⟩
  · exact (h0.alloc hb _).grown hg (by simp; omega) (fun k e => (hrow k e).1)

/-- the zero reader -/
theorem RdAt.zero (w : World) : RdAt (w.alloc (.cells #[.slice none 0 0, .slice none 0 0, .int .i64 0, .int .i64 0, .int .i64 0, .bool false] 70)) w.heap.size ⟨zeroC, false⟩ :=
  ⟨.slice none 0 0, .slice none 0 0, Blk.new w _ _, OwnN.nil _ _, OwnG.nil _ _⟩
end Go.Proofs.YthogkokifiibnaaDoor
