/- Memory of collations: groups, entries, the reader. -/
import Derived.Test.YthogkokifiibnaaDoorEl12
namespace Go.Proofs.YthogkokifiibnaaDoor
open Go.RowKit Go.Sort

theorem infoGroup : (Tryd.prog.info? 47).map (fun i => (i.zero, i.size, i.bytes)) = some (some (.agg #[.string ByteArray.empty, .int .i64 0, .int .i64 0]), 3, 32) := by kernel_rfl
theorem infoEntry : (Tryd.prog.info? 50).map (fun i => (i.zero, i.size, i.bytes)) = some (some (.agg #[.slice none 0 0, .slice none 0 0]), 2, 48) := by kernel_rfl

/-- fv is a slice of the ints zs, in a block of ints -/
def CdB (w : World) (fv : Value) (zs : List Int) : Prop :=
  ∃ A c, fv = .slice A zs.length c ∧ (0 < zs.length → ∃ b cs fr, A = some ⟨b, 0, none⟩ ∧ w.heap[b]? = some (.cells cs 3 fr) ∧ ∀ j, j < zs.length → cs[j]? = some (.int .i64 (nth zs j)))
/-- fv is a slice of the elements es, in a block of elements -/
def ElB (w : World) (fv : Value) (es : List ElemD) : Prop :=
  ∃ A c, fv = .slice A es.length c ∧ (0 < es.length → ∃ b cs fr, A = some ⟨b, 0, none⟩ ∧ w.heap[b]? = some (.cells cs 33 fr) ∧ ∀ j, j < es.length * 4 → cs[j]? = (rowE es)[j]?)
/-- nothing has changed but the reader's block b and rows of groups and of entries -/
structure RdK (b : Nat) (w w' : World) : Prop where
  below : Below b w w'
  size : w.heap.size ≤ w'.heap.size
  kept : ∀ k cs t fr, w.heap[k]? = some (.cells cs t fr) → k ≠ b → t ≠ 47 → t ≠ 50 → w'.heap[k]? = some (.cells cs t fr)
theorem RdK.of_below {b : Nat} {w w' : World} (h : Below w.heap.size w w') (hb : b ≤ w.heap.size) : RdK b w w' :=
  ⟨h.mono hb, h.size, fun k _ _ _ hk _ _ _ => (h.block k (Array.getElem?_eq_some_iff.1 hk).1).trans hk⟩
theorem RdK.refl (b : Nat) (w : World) : RdK b w w := ⟨Below.refl _ _, Nat.le_refl _, fun _ _ _ _ h _ _ _ => h⟩
theorem RdK.trans {b : Nat} {w w1 w2 : World} (h : RdK b w w1) (k : RdK b w1 w2) : RdK b w w2 :=
  ⟨h.below.trans k.below, Nat.le_trans h.size k.size, fun i cs t fr hi h1 h2 h3 => k.kept i cs t fr (h.kept i cs t fr hi h1 h2 h3) h1 h2 h3⟩
theorem RdK.set {b : Nat} {w w' : World} (h : RdK b w w') (p : Addr) (hp : p.block = b) (u : Value) : RdK b w (w'.setCell p u) :=
  ⟨h.below.setCell (Nat.le_of_eq hp.symm) u, by simpa using h.size, fun k cs t fr hk h1 h2 h3 => (Below.heap_setCell w' p u k (by rw [hp]; exact h1)).trans (h.kept k cs t fr hk h1 h2 h3)⟩
theorem RdK.grown {b : Nat} {w w1 w2 : World} {row : Option Nat} (h : RdK b w w1) (hg : w1.grownBy w2 row) (hr : ∀ g, row = some g → b ≤ g ∧ ∃ cur t fr, w1.heap[g]? = some (.cells cur t fr) ∧ (t = 47 ∨ t = 50)) (hb : b ≤ w1.heap.size) : RdK b w w2 := by
  refine ⟨h.below.grown hg hb fun k hk => (hr k hk).1, Nat.le_trans h.size hg.size, fun k cs t fr hk h1 h2 h3 => ?_⟩
  have hk1 := h.kept k cs t fr hk h1 h2 h3
  rw [hg.block k (Array.getElem?_eq_some_iff.1 hk1).1, hk1]
  intro e
  obtain ⟨_, cur, t', fr', hc, ht⟩ := hr k e.symm
  rw [hk1] at hc
  injection hc with hc
  injection hc with _ e2 _
  subst e2
  rcases ht with ht | ht
  · exact h2 ht
  · exact h3 ht
theorem Blk.rdk {w w' : World} {b k : Nat} {cs : Array Value} {t : TypeId} (h : Blk w k cs t) (hk : RdK b w w') (h1 : k ≠ b) (h2 : t ≠ 47) (h3 : t ≠ 50) : Blk w' k cs t := hk.kept k cs t (0, 0) h h1 h2 h3

theorem CdB.rdk {w w' : World} {b : Nat} {fv : Value} {zs : List Int} (h : CdB w fv zs) (hk : RdK b w w') (hb : ∀ k cs fr, w.heap[k]? = some (.cells cs 3 fr) → k ≠ b) : CdB w' fv zs := by
  obtain ⟨A, c, e, hs⟩ := h
  refine ⟨A, c, e, fun hz => ?_⟩
  obtain ⟨g, cs, fr, eA, hg, hcs⟩ := hs hz
  exact ⟨g, cs, fr, eA, hk.kept g cs _ fr hg (hb g cs fr hg) (by decide) (by decide), hcs⟩
theorem ElB.rdk {w w' : World} {b : Nat} {fv : Value} {es : List ElemD} (h : ElB w fv es) (hk : RdK b w w') (hb : ∀ k cs fr, w.heap[k]? = some (.cells cs 33 fr) → k ≠ b) : ElB w' fv es := by
  obtain ⟨A, c, e, hs⟩ := h
  refine ⟨A, c, e, fun hz => ?_⟩
  obtain ⟨g, cs, fr, eA, hg, hcs⟩ := hs hz
  exact ⟨g, cs, fr, eA, hk.kept g cs _ fr hg (hb g cs fr hg) (by decide) (by decide), hcs⟩
theorem CdB.of_own {w : World} {base : Nat} {v : Value} {zs : List Int} (h : OwnI w base v zs) : CdB w v zs := by
  obtain ⟨hl, hv⟩ := h
  rcases hv with ⟨rfl, h0⟩ | ⟨g, cap, cur, rfl, _, hg, hc, _, hcs, ht⟩
  · exact ⟨none, 0, by rw [h0], fun hz => by omega⟩
  · refine ⟨_, cap, rfl, fun hz => ⟨g, cur, (0, 0), rfl, hg, fun j hj => ?_⟩⟩
    have h1 : (cur.toList.take (zs.length * 1))[j]? = some (.int .i64 (nth zs j)) := by rw [ht]; simp [intVals, nth, hj]
    rw [List.getElem?_take_of_lt (by omega)] at h1
    simpa using h1
theorem ElB.of_own {w : World} {base : Nat} {v : Value} {es : List ElemD} (h : OwnE w base v es) : ElB w v es := by
  obtain ⟨hl, hv⟩ := h
  rcases hv with ⟨rfl, h0⟩ | ⟨g, cap, cur, rfl, _, hg, hc, _, hcs, ht⟩
  · exact ⟨none, 0, by rw [h0], fun hz => by omega⟩
  · refine ⟨_, cap, rfl, fun hz => ⟨g, cur, (0, 0), rfl, hg, fun j hj => ?_⟩⟩
    rw [← ht, List.getElem?_take_of_lt hj]
    simp
theorem CdB.ints {w : World} {A : Option Addr} {n c : Nat} {zs : List Int} (h : CdB w (.slice A n c) zs) : IntsAt w A zs := by
  obtain ⟨A', c', e, hs⟩ := h
  injection e with e1 e2 e3
  subst e1
  intro hz
  obtain ⟨b, cs, fr, eA, hb, hcs⟩ := hs hz
  refine ⟨b, 0, eA, (Array.getElem?_eq_some_iff.1 hb).1, fun j hj => ?_⟩
  have := hcs j hj
  simp [World.cell?, hb, this]
theorem ElB.elems {w : World} {A : Option Addr} {n c : Nat} {es : List ElemD} (h : ElB w (.slice A n c) es) : ElemsAt w A es := by
  obtain ⟨A', c', e, hs⟩ := h
  injection e with e1 e2 e3
  subst e1
  intro hz
  obtain ⟨b, cs, fr, eA, hb, hcs⟩ := hs hz
  refine ⟨b, 0, eA, (Array.getElem?_eq_some_iff.1 hb).1, fun j hj => ?_⟩
  have key : ∀ i v, i < 4 → (elemCells (elemAt es j))[i]? = some v → w.cell? ⟨b, 0 + j * 4 + i, none⟩ = some v := fun i v hi hv => by
    have h1 := hcs (j * 4 + i) (by omega)
    rw [rowE_at es j _ (elemAt_get hj) i hi, hv] at h1
    simp [World.cell?, hb, h1]
  exact ⟨key 0 _ (by omega) rfl, key 1 _ (by omega) rfl, key 2 _ (by omega) rfl, key 3 _ (by omega) rfl⟩

def groupCells (g : GroupD) : List Value := [.string ⟨g.name.toArray⟩, .int .i64 g.lo, .int .i64 g.hi]
def rowG (gs : List GroupD) : List Value := gs.flatMap groupCells
theorem rowG_snoc (gs : List GroupD) (g : GroupD) : rowG (gs ++ [g]) = rowG gs ++ groupCells g := by simp [rowG]
def groupAt (gs : List GroupD) (k : Nat) : GroupD := gs.getD k default
theorem groupAt_get {gs : List GroupD} {k : Nat} (h : k < gs.length) : gs[k]? = some (groupAt gs k) := by simp [groupAt, h]
theorem groupAt_mem {gs : List GroupD} {k : Nat} (h : k < gs.length) : groupAt gs k ∈ gs := by simp [groupAt, h]
/-- the slice at A reads as the groups gs -/
def GroupsAt (w : World) (A : Option Addr) (gs : List GroupD) : Prop :=
  0 < gs.length → ∃ b off, A = some ⟨b, off, none⟩ ∧ b < w.heap.size ∧ ∀ j, j < gs.length →
    w.cell? ⟨b, off + j * 3, none⟩ = some (.string ⟨(groupAt gs j).name.toArray⟩) ∧ w.cell? ⟨b, off + j * 3 + 1, none⟩ = some (.int .i64 (groupAt gs j).lo) ∧ w.cell? ⟨b, off + j * 3 + 2, none⟩ = some (.int .i64 (groupAt gs j).hi)
theorem GroupsAt.keep {w w' : World} {A : Option Addr} {gs : List GroupD} (h : GroupsAt w A gs) (hb : Below w.heap.size w w') : GroupsAt w' A gs := by
  intro hz
  obtain ⟨b, off, e, hlt, hc⟩ := h hz
  refine ⟨b, off, e, Nat.lt_of_lt_of_le hlt hb.size, fun j hj => ?_⟩
  obtain ⟨h0, h1, h2⟩ := hc j hj
  exact ⟨(hb.cell hlt).trans h0, (hb.cell hlt).trans h1, (hb.cell hlt).trans h2⟩
theorem GroupsAt.at_ {w : World} {A : Option Addr} {gs : List GroupD} (h : GroupsAt w A gs) {k : Nat} (hk : k < gs.length) : ∃ b off, A = some ⟨b, off, none⟩ ∧ b < w.heap.size ∧
    w.cell? ⟨b, off + k * 3, none⟩ = some (.string ⟨(groupAt gs k).name.toArray⟩) ∧ w.cell? ⟨b, off + k * 3 + 1, none⟩ = some (.int .i64 (groupAt gs k).lo) ∧ w.cell? ⟨b, off + k * 3 + 2, none⟩ = some (.int .i64 (groupAt gs k).hi) := by
  obtain ⟨b, off, e, hb, hc⟩ := h (by omega)
  exact ⟨b, off, e, hb, hc k hk⟩
theorem rowG_at : ∀ (gs : List GroupD) (j : Nat) (d : GroupD), gs[j]? = some d → ∀ i, i < 3 → (rowG gs)[j * 3 + i]? = (groupCells d)[i]?
  | [], j, d, h, i, hi => by simp at h
  | y :: gs, 0, d, h, i, hi => by
    simp at h
    subst h
    simp only [rowG, List.flatMap_cons, Nat.zero_mul, Nat.zero_add]
    rw [List.getElem?_append_left (by simpa [groupCells] using hi)]
  | y :: gs, j + 1, d, h, i, hi => by
    simp at h
    simp only [rowG, List.flatMap_cons]
    rw [List.getElem?_append_right (by simp [groupCells]; omega)]
    have := rowG_at gs j d h i hi
    rw [← this]
    congr 1
    simp [groupCells]
    omega
/-- v is a slice of groups of the call's own -/
def OwnG (w : World) (base : Nat) (v : Value) (gs : List GroupD) : Prop := w.ownsRow base 47 3 v gs.length (rowG gs)
theorem OwnG.nil (w : World) (base : Nat) : OwnG w base (.slice none 0 0) [] := ⟨by simp [rowG], .inl ⟨rfl, by simp⟩⟩
theorem OwnG.form {w : World} {base : Nat} {v : Value} {gs : List GroupD} (h : OwnG w base v gs) : ∃ A c, v = .slice A gs.length c := by
  rcases h.2 with ⟨hv, h0⟩ | ⟨g, cap, cur, hv, _⟩
  · exact ⟨none, 0, by rw [hv, h0]⟩
  · exact ⟨_, _, hv⟩
theorem OwnG.row {w : World} {base : Nat} {v : Value} {gs : List GroupD} (h : OwnG w base v gs) : ∀ g, v.ownBlock = some g → base ≤ g ∧ ∃ cur, w.heap[g]? = some (.cells cur 47 (0, 0)) := by
  intro g hg
  rcases h.2 with ⟨rfl, h0⟩ | ⟨g', cap, cur, rfl, hb, hc, _⟩
  · cases hg
  · simp only [Value.ownBlock, Option.some.injEq] at hg
    subst hg
    exact ⟨hb, cur, hc⟩
theorem OwnG.grown {w w' : World} {base : Nat} {v : Value} {gs : List GroupD} {row : Option Nat} (h : OwnG w base v gs) (hg : w.grownBy w' row) (hr : ∀ g, row = some g → ∀ cur t fr, w.heap[g]? = some (.cells cur t fr) → t ≠ 47) : OwnG w' base v gs := by
  refine h.kept hg ?_
  cases hv : v.ownBlock with
  | none => exact .inl rfl
  | some g =>
    right
    intro e2
    obtain ⟨_, cur, hc⟩ := h.row g hv
    exact hr g e2.symm _ _ _ hc rfl
theorem OwnG.keep {w w' : World} {base : Nat} {v : Value} {gs : List GroupD} (h : OwnG w base v gs) (hb : Below w.heap.size w w') : OwnG w' base v gs :=
  h.kept ⟨hb.os, hb.tape, hb.output, hb.size, fun i hi _ => hb.block i hi⟩ (row := none) (by cases v.ownBlock <;> simp)
theorem OwnG.groups {w : World} {base : Nat} {A : Option Addr} {n c : Nat} {gs : List GroupD} (h : OwnG w base (.slice A n c) gs) : GroupsAt w A gs := by
  intro hz
  obtain ⟨g, cap, hv, _, hlt⟩ := World.ownsRow.form h hz
  have hA : A = some ⟨g, 0, none⟩ := by injection hv
  subst hA
  refine ⟨g, 0, rfl, hlt, fun j hj => ?_⟩
  have key : ∀ i v, i < 3 → (groupCells (groupAt gs j))[i]? = some v → w.cell? ⟨g, 0 + j * 3 + i, none⟩ = some v := fun i v hi hv' => by
    have := World.ownsRow.cells h (g := g) (by injection hv with _ _ e3; rw [e3]; rfl) (j * 3 + i) v ((rowG_at gs j _ (groupAt_get hj) i hi).trans hv')
    rw [Go.WideShapes.add_plain] at this
    rw [← this]
    congr 2
    omega
  exact ⟨key 0 _ (by omega) rfl, key 1 _ (by omega) rfl, key 2 _ (by omega) rfl⟩

def rowN (zs : List (EntryD × Value × Value)) : List Value := zs.flatMap fun z => [z.2.1, z.2.2]
theorem rowN_snoc (zs : List (EntryD × Value × Value)) (e : EntryD) (a b : Value) : rowN (zs ++ [(e, a, b)]) = rowN zs ++ [a, b] := by simp [rowN]
/-- v is a slice of entries of the call's own -/
def OwnN (w : World) (base : Nat) (v : Value) (es : List EntryD) : Prop :=
  ∃ zs : List (EntryD × Value × Value), zs.map (·.1) = es ∧ w.ownsRow base 50 2 v es.length (rowN zs) ∧ ∀ z ∈ zs, CdB w z.2.1 z.1.codes ∧ ElB w z.2.2 z.1.els
theorem OwnN.nil (w : World) (base : Nat) : OwnN w base (.slice none 0 0) [] := ⟨[], rfl, ⟨by simp [rowN], .inl ⟨rfl, by simp⟩⟩, by simp⟩
theorem OwnN.form {w : World} {base : Nat} {v : Value} {es : List EntryD} (h : OwnN w base v es) : ∃ A c, v = .slice A es.length c := by
  obtain ⟨zs, _, h, _⟩ := h
  rcases h.2 with ⟨hv, h0⟩ | ⟨g, cap, cur, hv, _⟩
  · exact ⟨none, 0, by rw [hv, h0]⟩
  · exact ⟨_, _, hv⟩
theorem OwnN.row {w : World} {base : Nat} {v : Value} {es : List EntryD} (h : OwnN w base v es) : ∀ g, v.ownBlock = some g → base ≤ g ∧ ∃ cur, w.heap[g]? = some (.cells cur 50 (0, 0)) := by
  intro g hg
  obtain ⟨zs, _, h, _⟩ := h
  rcases h.2 with ⟨rfl, h0⟩ | ⟨g', cap, cur, rfl, hb, hc, _⟩
  · cases hg
  · simp only [Value.ownBlock, Option.some.injEq] at hg
    subst hg
    exact ⟨hb, cur, hc⟩
/-- entries read -/
def entAt (es : List EntryD) (k : Nat) : EntryD := es.getD k default
theorem entAt_get {es : List EntryD} {k : Nat} (h : k < es.length) : es[k]? = some (entAt es k) := by simp [entAt, h]
theorem entAt_mem {es : List EntryD} {k : Nat} (h : k < es.length) : entAt es k ∈ es := by simp [entAt, h]
def EntsAt (w : World) (A : Option Addr) (es : List EntryD) : Prop :=
  0 < es.length → ∃ b off, A = some ⟨b, off, none⟩ ∧ b < w.heap.size ∧ ∀ j, j < es.length →
    (∃ B c, w.cell? ⟨b, off + j * 2, none⟩ = some (.slice B (entAt es j).codes.length c) ∧ IntsAt w B (entAt es j).codes) ∧ (∃ B c, w.cell? ⟨b, off + j * 2 + 1, none⟩ = some (.slice B (entAt es j).els.length c) ∧ ElemsAt w B (entAt es j).els)
theorem EntsAt.keep {w w' : World} {A : Option Addr} {es : List EntryD} (h : EntsAt w A es) (hb : Below w.heap.size w w') : EntsAt w' A es := by
  intro hz
  obtain ⟨b, off, e, hlt, hc⟩ := h hz
  refine ⟨b, off, e, Nat.lt_of_lt_of_le hlt hb.size, fun j hj => ?_⟩
  obtain ⟨⟨B, c, h0, h1⟩, ⟨B2, c2, h2, h3⟩⟩ := hc j hj
  exact ⟨⟨B, c, (hb.cell hlt).trans h0, h1.keep hb⟩, ⟨B2, c2, (hb.cell hlt).trans h2, h3.keep hb⟩⟩
theorem EntsAt.at_ {w : World} {A : Option Addr} {es : List EntryD} (h : EntsAt w A es) {k : Nat} (hk : k < es.length) : ∃ b off B c B2 c2, A = some ⟨b, off, none⟩ ∧ b < w.heap.size ∧
    w.cell? ⟨b, off + k * 2, none⟩ = some (.slice B (entAt es k).codes.length c) ∧ IntsAt w B (entAt es k).codes ∧ w.cell? ⟨b, off + k * 2 + 1, none⟩ = some (.slice B2 (entAt es k).els.length c2) ∧ ElemsAt w B2 (entAt es k).els := by
  obtain ⟨b, off, e, hb, hc⟩ := h (by omega)
  obtain ⟨⟨B, c, h0, h1⟩, ⟨B2, c2, h2, h3⟩⟩ := hc k hk
  exact ⟨b, off, B, c, B2, c2, e, hb, h0, h1, h2, h3⟩
theorem rowN_at : ∀ (zs : List (EntryD × Value × Value)) (j : Nat) (z : EntryD × Value × Value), zs[j]? = some z → ∀ i, i < 2 → (rowN zs)[j * 2 + i]? = [z.2.1, z.2.2][i]?
  | [], j, z, h, i, hi => by simp at h
  | y :: zs, 0, z, h, i, hi => by
    simp at h
    subst h
    simp only [rowN, List.flatMap_cons, Nat.zero_mul, Nat.zero_add]
    rw [List.getElem?_append_left (by simpa using hi)]
  | y :: zs, j + 1, z, h, i, hi => by
    simp at h
    simp only [rowN, List.flatMap_cons]
    rw [List.getElem?_append_right (by simp; omega)]
    have := rowN_at zs j z h i hi
    rw [← this]
    congr 1
    simp
    omega
theorem OwnN.ents {w : World} {base : Nat} {A : Option Addr} {n c : Nat} {es : List EntryD} (h : OwnN w base (.slice A n c) es) : EntsAt w A es := by
  obtain ⟨zs, rfl, h, hf⟩ := h
  intro hz
  obtain ⟨g, cap, hv, _, hlt⟩ := h.form hz
  have hA : A = some ⟨g, 0, none⟩ := by injection hv
  subst hA
  refine ⟨g, 0, rfl, hlt, fun j hj => ?_⟩
  have hj' : j < zs.length := by simpa using hj
  have hz' : zs[j]? = some zs[j] := List.getElem?_eq_getElem hj'
  have hl : entAt (zs.map (·.1)) j = zs[j].1 := by simp [entAt, hj']
  have key : ∀ i v, i < 2 → [zs[j].2.1, zs[j].2.2][i]? = some v → w.cell? ⟨g, 0 + j * 2 + i, none⟩ = some v := fun i v hi hv' => by
    have := h.cells (g := g) (by injection hv with _ _ e3; rw [e3]; rfl) (j * 2 + i) v ((rowN_at zs j _ hz' i hi).trans hv')
    rw [Go.WideShapes.add_plain] at this
    rw [← this]
    congr 2
    omega
  rw [hl]
  obtain ⟨hf1, hf2⟩ := hf zs[j] (List.getElem_mem hj')
  have k0 := key 0 _ (by omega) rfl
  have k1 := key 1 _ (by omega) rfl
  obtain ⟨B, c1, e1, r1⟩ := hf1
  obtain ⟨B2, c2, e2, r2⟩ := hf2
  exact ⟨⟨B, c1, by rw [← e1]; exact k0, CdB.ints (n := zs[j].1.codes.length) (c := c1) ⟨B, c1, rfl, r1⟩⟩, ⟨B2, c2, by rw [← e2]; exact k1, ElB.elems (n := zs[j].1.els.length) (c := c2) ⟨B2, c2, rfl, r2⟩⟩⟩

/-- the reader at block b -/
def rdCells (r : RdD) (vE vG : Value) : Array Value := #[vE, vG, .int .i64 r.c.base, .int .i64 r.c.second, .int .i64 r.c.third, .bool r.started]
def RdAt (w : World) (b : Nat) (r : RdD) : Prop :=
  ∃ vE vG, Blk w b (rdCells r vE vG) 70 ∧ OwnN w b vE r.c.entries ∧ OwnG w b vG r.c.groups
theorem OwnN.keep {w w' : World} {base : Nat} {v : Value} {es : List EntryD} (h : OwnN w base v es) (hb : Below w.heap.size w w') : OwnN w' base v es := by
  have hN : ∀ k cs t fr, w.heap[k]? = some (.cells cs t fr) → k ≠ w.heap.size := fun k cs t fr hk => Nat.ne_of_lt (Array.getElem?_eq_some_iff.1 hk).1
  obtain ⟨zs, e, h, hf⟩ := h
  exact ⟨zs, e, h.kept ⟨hb.os, hb.tape, hb.output, hb.size, fun i hi _ => hb.block i hi⟩ (row := none) (by cases v.ownBlock <;> simp), fun z hz => ⟨(hf z hz).1.rdk (RdK.of_below hb (Nat.le_refl _)) fun k cs fr hk => hN k cs _ fr hk, (hf z hz).2.rdk (RdK.of_below hb (Nat.le_refl _)) fun k cs fr hk => hN k cs _ fr hk⟩⟩
theorem RdAt.keep {w w' : World} {b : Nat} {r : RdD} (h : RdAt w b r) (hb : Below w.heap.size w w') : RdAt w' b r := by
  obtain ⟨vE, vG, h1, h2, h3⟩ := h
  exact ⟨vE, vG, h1.keep hb, h2.keep hb, h3.keep hb⟩
theorem RdAt.lt {w : World} {b : Nat} {r : RdD} (h : RdAt w b r) : b < w.heap.size := by
  obtain ⟨vE, vG, h1, h2, h3⟩ := h
  exact h1.lt
end Go.Proofs.YthogkokifiibnaaDoor
