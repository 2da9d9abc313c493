/- Memory of lists of lines. -/
import Derived.Test.YtafmdeipcepaiaaDoorLn4
namespace Go.Proofs.YtafmdeipcepaiaaDoor
open Go.RowKit Go.Sort

/-- a line -/
structure LineD where
  num : Int
  lo : Int
  hi : Int
  fields : List (List UInt8)
  com : List UInt8
deriving Inhabited
theorem infoLine : (Tryd.prog.info? 35).map (fun i => (i.zero, i.size, i.bytes)) = some (some (.agg #[.int .i64 0, .int .i64 0, .int .i64 0, .slice none 0 0, .string ByteArray.empty]), 5, 64) := by kernel_rfl

/-- fv is a slice of the strings ps, in a block of strings -/
def FldAt (w : World) (fv : Value) (ps : List (List UInt8)) : Prop :=
  ∃ A c, fv = .slice A ps.length c ∧ ps.length ≤ c ∧ (0 < ps.length → ∃ b off cs fr, A = some ⟨b, off, none⟩ ∧ w.heap[b]? = some (.cells cs 9 fr) ∧ ∀ j, j < ps.length → cs[off + j]? = some (.string ⟨(piece ps j).toArray⟩))
theorem FldAt.grown {w w' : World} {fv : Value} {ps : List (List UInt8)} {row : Option Nat} (h : FldAt w fv ps) (hg : w.grownBy w' row) (hr : ∀ g, row = some g → ∀ cur t fr, w.heap[g]? = some (.cells cur t fr) → t ≠ 9) : FldAt w' fv ps := by
  obtain ⟨A, c, e, hc, hs⟩ := h
  refine ⟨A, c, e, hc, fun hz => ?_⟩
  obtain ⟨b, off, cs, fr, eA, hb, hcs⟩ := hs hz
  refine ⟨b, off, cs, fr, eA, ?_, hcs⟩
  have hlt : b < w.heap.size := (Array.getElem?_eq_some_iff.1 hb).1
  rw [hg.block b hlt, hb]
  intro e
  exact hr b e.symm _ _ _ hb rfl
theorem FldAt.keep {w w' : World} {fv : Value} {ps : List (List UInt8)} (h : FldAt w fv ps) (hb : Below w.heap.size w w') : FldAt w' fv ps :=
  h.grown (row := none) ⟨hb.os, hb.tape, hb.output, hb.size, fun i hi _ => hb.block i hi⟩ (fun g e => by cases e)
theorem FldAt.strs {w : World} {A : Option Addr} {n c : Nat} {ps : List (List UInt8)} (h : FldAt w (.slice A n c) ps) : StrsAt w A ps := by
  obtain ⟨A', c', e, _, hs⟩ := h
  injection e with e1 e2 e3
  subst e1
  intro hz
  obtain ⟨b, off, cs, fr, eA, hb, hcs⟩ := hs hz
  refine ⟨b, off, eA, (Array.getElem?_eq_some_iff.1 hb).1, fun j hj => ?_⟩
  have := hcs j hj
  simp [World.cell?, hb, this]
theorem FldAt.of_own {w : World} {base : Nat} {v : Value} {ps : List (List UInt8)} (h : OwnS w base v ps) : FldAt w v ps := by
  obtain ⟨hl, hv⟩ := h
  rcases hv with ⟨rfl, h0⟩ | ⟨g, cap, cur, rfl, _, hg, hc, _, hcs, ht⟩
  · exact ⟨none, 0, by rw [h0], by omega, fun hz => by omega⟩
  · refine ⟨_, cap, rfl, hc, fun hz => ⟨g, 0, cur, (0, 0), rfl, hg, fun j hj => ?_⟩⟩
    have h1 : (cur.toList.take (ps.length * 1))[j]? = some (.string ⟨(piece ps j).toArray⟩) := by rw [ht]; simp [strVals, piece, hj]
    rw [List.getElem?_take_of_lt (by omega)] at h1
    simpa using h1
/-- the tail of a slice of strings -/
theorem FldAt.tail {w : World} {A : Option Addr} {c : Nat} {p : List UInt8} {ps : List (List UInt8)} (h : FldAt w (.slice A (p :: ps).length c) (p :: ps)) : ∃ b off, A = some ⟨b, off, none⟩ ∧ (p :: ps).length ≤ c ∧ ∀ B, (0 < ps.length → B = some ⟨b, off + 1, none⟩) → FldAt w (.slice B ps.length (c - 1)) ps := by
  obtain ⟨A', c', e, hc, hs⟩ := h
  injection e with e1 e2 e3
  subst e1 e3
  obtain ⟨b, off, cs, fr, eA, hb, hcs⟩ := hs (by simp)
  refine ⟨b, off, eA, hc, fun B hB => ⟨B, c - 1, rfl, by simp at hc; omega, fun hz => ⟨b, off + 1, cs, fr, hB hz, hb, fun j hj => ?_⟩⟩⟩
  have := hcs (j + 1) (by simp; omega)
  rw [show off + 1 + j = off + (j + 1) by omega, this]
  simp [piece]

def lineCells (x : LineD) (fv : Value) : List Value := [.int .i64 x.num, .int .i64 x.lo, .int .i64 x.hi, fv, .string ⟨x.com.toArray⟩]
def rowL (zs : List (LineD × Value)) : List Value := zs.flatMap fun z => lineCells z.1 z.2
theorem rowL_snoc (zs : List (LineD × Value)) (x : LineD) (fv : Value) : rowL (zs ++ [(x, fv)]) = rowL zs ++ lineCells x fv := by simp [rowL]
/-- v is a slice of lines of the call's own -/
def OwnL (w : World) (base : Nat) (v : Value) (ls : List LineD) : Prop :=
  ∃ zs : List (LineD × Value), zs.map (·.1) = ls ∧ w.ownsRow base 35 5 v ls.length (rowL zs) ∧ ∀ z ∈ zs, FldAt w z.2 z.1.fields
theorem OwnL.nil (w : World) (base : Nat) : OwnL w base (.slice none 0 0) [] := ⟨[], rfl, ⟨by simp [rowL], .inl ⟨rfl, by simp⟩⟩, by simp⟩
theorem OwnL.form {w : World} {base : Nat} {v : Value} {ls : List LineD} (h : OwnL w base v ls) : ∃ A c, v = .slice A ls.length c ∧ ls.length ≤ c := by
  obtain ⟨zs, _, h, _⟩ := h
  rcases h.2 with ⟨hv, h0⟩ | ⟨g, cap, cur, hv, _, _, h1, _⟩
  · exact ⟨none, 0, by rw [hv, h0], by omega⟩
  · exact ⟨_, _, hv, h1⟩
theorem OwnL.row {w : World} {base : Nat} {v : Value} {ls : List LineD} (h : OwnL w base v ls) : ∀ g, v.ownBlock = some g → base ≤ g ∧ ∃ cur, w.heap[g]? = some (.cells cur 35 (0, 0)) := by
  intro g hg
  obtain ⟨zs, _, h, _⟩ := h
  rcases h.2 with ⟨rfl, h0⟩ | ⟨g', cap, cur, rfl, hb, hc, _⟩
  · cases hg
  · simp only [Value.ownBlock, Option.some.injEq] at hg
    subst hg
    exact ⟨hb, cur, hc⟩
theorem OwnL.grown {w w' : World} {base : Nat} {v : Value} {ls : List LineD} {row : Option Nat} (h : OwnL w base v ls) (hg : w.grownBy w' row) (hr : ∀ g, row = some g → ∀ cur t fr, w.heap[g]? = some (.cells cur t fr) → t ≠ 9 ∧ t ≠ 35) : OwnL w' base v ls := by
  have hrow := h.row
  obtain ⟨zs, e, h, hf⟩ := h
  refine ⟨zs, e, h.kept hg ?_, fun z hz => (hf z hz).grown hg fun g eg cur t fr hc => (hr g eg cur t fr hc).1⟩
  cases hv : v.ownBlock with
  | none => exact .inl rfl
  | some g =>
    right
    intro e2
    obtain ⟨_, cur, hc⟩ := hrow g hv
    exact (hr g e2.symm _ _ _ hc).2 rfl
theorem OwnL.keep {w w' : World} {base : Nat} {v : Value} {ls : List LineD} (h : OwnL w base v ls) (hb : Below w.heap.size w w') : OwnL w' base v ls :=
  h.grown (row := none) ⟨hb.os, hb.tape, hb.output, hb.size, fun i hi _ => hb.block i hi⟩ (fun g e => by cases e)

/-- the k-th line -/
def lineAt (ls : List LineD) (k : Nat) : LineD := ls.getD k default
/-- the slice at A reads as the lines ls -/
def LinesAt (w : World) (A : Option Addr) (ls : List LineD) : Prop :=
  0 < ls.length → ∃ b off, A = some ⟨b, off, none⟩ ∧ b < w.heap.size ∧ ∀ j, j < ls.length →
    w.cell? ⟨b, off + j * 5, none⟩ = some (.int .i64 (lineAt ls j).num) ∧ w.cell? ⟨b, off + j * 5 + 1, none⟩ = some (.int .i64 (lineAt ls j).lo) ∧ w.cell? ⟨b, off + j * 5 + 2, none⟩ = some (.int .i64 (lineAt ls j).hi) ∧
    (∃ B c, w.cell? ⟨b, off + j * 5 + 3, none⟩ = some (.slice B (lineAt ls j).fields.length c) ∧ StrsAt w B (lineAt ls j).fields) ∧ w.cell? ⟨b, off + j * 5 + 4, none⟩ = some (.string ⟨(lineAt ls j).com.toArray⟩)
theorem LinesAt.keep {w w' : World} {A : Option Addr} {ls : List LineD} (h : LinesAt w A ls) (hb : Below w.heap.size w w') : LinesAt w' A ls := by
  intro hz
  obtain ⟨b, off, e, hlt, hc⟩ := h hz
  refine ⟨b, off, e, Nat.lt_of_lt_of_le hlt hb.size, fun j hj => ?_⟩
  obtain ⟨h0, h1, h2, ⟨B, c, h3, hs⟩, h4⟩ := hc j hj
  exact ⟨(hb.cell hlt).trans h0, (hb.cell hlt).trans h1, (hb.cell hlt).trans h2, ⟨B, c, (hb.cell hlt).trans h3, hs.keep hb⟩, (hb.cell hlt).trans h4⟩
theorem rowL_at : ∀ (zs : List (LineD × Value)) (j : Nat) (z : LineD × Value), zs[j]? = some z → ∀ i, i < 5 → (rowL zs)[j * 5 + i]? = (lineCells z.1 z.2)[i]?
  | [], j, z, h, i, hi => by simp at h
  | y :: zs, 0, z, h, i, hi => by
    simp at h
    subst h
    simp only [rowL, List.flatMap_cons, Nat.zero_mul, Nat.zero_add]
    rw [List.getElem?_append_left (by simpa [lineCells] using hi)]
  | y :: zs, j + 1, z, h, i, hi => by
    simp at h
    simp only [rowL, List.flatMap_cons]
    rw [List.getElem?_append_right (by simp [lineCells]; omega)]
    have := rowL_at zs j z h i hi
    rw [← this]
    congr 1
    simp [lineCells]
    omega
theorem OwnL.lines {w : World} {base : Nat} {A : Option Addr} {n c : Nat} {ls : List LineD} (h : OwnL w base (.slice A n c) ls) : LinesAt w A ls := by
  obtain ⟨zs, rfl, h, hf⟩ := h
  intro hz
  obtain ⟨g, cap, hv, _, hlt⟩ := h.form hz
  have hA : A = some ⟨g, 0, none⟩ := by injection hv
  subst hA
  refine ⟨g, 0, rfl, hlt, fun j hj => ?_⟩
  have hj' : j < zs.length := by simpa using hj
  have hz' : zs[j]? = some zs[j] := List.getElem?_eq_getElem hj'
  have hl : lineAt (zs.map (·.1)) j = zs[j].1 := by simp [lineAt, hj']
  have key : ∀ i v, i < 5 → (lineCells zs[j].1 zs[j].2)[i]? = some v → w.cell? ⟨g, 0 + j * 5 + i, none⟩ = some v := fun i v hi hv' => by
    have := h.cells (g := g) (by injection hv with _ _ e3; rw [e3]; rfl) (j * 5 + i) v ((rowL_at zs j _ hz' i hi).trans hv')
    rw [Go.WideShapes.add_plain] at this
    rw [← this]
    congr 2
    omega
  rw [hl]
  refine ⟨key 0 _ (by omega) rfl, key 1 _ (by omega) rfl, key 2 _ (by omega) rfl, ?_, key 4 _ (by omega) rfl⟩
  have hfl := hf zs[j] (List.getElem_mem hj')
  have k3 := key 3 _ (by omega) rfl
  obtain ⟨B, c', e, hr⟩ := hfl
  refine ⟨B, c', by rw [k3, e], ?_⟩
  refine FldAt.strs (n := zs[j].1.fields.length) (c := c') ⟨B, c', rfl, hr⟩
end Go.Proofs.YtafmdeipcepaiaaDoor
