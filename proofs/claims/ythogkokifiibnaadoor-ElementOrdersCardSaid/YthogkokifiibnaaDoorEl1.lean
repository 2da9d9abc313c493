/- Collation elements: the error of one; memory of lists of them. -/
import Derived.Test.YthogkokifiibnaaDoorEnv
namespace Go.Proofs.YthogkokifiibnaaDoor
open Go.RowKit Go.Sort

/-- an element -/
structure ElemD where
  p : Int
  s : Int
  t : Int
  v : Bool
deriving Inhabited
def inW (n : Int) : Bool := decide (0 ≤ n) && decide (n ≤ 65535)
def badE (d : ElemD) : Bool := (d.p != 0 && (d.s == 0 || d.t == 0)) || (d.s != 0 && d.t == 0) || (d.v && d.p == 0)
/-- the error of an element -/
def chkE (d : ElemD) : Int := if inW d.p && inW d.s && inW d.t then (if badE d then 11 else 0) else 1
theorem infoElem : (Tryd.prog.info? 33).map (fun i => (i.zero, i.size, i.bytes)) = some (some (.agg #[.int .i64 0, .int .i64 0, .int .i64 0, .bool false]), 4, 32) := by kernel_rfl

def elemCells (d : ElemD) : List Value := [.int .i64 d.p, .int .i64 d.s, .int .i64 d.t, .bool d.v]
def rowE (ls : List ElemD) : List Value := ls.flatMap elemCells
theorem rowE_snoc (ls : List ElemD) (d : ElemD) : rowE (ls ++ [d]) = rowE ls ++ elemCells d := by simp [rowE]
theorem rowE_length : ∀ ls : List ElemD, (rowE ls).length = ls.length * 4
  | [] => rfl
  | d :: ls => by
    have := rowE_length ls
    unfold rowE at this ⊢
    rw [List.flatMap_cons, List.length_append, this]
    simp [elemCells]
    omega
/-- v is a slice of elements of the call's own -/
def OwnE (w : World) (base : Nat) (v : Value) (ls : List ElemD) : Prop := w.ownsRow base 33 4 v ls.length (rowE ls)
theorem OwnE.nil (w : World) (base : Nat) : OwnE w base (.slice none 0 0) [] := ⟨by simp [rowE], .inl ⟨rfl, by simp⟩⟩
theorem OwnE.form {w : World} {base : Nat} {v : Value} {ls : List ElemD} (h : OwnE w base v ls) : ∃ A c, v = .slice A ls.length c ∧ ls.length ≤ c := by
  rcases h.2 with ⟨hv, h0⟩ | ⟨g, cap, cur, hv, _, _, h1, _⟩
  · exact ⟨none, 0, by rw [hv, h0], by omega⟩
  · exact ⟨_, _, hv, h1⟩
theorem OwnE.row {w : World} {base : Nat} {v : Value} {ls : List ElemD} (h : OwnE w base v ls) : ∀ g, v.ownBlock = some g → base ≤ g ∧ ∃ cur, w.heap[g]? = some (.cells cur 33 (0, 0)) := by
  intro g hg
  rcases h.2 with ⟨rfl, h0⟩ | ⟨g', cap, cur, rfl, hb, hc, _⟩
  · cases hg
  · simp only [Value.ownBlock, Option.some.injEq] at hg
    subst hg
    exact ⟨hb, cur, hc⟩
theorem OwnE.keep {w w' : World} {base : Nat} {v : Value} {ls : List ElemD} (h : OwnE w base v ls) (hb : Below w.heap.size w w') : OwnE w' base v ls :=
  h.kept ⟨hb.os, hb.tape, hb.output, hb.size, fun i hi _ => hb.block i hi⟩ (row := none) (by cases v.ownBlock <;> simp)
theorem OwnE.mono {w : World} {base base' : Nat} {v : Value} {ls : List ElemD} (h : OwnE w base v ls) (hb : base' ≤ base) : OwnE w base' v ls := by
  refine ⟨h.1, ?_⟩
  rcases h.2 with h0 | ⟨g, cap, cur, hv, hg, hr⟩
  · exact .inl h0
  · exact .inr ⟨g, cap, cur, hv, by omega, hr⟩
/-- the k-th element -/
def elemAt (ls : List ElemD) (k : Nat) : ElemD := ls.getD k default
theorem elemAt_get {ls : List ElemD} {k : Nat} (h : k < ls.length) : ls[k]? = some (elemAt ls k) := by simp [elemAt, h]
theorem elemAt_mem {ls : List ElemD} {k : Nat} (h : k < ls.length) : elemAt ls k ∈ ls := by simp [elemAt, h]
/-- the slice at A reads as the elements ls -/
def ElemsAt (w : World) (A : Option Addr) (ls : List ElemD) : Prop :=
  0 < ls.length → ∃ b off, A = some ⟨b, off, none⟩ ∧ b < w.heap.size ∧ ∀ j, j < ls.length →
    w.cell? ⟨b, off + j * 4, none⟩ = some (.int .i64 (elemAt ls j).p) ∧ w.cell? ⟨b, off + j * 4 + 1, none⟩ = some (.int .i64 (elemAt ls j).s) ∧ w.cell? ⟨b, off + j * 4 + 2, none⟩ = some (.int .i64 (elemAt ls j).t) ∧ w.cell? ⟨b, off + j * 4 + 3, none⟩ = some (.bool (elemAt ls j).v)
theorem ElemsAt.keep {w w' : World} {A : Option Addr} {ls : List ElemD} (h : ElemsAt w A ls) (hb : Below w.heap.size w w') : ElemsAt w' A ls := by
  intro hz
  obtain ⟨b, off, e, hlt, hc⟩ := h hz
  refine ⟨b, off, e, Nat.lt_of_lt_of_le hlt hb.size, fun j hj => ?_⟩
  obtain ⟨h0, h1, h2, h3⟩ := hc j hj
  exact ⟨(hb.cell hlt).trans h0, (hb.cell hlt).trans h1, (hb.cell hlt).trans h2, (hb.cell hlt).trans h3⟩
theorem ElemsAt.at_ {w : World} {A : Option Addr} {ls : List ElemD} (h : ElemsAt w A ls) {k : Nat} (hk : k < ls.length) : ∃ b off, A = some ⟨b, off, none⟩ ∧ b < w.heap.size ∧
    w.cell? ⟨b, off + k * 4, none⟩ = some (.int .i64 (elemAt ls k).p) ∧ w.cell? ⟨b, off + k * 4 + 1, none⟩ = some (.int .i64 (elemAt ls k).s) ∧ w.cell? ⟨b, off + k * 4 + 2, none⟩ = some (.int .i64 (elemAt ls k).t) ∧ w.cell? ⟨b, off + k * 4 + 3, none⟩ = some (.bool (elemAt ls k).v) := by
  obtain ⟨b, off, e, hb, hc⟩ := h (by omega)
  exact ⟨b, off, e, hb, hc k hk⟩
theorem rowE_at : ∀ (ls : List ElemD) (j : Nat) (d : ElemD), ls[j]? = some d → ∀ i, i < 4 → (rowE ls)[j * 4 + i]? = (elemCells d)[i]?
  | [], j, d, h, i, hi => by simp at h
  | y :: ls, 0, d, h, i, hi => by
    simp at h
    subst h
    simp only [rowE, List.flatMap_cons, Nat.zero_mul, Nat.zero_add]
    rw [List.getElem?_append_left (by simpa [elemCells] using hi)]
  | y :: ls, j + 1, d, h, i, hi => by
    simp at h
    simp only [rowE, List.flatMap_cons]
    rw [List.getElem?_append_right (by simp [elemCells]; omega)]
    have := rowE_at ls j d h i hi
    rw [← this]
    congr 1
    simp [elemCells]
    omega
theorem OwnE.elems {w : World} {base : Nat} {A : Option Addr} {n c : Nat} {ls : List ElemD} (h : OwnE w base (.slice A n c) ls) : ElemsAt w A ls := by
  intro hz
  obtain ⟨g, cap, hv, _, hlt⟩ := World.ownsRow.form h hz
  have hA : A = some ⟨g, 0, none⟩ := by injection hv
  subst hA
  refine ⟨g, 0, rfl, hlt, fun j hj => ?_⟩
  have key : ∀ i v, i < 4 → (elemCells (elemAt ls j))[i]? = some v → w.cell? ⟨g, 0 + j * 4 + i, none⟩ = some v := fun i v hi hv' => by
    have := World.ownsRow.cells h (g := g) (by injection hv with _ _ e3; rw [e3]; rfl) (j * 4 + i) v ((rowE_at ls j _ (elemAt_get hj) i hi).trans hv')
    rw [Go.WideShapes.add_plain] at this
    rw [← this]
    congr 2
    omega
  exact ⟨key 0 _ (by omega) rfl, key 1 _ (by omega) rfl, key 2 _ (by omega) rfl, key 3 _ (by omega) rfl⟩
end Go.Proofs.YthogkokifiibnaaDoor
