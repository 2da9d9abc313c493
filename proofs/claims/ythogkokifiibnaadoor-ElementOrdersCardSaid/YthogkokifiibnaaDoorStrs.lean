/- Slices of strings: read, of the call's own, append of one. -/
import Derived.Test.YthogkokifiibnaaDoorMem
import Derived.Test.YthogkokifiibnaaDoorSplit
namespace Go.Proofs.YthogkokifiibnaaDoor
open Go.RowKit Go.Sort

/-- the k-th piece -/
def piece (ps : List (List UInt8)) (k : Nat) : List UInt8 := ps.getD k []
theorem drop_piece {ps : List (List UInt8)} {k : Nat} (h : k < ps.length) : ps.drop k = piece ps k :: ps.drop (k + 1) := by
  unfold piece
  rw [List.getD_eq_getElem?_getD, List.getElem?_eq_getElem h]
  exact List.drop_eq_getElem_cons h
theorem piece_mem {ps : List (List UInt8)} {k : Nat} (h : k < ps.length) : piece ps k ∈ ps := by
  unfold piece
  rw [List.getD_eq_getElem?_getD, List.getElem?_eq_getElem h]
  exact List.getElem_mem h
def strCellsOf (ps : List (List UInt8)) : Array Value := (ps.map fun p => Value.string ⟨p.toArray⟩).toArray
theorem piece_cell {w : World} {b : Nat} {ps : List (List UInt8)} (h : Blk w b (strCellsOf ps) 9) {k : Nat} (hk : k < ps.length) : w.cell? ⟨b, k, none⟩ = some (.string ⟨(piece ps k).toArray⟩) := by
  rw [h.cell k]
  unfold strCellsOf piece
  simp [hk]

theorem splitL_piece_le (c : UInt8) : ∀ (l : List UInt8), ∀ p ∈ splitL c l, p.length ≤ l.length
  | [], p, hp => by simp [splitL] at hp; subst hp; simp
  | b :: l, p, hp => by
    have ih := splitL_piece_le c l
    by_cases hb : b = c
    · subst hb
      rw [splitL_hit] at hp
      rcases List.mem_cons.1 hp with h | h
      · subst h; simp
      · have := ih p h; simp; omega
    · rw [splitL_miss hb] at hp
      cases hs : splitL c l with
      | nil => exact absurd hs (splitL_ne c l)
      | cons q qs =>
        rw [hs] at hp ih
        rcases List.mem_cons.1 hp with h | h
        · subst h; have := ih q (by simp); simp; omega
        · have := ih p (by simp [h]); simp; omega

/-- the slice at A reads as the strings ps -/
def StrsAt (w : World) (A : Option Addr) (ps : List (List UInt8)) : Prop :=
  0 < ps.length → ∃ b off, A = some ⟨b, off, none⟩ ∧ b < w.heap.size ∧ ∀ j, j < ps.length → w.cell? ⟨b, off + j, none⟩ = some (.string ⟨(piece ps j).toArray⟩)
theorem StrsAt.keep {w w' : World} {A : Option Addr} {ps : List (List UInt8)} (h : StrsAt w A ps) (hb : Below w.heap.size w w') : StrsAt w' A ps := by
  intro hz
  obtain ⟨b, off, e, hlt, hc⟩ := h hz
  exact ⟨b, off, e, Nat.lt_of_lt_of_le hlt hb.size, fun j hj => (hb.cell (p := ⟨b, off + j, none⟩) hlt).trans (hc j hj)⟩
def strVals (ps : List (List UInt8)) : List Value := ps.map fun p => Value.string ⟨p.toArray⟩
theorem strVals_snoc (ps : List (List UInt8)) (p : List UInt8) : strVals ps ++ [.string ⟨p.toArray⟩] = strVals (ps ++ [p]) := by simp [strVals]
theorem StrsAt.of_own {w : World} {base : Nat} {A : Option Addr} {c : Nat} {ps : List (List UInt8)} (h : w.ownsRow base 9 1 (.slice A ps.length c) ps.length (strVals ps)) : StrsAt w A ps := by
  intro hn
  obtain ⟨g, cap, hv, _, hlt⟩ := h.form hn
  have hA : A = some ⟨g, 0, none⟩ := by injection hv
  subst hA
  refine ⟨g, 0, rfl, hlt, fun j hj => ?_⟩
  have := h.cells (g := g) rfl j (.string ⟨(piece ps j).toArray⟩) (by simp [strVals, piece, hj])
  rwa [Go.WideShapes.add_plain] at this

def glue (s : List UInt8) : List (List UInt8) → List (List UInt8)
  | p :: ps => (s ++ p) :: ps
  | [] => []
theorem glue_nil (ps : List (List UInt8)) : glue [] ps = ps := by cases ps <;> rfl
theorem split_hit {l : List UInt8} {j k : Nat} {c : UInt8} {done : List (List UInt8)} (hk : k < l.length) (hb : l[k] = c) (h : splitL c l = done ++ glue (seg l j k) (splitL c (l.drop k))) :
    splitL c l = (done ++ [seg l j k]) ++ glue (seg l (k + 1) (k + 1)) (splitL c (l.drop (k + 1))) := by
  rw [h, bytes_drop hk, hb, splitL_hit, seg_self, glue_nil]
  simp [glue]
theorem split_miss {l : List UInt8} {j k : Nat} {c : UInt8} {done : List (List UInt8)} (hj : j ≤ k) (hk : k < l.length) (hb : ¬ l[k] = c) (h : splitL c l = done ++ glue (seg l j k) (splitL c (l.drop k))) :
    splitL c l = done ++ glue (seg l j (k + 1)) (splitL c (l.drop (k + 1))) := by
  rw [h, bytes_drop hk, splitL_miss hb, seg_snoc hj hk]
  cases hs : splitL c (l.drop (k + 1)) with
  | nil => exact absurd hs (splitL_ne _ _)
  | cons p ps => simp [glue]
theorem split_end {l : List UInt8} {j : Nat} {c : UInt8} {done : List (List UInt8)} (h : splitL c l = done ++ glue (seg l j l.length) (splitL c (l.drop l.length))) : splitL c l = done ++ [seg l j l.length] := by
  rw [h, List.drop_of_length_le (Nat.le_refl _)]
  simp [splitL, glue]
theorem infoStr : (Tryd.prog.info? 9).map (fun i => (i.zero, i.size, i.bytes)) = some (some (.string ByteArray.empty), 1, 16) := by kernel_rfl


/-- v is a slice of strings of the call's own, from block base on, that holds ps -/
def OwnS (w : World) (base : Nat) (v : Value) (ps : List (List UInt8)) : Prop := w.ownsRow base 9 1 v ps.length (strVals ps)
theorem OwnS.nil (w : World) (base : Nat) : OwnS w base (.slice none 0 0) [] := ⟨by simp [strVals], .inl ⟨rfl, by simp⟩⟩
theorem OwnS.form {w : World} {base : Nat} {v : Value} {ps : List (List UInt8)} (h : OwnS w base v ps) : ∃ A c, v = .slice A ps.length c ∧ ps.length ≤ c ∧ (A = none → c = 0) := by
  rcases h.2 with ⟨hv, h0⟩ | ⟨g, cap, cur, hv, _, _, h1, _⟩
  · exact ⟨none, 0, by rw [hv, h0], by omega, fun _ => rfl⟩
  · exact ⟨_, _, hv, h1, fun h => by cases h⟩
theorem OwnS.keep {w w' : World} {base : Nat} {v : Value} {ps : List (List UInt8)} (h : OwnS w base v ps) (hb : Below w.heap.size w w') : OwnS w' base v ps :=
  World.ownsRow.kept h ⟨hb.os, hb.tape, hb.output, hb.size, fun i hi _ => hb.block i hi⟩ (row := none) (by cases v.ownBlock <;> simp)
theorem OwnS.strs {w : World} {base : Nat} {A : Option Addr} {c : Nat} {ps : List (List UInt8)} (h : OwnS w base (.slice A ps.length c) ps) : StrsAt w A ps := StrsAt.of_own h
theorem OwnS.blk {w : World} {base : Nat} {A : Option Addr} {c : Nat} {ps : List (List UInt8)} (h : OwnS w base (.slice A ps.length c) ps) : ∀ b off, A = some ⟨b, off, none⟩ → base ≤ b := by
  intro b off hA
  rcases h.2 with ⟨hv, _⟩ | ⟨g, cap, cur, hv, hg, _⟩
  · injection hv with e1; rw [e1] at hA; cases hA
  · injection hv with e1; rw [e1] at hA; injection hA with e2; injection e2 with e3; omega
/-- append(v, p), as a step of a walk: the new string lies in the newest block -/
theorem wpS {ops : Array Oper} {rest : List Oper} {o : Oper} {a : Act} {Q : Exit → Act → World → Prop} {W : World} (hgd : o.guard = none) (s x : Operand) (ho : o.op = .call { callee := .builtin .append, args := #[s, x], argTypes := #[81, 81] })
    (base : Nat) {v : Value} {ps : List (List UInt8)} (hs : a.eval s = v) (h : OwnS W base v ps) (p : List UInt8) (hx : a.eval x = .slice (some ⟨W.heap.size, 0, none⟩) 1 1) (hl : ps.length + 1 ≤ 1000000) (hb : base ≤ W.heap.size)
    (hK : ∀ v' w', Hid (OwnS w' base v' (ps ++ [p])) → (∀ w0, Below base w0 W → Below base w0 w') → wpList Tryd.prog ops Q rest (a.put o.dst v') w') : wpList Tryd.prog ops Q (o :: rest) a (W.alloc (.cells #[.string ⟨p.toArray⟩] 9)) := by
  obtain ⟨i0, hi, hz0, hz1, hz2⟩ := info_parts infoStr
  refine wpList_append_own _ hgd s x 81 ho base 9 i0 (.string ByteArray.empty) 1 16 Tryd.underlying81 hi hz0 hz1 hz2 rfl (by decide) v ps.length (strVals ps) hs (h.keep (bBox _ _)) ⟨W.heap.size, 0, none⟩ 1 1 [.string ⟨p.toArray⟩] hx rfl
    (fun i u hj => by match i, hj with | 0, hj => simp at hj; subst hj; simp [Addr.add]) (fun u hu => by simp at hu; subst hu; rfl) (by unfold maxLen; omega) (by omega) (by simp; omega) ?_
  intro v' w' hown' hg _
  refine hK v' w' (Lib.hid ?_) (fun w0 h0 => ?_)
  · unfold OwnS
    rw [List.length_append, ← strVals_snoc]
    exact hown'
  · exact (h0.alloc hb _).grown hg (by simp; omega) (fun k hk => (h.lt k hk).1)
end Go.Proofs.YthogkokifiibnaaDoor
