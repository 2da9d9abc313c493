/- strings.Builder, alone (block of type strings.Builder) or as the first field of a larger struct. Cutting a string at a byte, and splitting it: plain laws that join the library's words to simple recursions. No program in sight. Slices of ints of the call's own, append, reslicing. Slices of strings: read, of the call's own, append of one. The package-level variables that are read; strings.Cut and strings.Split at a byte. -/
import Derived.Test.YthogkokifiibnaaGreatDoorProg
import Derived.Test.YthogkokifiibnaaGreatDoorA1
import Derived.Lib.Builder
import Derived.Lib.AppendStr
import Derived.Lib.UnsafeStr
import Derived.Lib.Strings
import Derived.RegionTactic
import Derived.OwnWalk
import Derived.Laws.Externs
import Derived.Lib.Split
import Derived.Lib.SplitLaws
import Derived.Maps.AppendAt
import Derived.Deep.RegionHeld
import Derived.Deep.RegionLaw
import Derived.Deep.AppendLies
import Derived.Laws.AppendOwnNone
import Derived.IntWalk
import Derived.Test.YthogkokifiibnaaGreatDoorShelf
namespace Go.Proofs.YthogkokifiibnaaGreatDoor
open Go.RowKit

/-- block b, of type T, begins with a strings.Builder that holds the bytes l; the cells tail follow it; its buffer lies behind b -/
def Bld (T : TypeId) (tail : List Value) (b : Nat) (l : List UInt8) (w : World) : Prop :=
  ∃ p v, (p = .pointer none ∨ p = .pointer (some ⟨b, 0, none⟩)) ∧ w.heap[b]? = some (.cells (p :: v :: tail).toArray T (0, 0)) ∧ w.ownsRow b 5 1 v l.length (Lib.byteCells l) ∧ v.ownBlock ≠ some b ∧ (l = [] → v = .slice none 0 0)

/-- what is asked of the block's type -/
structure BldTy (T : TypeId) (n : Nat) : Prop where
  lies : liesAt Tryz.prog Tryz.prog.depth T (n / Tryz.prog.cellsOf T) 0 57 1 = true
  ne : T ≠ 5
  two : 2 ≤ n
theorem bldTy0 : BldTy 57 2 := ⟨by kernel_rfl, by decide, by decide⟩
theorem sizeBld : (Tryz.prog.info? 57).map (·.size) = some 2 := by kernel_rfl
theorem infoByte : (Tryz.prog.info? 5).map (fun i => (i.zero, i.size, i.bytes)) = some (some (.int .u8 0), 1, 1) := by kernel_rfl
theorem cellsByte : Tryz.prog.cellsOf 5 = 1 := by kernel_rfl

theorem Bld.lt {T : TypeId} {tail : List Value} {b : Nat} {l : List UInt8} {w : World} (h : Bld T tail b l w) : b < w.heap.size := by
  obtain ⟨p, v, _, hb, _⟩ := h
  exact (Array.getElem?_eq_some_iff.1 hb).1
/-- a new one -/
theorem Bld.fresh (T : TypeId) (tail : List Value) (w : World) : Bld T tail w.heap.size [] (w.alloc (.cells (.pointer none :: .slice none 0 0 :: tail).toArray T)) :=
  ⟨.pointer none, .slice none 0 0, .inl rfl, heap_alloc_new w _, ⟨by simp [Lib.byteCells], .inl ⟨rfl, by simp⟩⟩, by simp [Value.ownBlock], fun _ => rfl⟩
/-- it stands while the heap grows -/
theorem Bld.keep {T : TypeId} {tail : List Value} {b : Nat} {l : List UInt8} {w w' : World} (h : Bld T tail b l w) (hb : Below w.heap.size w w') : Bld T tail b l w' := by
  have hlt := h.lt
  obtain ⟨p, v, hp, hh, hown, hne, hn⟩ := h
  refine ⟨p, v, hp, (hb.block b hlt).trans hh, hown.kept ⟨hb.os, hb.tape, hb.output, hb.size, fun i hi _ => hb.block i hi⟩ (row := none) (by cases v.ownBlock <;> simp), hne, hn⟩

/-- nothing has changed but the builder's block b and rows of bytes -/
def FrB (b : Nat) (w w' : World) : Prop := ∀ k o, k ≠ b → w.heap[k]? = some o → (∀ cs fr, o ≠ .cells cs 5 fr) → w'.heap[k]? = some o
theorem FrB.refl (b : Nat) (w : World) : FrB b w w := fun _ _ _ h _ => h
theorem FrB.trans {b : Nat} {w1 w2 w3 : World} (h : FrB b w1 w2) (k : FrB b w2 w3) : FrB b w1 w3 := fun i o hi ho hn => k i o hi (h i o hi ho hn) hn
theorem FrB.alloc (b : Nat) (w : World) (o : Obj) : FrB b w (w.alloc o) := fun k _ _ hk _ => (Below.heap_alloc w o k (Array.getElem?_eq_some_iff.1 hk).1).trans hk
theorem FrB.set (b i : Nat) (w : World) (v : Value) : FrB b w (w.setCell ⟨b, i, none⟩ v) := fun k _ hk h _ => (Below.heap_setCell w _ v k hk).trans h
theorem FrB.below {b : Nat} {w w' : World} (h : Below w.heap.size w w') : FrB b w w' := fun k _ _ hk _ => (h.block k (Array.getElem?_eq_some_iff.1 hk).1).trans hk
theorem FrB.freeze {b g : Nat} {w : World} {cur : Array Value} {fr : Nat × Nat} (hg : w.heap[g]? = some (.cells cur 5 fr)) (n : Nat) : FrB b w (w.drew.freeze ⟨g, 0, none⟩ n) := by
  intro k o _ hk hn
  by_cases e : g = k
  · subst e
    rw [hk] at hg
    injection hg with hg
    exact absurd hg (hn _ _)
  · unfold World.freeze
    split
    · exact hk
    · simp only [Array.getElem?_modify]
      rw [if_neg e]
      exact hk
theorem FrB.grown {b base n : Nat} {w w' : World} {v : Value} {xs : List Value} (h : w.ownsRow base 5 1 v n xs) (hg : w.grownBy w' v.ownBlock) : FrB b w w' := by
  intro k o _ hk hn
  refine (hg.block k (Array.getElem?_eq_some_iff.1 hk).1 ?_).trans hk
  intro e
  rcases h.2 with ⟨rfl, _⟩ | ⟨g, cap, cur, rfl, _, hb, _⟩
  · cases e
  · have : k = g := by simpa [Value.ownBlock] using e
    subst this
    rw [hk] at hb
    injection hb with hb
    exact hn _ _ hb

section
variable {T : TypeId} {tail : List Value} {b : Nat} {l : List UInt8} {w : World}

theorem bld_cell {p v : Value} (hb : w.heap[b]? = some (.cells (p :: v :: tail).toArray T (0, 0))) : w.cell? ⟨b, 0, none⟩ = some p ∧ w.cell? ⟨b, 1, none⟩ = some v ∧ (∀ i, w.frozen? ⟨b, i, none⟩ = false) ∧ (∀ i u, tail[i]? = some u → w.cell? ⟨b, i + 2, none⟩ = some u) ∧ w.shape? b = some (T, tail.length + 2) := by
  refine ⟨by rw [Lib.cell_of_heap hb]; rfl, by rw [Lib.cell_of_heap hb]; rfl, fun i => Lib.frozen_of_heap hb i, fun i u h => by rw [Lib.cell_of_heap hb]; simpa using h, by simp [World.shape?, hb]⟩

set_option maxRecDepth 100000 in
theorem copyCheck_used (b : Nat) (w : World) (h0 : w.cell? ⟨b, 0, none⟩ = some (.pointer (some ⟨b, 0, none⟩))) :
    Calls Tryz.prog 51 #[.pointer (some ⟨b, 0, none⟩)] w fun e w' => e = .returned (.tuple #[]) ∧ w = w' := by
  obtain ⟨j, hj, _⟩ := Option.map_eq_some_iff.1 sizeBld
  go_enter Tryz.func51, Tryz.ntmps51
  go_wp2
  rw [Lib.run_neq_ptr_same w _ Tryz.underlying54 hj]
  go_wp2
  go_end0
  exact ⟨rfl, rfl⟩

set_option maxRecDepth 100000 in
theorem copyCheck_fresh {n : Nat} (hT : BldTy T n) (b : Nat) (w : World) (h0 : w.cell? ⟨b, 0, none⟩ = some (.pointer none)) (hsh : w.shape? b = some (T, n)) (hfz : w.frozen? ⟨b, 0, none⟩ = false) :
    Calls Tryz.prog 51 #[.pointer (some ⟨b, 0, none⟩)] w fun e w' => e = .returned (.tuple #[]) ∧ w.setCell ⟨b, 0, none⟩ (.pointer (some ⟨b, 0, none⟩)) = w' := by
  obtain ⟨j, hj, hjs⟩ := Option.map_eq_some_iff.1 sizeBld
  go_enter Tryz.func51, Tryz.ntmps51
  go_wp2
  rw [Lib.run_to_unsafe w ⟨b, 0, none⟩ Tryz.underlying54 Tryz.underlying101 hj (by rw [hjs]; decide) hsh (by have := hT.two; show 0 < n; omega)]
  simp only [Result.andThen]
  rw [Oper.upon_value]
  go_wp2
  rw [run_callFunc_extern Tryz.func70 (by kernel_rfl) (by kernel_rfl) (by kernel_rfl) (e := Extern.AbiNoEscape.same) (by kernel_rfl)]
  rw [Lib.run_noEscape]
  simp only [Result.andThen]
  rw [Oper.upon_value]
  go_wp2
  rw [Lib.run_from_unsafe w ⟨b, 0, none⟩ Tryz.underlying101 Tryz.underlying54 hj hsh hT.lies]
  simp only [Result.andThen]
  rw [Oper.upon_value]
  go_wp2
  go_end0
  exact ⟨rfl, rfl⟩

/-- behind copyCheck the builder holds its own address -/
def BldUsed (T : TypeId) (tail : List Value) (b : Nat) (l : List UInt8) (v : Value) (w : World) : Prop :=
  w.heap[b]? = some (.cells (.pointer (some ⟨b, 0, none⟩) :: v :: tail).toArray T (0, 0)) ∧ w.ownsRow b 5 1 v l.length (Lib.byteCells l) ∧ v.ownBlock ≠ some b ∧ (l = [] → v = .slice none 0 0)

theorem copyCheck_any (hT : BldTy T (tail.length + 2)) (h : Bld T tail b l w) :
    Calls Tryz.prog 51 #[.pointer (some ⟨b, 0, none⟩)] w fun e w' => e = .returned (.tuple #[]) ∧ (∃ v, BldUsed T tail b l v w') ∧ Below b w w' ∧ FrB b w w' := by
  obtain ⟨p, v, hp, hb, hown, hne, hn⟩ := h
  obtain ⟨c0, c1, fz, ct, hsh⟩ := bld_cell hb
  rcases hp with rfl | rfl
  · refine (copyCheck_fresh hT b w c0 hsh (fz 0)).mono ?_
    rintro e w' ⟨rfl, rfl⟩
    refine ⟨rfl, ⟨v, ?_, ?_, hne, hn⟩, (Below.refl b w).setCell (p := ⟨b, 0, none⟩) (Nat.le_refl _) _, FrB.set _ _ _ _⟩
    · simp [World.setCell, Array.getElem?_modify, hb]
    · exact hown.kept (row := some b) ⟨rfl, rfl, rfl, by simp [World.setCell], fun k _ hk => Below.heap_setCell _ _ _ _ (fun e => hk (by simp [e]))⟩ (Or.inr hne)
  · refine (copyCheck_used b w c0).mono ?_
    rintro e w' ⟨rfl, rfl⟩
    exact ⟨rfl, ⟨v, hb, hown, hne, hn⟩, Below.refl _ _, FrB.refl _ _⟩

theorem byteCells_snoc (l : List UInt8) (c : UInt8) : Lib.byteCells l ++ [.int .u8 c.toNat] = Lib.byteCells (l ++ [c]) := by simp [Lib.byteCells]

theorem bld_put {v v' : Value} {l' : List UInt8} (hTe : T ≠ 5) (hb : w.heap[b]? = some (.cells (.pointer (some ⟨b, 0, none⟩) :: v :: tail).toArray T (0, 0)))
    (hown : w.ownsRow b 5 1 v' l'.length (Lib.byteCells l')) (hn : l' = [] → v' = .slice none 0 0) : Bld T tail b l' (w.setCell ⟨b, 1, none⟩ v') := by
  have hne := Lib.ownBlock_ne hown hb hTe
  refine ⟨.pointer (some ⟨b, 0, none⟩), v', .inr rfl, ?_, ?_, hne, hn⟩
  · simp [World.setCell, Array.getElem?_modify, hb]
  · exact hown.kept (row := some b) ⟨rfl, rfl, rfl, by simp [World.setCell], fun k _ hk => Below.heap_setCell _ _ _ _ (fun e => hk (by simp [e]))⟩ (Or.inr hne)

set_option maxHeartbeats 1000000 in
set_option maxRecDepth 100000 in
theorem writeStringF (hT : BldTy T (tail.length + 2)) (h : Bld T tail b l w) (m : List UInt8) (hlen : l.length ≤ 1000000000) (hm : m.length ≤ 1000000000) :
    Calls Tryz.prog 26 #[.pointer (some ⟨b, 0, none⟩), .string ⟨m.toArray⟩] w fun e w' => e = .returned (.tuple #[.int .i64 m.length, .nilIface]) ∧ Bld T tail b (l ++ m) w' ∧ Below b w w' ∧ FrB b w w' := by
  obtain ⟨i0, hi, hz0, hz1, hz2⟩ := info_parts infoByte
  have Hc := Lib.hid (copyCheck_any hT h)
  have hbw := Nat.le_of_lt h.lt
  have HT := Lib.hid hT
  clear h hT
  go_enter Tryz.func26, Tryz.ntmps26
  go_wp2_with fail
  refine Hc.out.mono ?_
  rintro e w1 ⟨rfl, ⟨v, hbk, hown, hne, hn⟩, hb1, hfr1⟩
  clear Hc
  have HN := Lib.hid hn
  clear hn
  obtain ⟨c0, c1, fz, ct, hsh⟩ := bld_cell hbk
  clear ct hsh
  go_wp2_with (at_builtin; refine Lib.wpList_append_own_string _ rfl _ _ 55 9 rfl b 5 i0 Tryz.underlying55 Tryz.underlying9 hi hz0 hz1 hz2 _ _ _ rfl hown ⟨m.toArray⟩ rfl ?c3 ?c4 ?c5 ?_)
  case c3 => show l.length + m.length ≤ maxLen; unfold maxLen; omega
  case c4 => show l.length + m.length ≤ _; omega
  case c5 => have := hb1.size; omega
  intro v' w2 hown' hgrow hnil
  have hlt : b < w1.heap.size := (Array.getElem?_eq_some_iff.1 hbk).1
  have hb2 : w2.heap[b]? = some (.cells (.pointer (some ⟨b, 0, none⟩) :: v :: tail).toArray T (0, 0)) := by
    rw [hgrow.block b hlt (fun e => hne e.symm)]
    exact hbk
  obtain ⟨d0, d1, f1, _, _⟩ := bld_cell hb2
  have HNil := Lib.hid hnil
  clear hnil
  have hex : ∃ ao n' cap, v' = .slice ao n' cap := by
    rcases hown'.2 with ⟨hv, _⟩ | ⟨g, cap, cur, hv, _⟩
    · exact ⟨_, _, _, hv⟩
    · exact ⟨_, _, _, hv⟩
  obtain ⟨ao, n', cap, hv'⟩ := hex
  subst hv'
  have hcells : Lib.byteCells l ++ Lib.strCells ⟨m.toArray⟩ = Lib.byteCells (l ++ m) := by simp [Lib.byteCells, Lib.strCells]
  rw [hcells] at hown'
  clear hcells
  have HO := Lib.hid hown'
  clear hown'
  go_wp2
  go_ret2
  refine ⟨rfl, bld_put HT.out.ne hb2 (by rw [List.length_append]; exact HO.out) (fun e => ?_), ?_, ?_⟩
  · have e1 : l = [] ∧ m = [] := by simpa using e
    exact HNil.out.2 ⟨HN.out e1.1, by rw [e1.2]; try rfl⟩
  · exact (hb1.grown hgrow (by have := hb1.size; omega) (fun k hk => (hown.lt k hk).1)).setCell (p := ⟨b, 1, none⟩) (Nat.le_refl _) _
  · exact (hfr1.trans (FrB.grown hown hgrow)).trans (FrB.set _ _ _ _)
theorem writeString (hT : BldTy T (tail.length + 2)) (h : Bld T tail b l w) (m : List UInt8) (hlen : l.length ≤ 1000000000) (hm : m.length ≤ 1000000000) :
    Calls Tryz.prog 26 #[.pointer (some ⟨b, 0, none⟩), .string ⟨m.toArray⟩] w fun e w' => e = .returned (.tuple #[.int .i64 m.length, .nilIface]) ∧ Bld T tail b (l ++ m) w' ∧ Below b w w' :=
  (writeStringF hT h m hlen hm).mono fun _ _ ⟨h1, h2, h3, _⟩ => ⟨h1, h2, h3⟩

set_option maxHeartbeats 1000000 in
set_option maxRecDepth 100000 in
theorem bldString_some (h : Bld T tail b l w) (h0 : l ≠ []) :
    Calls Tryz.prog 28 #[.pointer (some ⟨b, 0, none⟩)] w fun e w' => e = .returned (.string ⟨l.toArray⟩) ∧ Below b w w' ∧ FrB b w w' := by
  obtain ⟨p, v, hp, hbk, hown, hne, hn⟩ := h
  have hl0 : l.length ≠ 0 := by simpa using h0
  obtain ⟨g, cap, cur, rfl, hbg, hg, hnc, hcm, hcs, htake⟩ : ∃ g cap cur, v = .slice (some ⟨g, 0, none⟩) l.length cap ∧ b ≤ g ∧ w.heap[g]? = some (.cells cur 5 (0, 0)) ∧ l.length ≤ cap ∧ cap ≤ maxLen ∧ cur.size = cap * 1 ∧ cur.toList.take (l.length * 1) = Lib.byteCells l := by
    rcases hown.2 with ⟨_, hz⟩ | ⟨g, cap, cur, hv, r⟩
    · exact absurd hz (by simpa using hl0)
    · exact ⟨g, cap, cur, hv, r⟩
  have c1 : w.drew.cell? ⟨b, 1, none⟩ = some (.slice (some ⟨g, 0, none⟩) l.length cap) := (bld_cell (w := w.drew) hbk).2.1
  have hSD : (Builtin.unsafeSliceData_ #[55] 87 #[.slice (some ⟨g, 0, none⟩) l.length cap]).run Tryz.prog w.drew = .ok (.pointer (some ⟨g, 0, none⟩)) w.drew :=
    Lib.run_unsafeSliceData_row _ _ _ _ _ _ (by omega)
  have hUS : (Builtin.unsafeString_ #[87, 3] 9 #[.pointer (some ⟨g, 0, none⟩), .int .i64 l.length]).run Tryz.prog w.drew = .ok (.string ⟨l.toArray⟩) (w.drew.freeze ⟨g, 0, none⟩ l.length) := by
    refine Lib.run_unsafeString_row w.drew 87 3 9 5 Tryz.underlying87 cellsByte g cur.size (by have hg' : w.drew.heap[g]? = some (.cells cur 5 (0, 0)) := hg; simp [World.shape?, hg']) l h0 (by omega) (by unfold maxLen at hcm; omega) ?_
    intro j x hx
    exact hown.cells (g := g) rfl j (.int .u8 x.toNat) (by simp [Lib.byteCells, hx])
  have HG := Lib.hid hbg
  have HF := Lib.hid (FrB.freeze (b := b) (w := w) hg l.length)
  clear hn hown htake hg hcs hcm hbk hp hne hbg
  go_enter Tryz.func28, Tryz.ntmps28
  go_wp2
  go_region
  all_goals (go_wp2; go_ret; exact ⟨rfl, Lib.below_freeze (Below.drew (Below.refl b w)) (p := ⟨g, 0, none⟩) HG.out _, HF.out⟩)

set_option maxHeartbeats 1000000 in
set_option maxRecDepth 100000 in
theorem bldString_none (h : Bld T tail b [] w) :
    Calls Tryz.prog 28 #[.pointer (some ⟨b, 0, none⟩)] w fun e w' => e = .returned (.string ⟨#[]⟩) ∧ Below b w w' ∧ FrB b w w' := by
  obtain ⟨p, v, hp, hbk, hown, hne, hn⟩ := h
  obtain rfl := hn rfl
  have c1 : w.drew.cell? ⟨b, 1, none⟩ = some (.slice none 0 0) := (bld_cell (w := w.drew) hbk).2.1
  have hSD : (Builtin.unsafeSliceData_ #[55] 87 #[.slice none 0 0]).run Tryz.prog w.drew = .ok (.pointer none) w.drew := rfl
  have hUS := fun W => Lib.run_unsafeString_none (P := Tryz.prog) W 87 3 9 none
  clear hn hown hbk hp hne
  go_enter Tryz.func28, Tryz.ntmps28
  go_wp2
  go_region
  all_goals (go_wp2; go_ret; exact ⟨rfl, Below.drew (Below.refl b w), fun _ _ _ h _ => h⟩)

theorem bldStringF (h : Bld T tail b l w) :
    Calls Tryz.prog 28 #[.pointer (some ⟨b, 0, none⟩)] w fun e w' => e = .returned (.string ⟨l.toArray⟩) ∧ Below b w w' ∧ FrB b w w' := by
  cases l with
  | nil => exact bldString_none h
  | cons c r => exact bldString_some h (by simp)
theorem bldString (h : Bld T tail b l w) :
    Calls Tryz.prog 28 #[.pointer (some ⟨b, 0, none⟩)] w fun e w' => e = .returned (.string ⟨l.toArray⟩) ∧ Below b w w' :=
  (bldStringF h).mono fun _ _ ⟨h1, h2, _⟩ => ⟨h1, h2⟩
end
end Go.Proofs.YthogkokifiibnaaGreatDoor
namespace Go.Proofs.YthogkokifiibnaaGreatDoor

def cutB (c : UInt8) : List UInt8 → Option (List UInt8 × List UInt8)
  | [] => none
  | b :: l => if b = c then some ([], l) else (cutB c l).map fun p => (b :: p.1, p.2)
/-- the pieces between the bytes c -/
def splitL (c : UInt8) : List UInt8 → List (List UInt8)
  | [] => [[]]
  | b :: l => if b = c then [] :: splitL c l else match splitL c l with | p :: ps => (b :: p) :: ps | [] => [[b]]

theorem splitL_ne (c : UInt8) : ∀ l, splitL c l ≠ []
  | [] => by simp [splitL]
  | b :: l => by
    unfold splitL
    split
    · simp
    · split <;> simp
theorem cutB_some {c : UInt8} : ∀ {l a r : List UInt8}, cutB c l = some (a, r) → l = a ++ c :: r ∧ c ∉ a
  | [], _, _, h => by simp [cutB] at h
  | b :: l, a, r, h => by
    unfold cutB at h
    split at h
    · rename_i hb
      cases h
      exact ⟨by simp [hb], by simp⟩
    · rename_i hb
      cases hc : cutB c l with
      | none => rw [hc] at h; simp at h
      | some p =>
        obtain ⟨a', r'⟩ := p
        rw [hc] at h
        simp at h
        obtain ⟨rfl, rfl⟩ := h
        obtain ⟨e, hn⟩ := cutB_some hc
        exact ⟨by rw [e]; rfl, by simp [hn, Ne.symm hb]⟩
theorem cutB_none {c : UInt8} : ∀ {l : List UInt8}, cutB c l = none ↔ c ∉ l
  | [] => by simp [cutB]
  | b :: l => by
    unfold cutB
    split
    · rename_i hb; simp [hb]
    · rename_i hb
      simp [cutB_none (l := l), Ne.symm hb]
theorem index_cut (c : UInt8) : ∀ l, Lib.index l [c] = match cutB c l with | some p => (p.1.length : Int) | none => -1
  | [] => by simp [Lib.index, cutB]
  | b :: l => by
    unfold Lib.index cutB
    rw [index_cut c l]
    by_cases hb : b = c
    · simp [hb, List.isPrefixOf]
    · have hp : ([c] : List UInt8).isPrefixOf (b :: l) = false := by simp [List.isPrefixOf, Ne.symm hb]
      rw [hp, if_neg hb]
      cases hc : cutB c l with
      | none => simp
      | some p => simp
theorem lib_cut (c : UInt8) (l : List UInt8) : Lib.cut l [c] = match cutB c l with | some p => (p.1, p.2, true) | none => (l, [], false) := by
  unfold Lib.cut
  rw [index_cut]
  cases hc : cutB c l with
  | none => simp
  | some p =>
    obtain ⟨a, r⟩ := p
    obtain ⟨e, _⟩ := cutB_some hc
    simp [e]
theorem splitL_hit (c : UInt8) (l : List UInt8) : splitL c (c :: l) = [] :: splitL c l := by rw [splitL, if_pos rfl]
theorem splitL_miss {b c : UInt8} (hb : ¬ b = c) (l : List UInt8) : splitL c (b :: l) = match splitL c l with | p :: ps => (b :: p) :: ps | [] => [[b]] := by rw [splitL, if_neg hb]
theorem splitL_cut (c : UInt8) : ∀ l, splitL c l = match cutB c l with | some p => p.1 :: splitL c p.2 | none => [l]
  | [] => by simp [splitL, cutB]
  | b :: l => by
    by_cases hb : b = c
    · subst hb
      rw [splitL_hit, cutB, if_pos rfl]
    · rw [splitL_miss hb, cutB, if_neg hb, splitL_cut c l]
      cases hc : cutB c l <;> rfl
theorem splitK_one (c : UInt8) : ∀ (n : Nat) (l : List UInt8), l.length ≤ n → Lib.splitK [c] 0 (l.count c) l = splitL c l
  | 0, l, h => by
    have : l = [] := List.eq_nil_of_length_eq_zero (by omega)
    subst this
    simp [Lib.splitK, splitL]
  | n + 1, l, h => by
    rw [splitL_cut]
    cases hc : cutB c l with
    | none =>
      have hn := cutB_none.1 hc
      rw [List.count_eq_zero.2 hn]
      rfl
    | some p =>
      obtain ⟨a, r⟩ := p
      obtain ⟨e, hn⟩ := cutB_some hc
      have hcount : l.count c = r.count c + 1 := by rw [e, List.count_append, List.count_eq_zero.2 hn, List.count_cons_self]; omega
      have hi : Lib.index l [c] = (a.length : Int) := by rw [index_cut, hc]
      have hlen : r.length ≤ n := by rw [e] at h; simp at h; omega
      rw [hcount, Lib.splitK, hi, if_neg (by simp)]
      simp only [Int.toNat_natCast, List.length_singleton, Nat.add_zero]
      rw [e, List.take_left' rfl, List.drop_append, List.drop_of_length_le (by omega)]
      simp
      exact splitK_one c n r hlen
theorem splitB_one (c : UInt8) (l : List UInt8) : ((Lib.splitB ⟨#[c]⟩ 0 (Lib.countB ⟨l.toArray⟩ ⟨#[c]⟩) ⟨l.toArray⟩).map Value.string) = (splitL c l).map fun p => Value.string ⟨p.toArray⟩ := by
  have h := Lib.splitB_data ⟨#[c]⟩ 0 (Lib.countB ⟨l.toArray⟩ ⟨#[c]⟩) ⟨l.toArray⟩
  have hc : Lib.countB ⟨l.toArray⟩ ⟨#[c]⟩ = l.count c := Lib.count_one c l
  rw [hc] at h ⊢
  have h' := h.trans (splitK_one c l.length l (Nat.le_refl _))
  rw [← h', List.map_map]
  apply List.map_congr_left
  intro s _
  rfl
theorem splitL_length (c : UInt8) : ∀ l, (splitL c l).length = l.count c + 1
  | [] => by simp [splitL]
  | b :: l => by
    have ih := splitL_length c l
    by_cases hb : b = c
    · subst hb
      rw [splitL_hit, List.length_cons, ih, List.count_cons_self]
    · have hc : (b :: l).count c = l.count c := List.count_cons_of_ne hb
      rw [splitL_miss hb, hc, ← ih]
      cases hs : splitL c l with
      | nil => exact absurd hs (splitL_ne c l)
      | cons p ps => rfl
end Go.Proofs.YthogkokifiibnaaGreatDoor
namespace Go.Proofs.YthogkokifiibnaaGreatDoor
open Go.RowKit Go.Sort

theorem infoInt : (Tryz.prog.info? 3).map (fun i => (i.zero, i.size, i.bytes)) = some (some (.int .i64 0), 1, 8) := by kernel_rfl
theorem bcell {W w1 : World} (hb : Below W.heap.size W w1) : (∀ b o, b < W.heap.size → w1.cell? ⟨b, o, none⟩ = W.cell? ⟨b, o, none⟩) ∧ (∀ b o, b < W.heap.size → w1.frozen? ⟨b, o, none⟩ = W.frozen? ⟨b, o, none⟩) :=
  ⟨fun b o h => hb.cell (p := ⟨b, o, none⟩) h, fun b o h => hb.frozen (p := ⟨b, o, none⟩) h⟩
def intVals (zs : List Int) : List Value := zs.map (Value.int .i64)
/-- v is a slice of the call's own, from block base on, that holds zs -/
def OwnI (w : World) (base : Nat) (v : Value) (zs : List Int) : Prop := w.ownsRow base 3 1 v zs.length (intVals zs)
theorem OwnI.nil (w : World) (base : Nat) : OwnI w base (.slice none 0 0) [] := ⟨by simp [intVals], .inl ⟨rfl, by simp⟩⟩
theorem OwnI.form {w : World} {base : Nat} {v : Value} {zs : List Int} (h : OwnI w base v zs) : ∃ A c, v = .slice A zs.length c := by
  rcases h.2 with ⟨hv, h0⟩ | ⟨g, cap, cur, hv, _⟩
  · exact ⟨none, 0, by rw [hv, h0]⟩
  · exact ⟨_, _, hv⟩
theorem OwnI.ints {w : World} {base : Nat} {A : Option Addr} {c : Nat} {zs : List Int} (h : OwnI w base (.slice A zs.length c) zs) : IntsAt w A zs := by
  intro hn
  obtain ⟨g, cap, hv, _, hlt⟩ := World.ownsRow.form h hn
  have hA : A = some ⟨g, 0, none⟩ := by injection hv
  subst hA
  refine ⟨g, 0, rfl, hlt, fun j hj => ?_⟩
  have := World.ownsRow.cells h (g := g) rfl j (.int .i64 (nth zs j)) (by simp [intVals, nth, hj])
  rwa [Go.WideShapes.add_plain] at this
theorem OwnI.keep {w w' : World} {base : Nat} {v : Value} {zs : List Int} (h : OwnI w base v zs) (hb : Below w.heap.size w w') : OwnI w' base v zs :=
  World.ownsRow.kept h ⟨hb.os, hb.tape, hb.output, hb.size, fun i hi _ => hb.block i hi⟩ (row := none) (by cases v.ownBlock <;> simp)
/-- append(v, news...) where the new ints lie in the newest block -/
theorem appendI {w : World} {base : Nat} {v : Value} {zs : List Int} (h : OwnI w base v zs) (news : List Int) (hl : zs.length + news.length ≤ 1000000) (hb : base ≤ w.heap.size) (W : World) (hW : W.heap = (w.alloc (.cells (intVals news).toArray 3)).heap) (hos : W.os = w.os) (hta : W.tape = w.tape) (hou : W.output = w.output) :
    ∃ v' w', (Builtin.append_ #[48, 48] 48 #[v, .slice (some ⟨w.heap.size, 0, none⟩) news.length news.length]).run Tryz.prog W = .ok v' w' ∧ Hid (OwnI w' base v' (zs ++ news)) ∧ ∀ w0, Below base w0 w → Below base w0 w' := by
  obtain ⟨i0, hi, hz0, hz1, hz2⟩ := info_parts infoInt
  have hblk : W.heap[w.heap.size]? = some (.cells (intVals news).toArray 3 (0, 0)) := by rw [hW]; exact heap_alloc_new w _
  have hbw : Below w.heap.size w W := ⟨hos, hta, hou, by rw [hW]; simp, fun k hk => by rw [hW]; exact Below.heap_alloc _ _ _ hk⟩
  have hown : W.ownsRow base 3 1 v zs.length (intVals zs) := h.keep hbw
  obtain ⟨v', w', hrun, hown', hg, _⟩ := run_append_own_at (P := Tryz.prog) W base 48 48 3 i0 (.int .i64 0) 1 8 Tryz.underlying48 hi hz0 hz1 hz2 rfl (by decide) v zs.length (intVals zs) hown ⟨w.heap.size, 0, none⟩ news.length news.length (intVals news)
    (by simp [intVals]) (fun j u hu => by rw [Go.WideShapes.add_plain, Lib.cell_of_heap hblk]; simpa using hu) (fun u hu => by simp [intVals] at hu; obtain ⟨x, _, rfl⟩ := hu; rfl) (by unfold maxLen; omega) (by omega) (Nat.le_trans hb hbw.size)
  refine ⟨v', w', hrun, Lib.hid ?_, fun w0 h0 => ?_⟩
  · unfold OwnI
    rw [List.length_append]
    simpa [intVals] using hown'
  · exact (h0.trans (hbw.mono hb)).grown hg (Nat.le_trans hb hbw.size) (fun k hk => (hown.lt k hk).1)

theorem OwnI.set2 {w : World} {base : Nat} {A : Option Addr} {c : Nat} {zs : List Int} {blk : Nat} (h : OwnI w base (.slice A zs.length c) zs) (hb : blk < base) (u u' : Value) : IntsAt ((w.setCell ⟨blk, 0, none⟩ u).setCell ⟨blk, 1, none⟩ u') A zs := by
  intro hn
  obtain ⟨g, cap, hv, hg, _⟩ := World.ownsRow.form h hn
  obtain ⟨b, off, hA, hlt, hc⟩ := h.ints hn
  have hgb : g = b := by injection hv with h1; rw [hA] at h1; injection h1 with h2; injection h2 with h3; exact h3.symm
  refine ⟨b, off, hA, by simpa using hlt, fun j hj => ?_⟩
  rw [World.cell?_setCell_far _ _ _ _ (by show blk ≠ b; omega), World.cell?_setCell_far _ _ _ _ (by show blk ≠ b; omega)]
  exact hc j hj
/-- append(v, news...) where the new ints lie somewhere -/
theorem appendS {W : World} {base : Nat} {v : Value} {zs : List Int} (h : OwnI W base v zs) {B : Option Addr} {news : List Int} (c2 : Nat) (hB : IntsAt W B news) (hn : 0 < news.length) (hl : zs.length + news.length ≤ 1000000) (hb : base ≤ W.heap.size) :
    ∃ v' w', (Builtin.append_ #[48, 48] 48 #[v, .slice B news.length c2]).run Tryz.prog W = .ok v' w' ∧ Hid (OwnI w' base v' (zs ++ news)) ∧ ∀ w0, Below base w0 W → Below base w0 w' := by
  obtain ⟨i0, hi, hz0, hz1, hz2⟩ := info_parts infoInt
  obtain ⟨b, off, rfl, hlt, hc⟩ := hB hn
  obtain ⟨v', w', hrun, hown', hg, _⟩ := run_append_own_at (P := Tryz.prog) W base 48 48 3 i0 (.int .i64 0) 1 8 Tryz.underlying48 hi hz0 hz1 hz2 rfl (by decide) v zs.length (intVals zs) h ⟨b, off, none⟩ news.length c2 (intVals news)
    (by simp [intVals]) (fun j u hu => by
      have hj : j < news.length := by simpa [intVals] using (List.getElem?_eq_some_iff.1 hu).1
      rw [Go.WideShapes.add_plain, hc j hj]
      simpa [intVals, nth, hj] using hu) (fun u hu => by simp [intVals] at hu; obtain ⟨x, _, rfl⟩ := hu; rfl) (by unfold maxLen; omega) (by omega) hb
  refine ⟨v', w', hrun, Lib.hid ?_, fun w0 h0 => ?_⟩
  · unfold OwnI
    rw [List.length_append]
    simpa [intVals] using hown'
  · exact h0.grown hg hb (fun k hk => (h.lt k hk).1)

theorem ints_new (w : World) (news : List Int) (t : TypeId) : IntsAt (w.alloc (.cells (intVals news).toArray t)) (some ⟨w.heap.size, 0, none⟩) news := by
  intro _
  refine ⟨w.heap.size, 0, rfl, by simp, fun j hj => ?_⟩
  rw [cell_box]
  simp [intVals, nth, hj]
/-- the same, as a step of a walk -/
theorem wpI {ops : Array Oper} {rest : List Oper} {o : Oper} {a : Act} {Q : Exit → Act → World → Prop} {W : World} (hgd : o.guard = none) (s x : Operand) (ho : o.op = .call { callee := .builtin .append, args := #[s, x], argTypes := #[48, 48] })
    (base : Nat) {v : Value} {zs : List Int} (hs : a.eval s = v) (h : OwnI W base v zs) {B : Option Addr} (news : List Int) {c2 : Nat} (hx : a.eval x = .slice B news.length c2) (hB : IntsAt W B news) (hn : 0 < news.length) (hl : zs.length + news.length ≤ 1000000) (hb : base ≤ W.heap.size)
    (hK : ∀ v' w', Hid (OwnI w' base v' (zs ++ news)) → (∀ w0, Below base w0 W → Below base w0 w') → wpList Tryz.prog ops Q rest (a.put o.dst v') w') : wpList Tryz.prog ops Q (o :: rest) a W := by
  obtain ⟨i0, hi, hz0, hz1, hz2⟩ := info_parts infoInt
  obtain ⟨b, off, rfl, hlt, hc⟩ := hB hn
  refine wpList_append_own W hgd s x 48 ho base 3 i0 (.int .i64 0) 1 8 Tryz.underlying48 hi hz0 hz1 hz2 rfl (by decide) v zs.length (intVals zs) hs h ⟨b, off, none⟩ news.length c2 (intVals news) hx
    (by simp [intVals]) (fun j u hu => by
      have hj : j < news.length := by simpa [intVals] using (List.getElem?_eq_some_iff.1 hu).1
      rw [Go.WideShapes.add_plain, hc j hj]
      simpa [intVals, nth, hj] using hu) (fun u hu => by simp [intVals] at hu; obtain ⟨x, _, rfl⟩ := hu; rfl) (by unfold maxLen; omega) (by omega) hb ?_
  intro v' w' hown' hg _
  refine hK v' w' (Lib.hid ?_) (fun w0 h0 => ?_)
  · unfold OwnI
    rw [List.length_append]
    simpa [intVals] using hown'
  · exact h0.grown hg hb (fun k hk => (h.lt k hk).1)

theorem stepI {ops : Array Oper} {o : Oper} {a : Act} {K : Act → World → Prop} {Q : Exit → Act → World → Prop} {E : Prop} {W : World} (hgd : o.guard = none) (s x : Operand) (ho : o.op = .call { callee := .builtin .append, args := #[s, x], argTypes := #[48, 48] })
    (base : Nat) {v : Value} {zs : List Int} (hs : a.eval s = v) (h : OwnI W base v zs) {B : Option Addr} (news : List Int) {c2 : Nat} (hx : a.eval x = .slice B news.length c2) (hB : IntsAt W B news) (hn : 0 < news.length) (hl : zs.length + news.length ≤ 1000000) (hb : base ≤ W.heap.size)
    (hK : ∀ v' w', Hid (OwnI w' base v' (zs ++ news)) → (∀ w0, Below base w0 W → Below base w0 w') → K (a.put o.dst v') w') : if Region.wanted o (yielded ops a.tmps) = true then Oper.wp Tryz.prog o a W K Q else E := by
  rw [if_pos (by simp [Region.wanted, hgd])]
  obtain ⟨i0, hi, hz0, hz1, hz2⟩ := info_parts infoInt
  obtain ⟨b, off, rfl, hlt, hc⟩ := hB hn
  refine wp_append_own W s x 48 ho base 3 i0 (.int .i64 0) 1 8 Tryz.underlying48 hi hz0 hz1 hz2 rfl (by decide) v zs.length (intVals zs) hs h ⟨b, off, none⟩ news.length c2 (intVals news) hx
    (by simp [intVals]) (fun j u hu => by
      have hj : j < news.length := by simpa [intVals] using (List.getElem?_eq_some_iff.1 hu).1
      rw [Go.WideShapes.add_plain, hc j hj]
      simpa [intVals, nth, hj] using hu) (fun u hu => by simp [intVals] at hu; obtain ⟨x, _, rfl⟩ := hu; rfl) (by unfold maxLen; omega) (by omega) hb ?_
  intro v' w' hown' hg _
  refine hK v' w' (Lib.hid ?_) (fun w0 h0 => ?_)
  · unfold OwnI
    rw [List.length_append]
    simpa [intVals] using hown'
  · exact h0.grown hg hb (fun k hk => (h.lt k hk).1)

/-- append(v, news...), the new ints somewhere, or none at all -/
theorem wpA {ops : Array Oper} {rest : List Oper} {o : Oper} {a : Act} {Q : Exit → Act → World → Prop} {W : World} (hgd : o.guard = none) (s x : Operand) (ho : o.op = .call { callee := .builtin .append, args := #[s, x], argTypes := #[48, 48] })
    (base : Nat) {v : Value} {zs : List Int} (hs : a.eval s = v) (h : OwnI W base v zs) {B : Option Addr} (news : List Int) {c2 : Nat} (hx : a.eval x = .slice B news.length c2) (hB : IntsAt W B news) (hcB : B = none → c2 = 0) (hl : zs.length + news.length ≤ 1000000) (hb : base ≤ W.heap.size)
    (hK : ∀ v' w', Hid (OwnI w' base v' (zs ++ news)) → (∀ w0, Below base w0 W → Below base w0 w') → wpList Tryz.prog ops Q rest (a.put o.dst v') w') : wpList Tryz.prog ops Q (o :: rest) a W := by
  by_cases hn : 0 < news.length
  · exact wpI hgd s x ho base hs h news hx hB hn hl hb hK
  · obtain rfl : news = [] := List.length_eq_zero_iff.1 (by omega)
    obtain ⟨i0, hi, hz0, hz1, hz2⟩ := info_parts infoInt
    cases B with
    | none =>
      obtain rfl : c2 = 0 := hcB rfl
      refine wpList_append_own_none hgd s x 48 ho base 3 i0 1 Tryz.underlying48 hi v zs.length (intVals zs) hs h hx ?_
      exact hK v W (Lib.hid (by rw [List.append_nil]; exact h)) (fun _ h0 => h0)
    | some ad =>
      refine wpList_append_own W hgd s x 48 ho base 3 i0 (.int .i64 0) 1 8 Tryz.underlying48 hi hz0 hz1 hz2 rfl (by decide) v zs.length (intVals zs) hs h ad 0 c2 [] hx rfl (fun j u hu => by simp at hu) (fun u hu => by cases hu) (by unfold maxLen; simp at hl; omega) (by simp at hl; omega) hb ?_
      intro v' w' hown' hg _
      refine hK v' w' (Lib.hid ?_) (fun w0 h0 => ?_)
      · unfold OwnI
        simpa [intVals] using hown'
      · exact h0.grown hg hb (fun k hk => (h.lt k hk).1)
theorem OwnI.empty (w : World) (base : Nat) (hb : base ≤ w.heap.size) : OwnI (w.alloc (.cells #[] 3)) base (.slice (some ⟨w.heap.size, 0, none⟩) 0 0) [] :=
  ⟨rfl, .inr ⟨w.heap.size, 0, #[], rfl, hb, heap_alloc_new w _, Nat.le_refl _, Nat.zero_le _, rfl, rfl⟩⟩
theorem OwnI.mono {w : World} {base base' : Nat} {v : Value} {zs : List Int} (h : OwnI w base v zs) (hb : base' ≤ base) : OwnI w base' v zs := by
  refine ⟨h.1, ?_⟩
  rcases h.2 with h | ⟨g, cap, cur, hv, hg, r⟩
  · exact .inl h
  · exact .inr ⟨g, cap, cur, hv, Nat.le_trans hb hg, r⟩
theorem OwnI.cap {w : World} {base : Nat} {A : Option Addr} {c : Nat} {zs : List Int} (h : OwnI w base (.slice A zs.length c) zs) : (A = none → c = 0) ∧ zs.length ≤ c := by
  rcases h.2 with ⟨hv, h0⟩ | ⟨g, cap, cur, hv, _, _, h1, _⟩
  · injection hv with e1 _ e3
    exact ⟨fun _ => e3, by omega⟩
  · injection hv with e1 _ e3
    refine ⟨fun e => ?_, by omega⟩
    rw [e1] at e
    cases e

theorem sizeElemInt (w : World) : (sizeOf (Tryz.prog.elem 48)).run Tryz.prog w = .ok 1 w := by kernel_rfl
theorem elemInt : Tryz.prog.underlying 48 = some (.slice (Tryz.prog.elem 48)) := by kernel_rfl
/-- xs[:j] -/
theorem sliceHi (A : Option Addr) (xs : List Int) (c j : Nat) (hj : j ≤ xs.length) (hc : xs.length ≤ c) (hN : A = none → c = 0) :
    ∃ A', (∀ w, (Instr.slice 48 (.slice A xs.length c) none (some (.int .i64 j)) none).run Tryz.prog w = .ok (.slice A' (xs.take j).length c) w) ∧ (∀ w, IntsAt w A xs → IntsAt w A' (xs.take j)) ∧ (A' = none → c = 0) := by
  refine ⟨if c = 0 then A else A.map (·.add (0 * 1)), fun w => ?_, fun w h hn => ?_, fun h => ?_⟩
  · rw [run_slice_h w _ A _ c elemInt _ _ (by omega) (by omega), sizeElemInt]
    simp [sliced, Result.andThen, Nat.min_eq_left hj]
  · have hl : (xs.take j).length = j := by simp [hj]
    rw [hl] at hn
    obtain ⟨b, off, rfl, hlt, hc2⟩ := h (by omega)
    refine ⟨b, off, by split <;> simp [Addr.add], hlt, fun i hi => ?_⟩
    rw [hl] at hi
    rw [hc2 i (by omega)]
    simp [nth, hi]
  · split at h
    · assumption
    · cases A with
      | none => exact hN rfl
      | some a => cases h
/-- xs[j:] -/
theorem sliceLo (A : Option Addr) (xs : List Int) (c j : Nat) (hj : j ≤ xs.length) (hc : xs.length ≤ c) (hN : A = none → c = 0) :
    ∃ A', (∀ w, (Instr.slice 48 (.slice A xs.length c) (some (.int .i64 j)) none none).run Tryz.prog w = .ok (.slice A' (xs.drop j).length (c - j)) w) ∧ (∀ w, IntsAt w A xs → IntsAt w A' (xs.drop j)) ∧ (A' = none → c - j = 0) := by
  refine ⟨if c = j then A else A.map (·.add (j * 1)), fun w => ?_, fun w h hn => ?_, fun h => ?_⟩
  · rw [run_slice_l w _ A _ c elemInt _ _ (by omega) (by omega), sizeElemInt]
    simp [sliced, Result.andThen]
  · rw [List.length_drop] at hn
    obtain ⟨b, off, rfl, hlt, hc2⟩ := h (by omega)
    rw [if_neg (by omega)]
    refine ⟨b, off + j, by simp [Addr.add], hlt, fun i hi => ?_⟩
    rw [List.length_drop] at hi
    rw [Nat.add_assoc, hc2 (j + i) (by omega)]
    simp [nth]
  · split at h
    · omega
    · cases A with
      | none => have := hN rfl; omega
      | some a => cases h

theorem nth_mem {zs : List Int} {k : Nat} (h : k < zs.length) : nth zs k ∈ zs := by rw [nth_lt h]; exact List.getElem_mem h
theorem below_drewN {B : Nat} {w : World} (n : Nat) : Below B w (w.drewN n) := ⟨rfl, rfl, rfl, Nat.le_refl _, fun _ _ => rfl⟩
theorem strSlice (l : List UInt8) {j k : Nat} (h1 : j ≤ k) (h2 : k ≤ l.length) (w : World) : (Instr.slice 9 (.string ⟨l.toArray⟩) (some (.int .i64 j)) (some (.int .i64 k)) none).run Tryz.prog w = .ok (.string ⟨(seg l j k).toArray⟩) w := by
  have h3 : (j : Int) ≤ k := by omega
  have h4 : (k : Int) ≤ l.length := by omega
  simp [go_sem, Tryz.underlying9, h3, h4]
theorem seg_one {l : List UInt8} {k : Nat} (hk : k < l.length) : seg l k (k + 1) = [l[k]] := by rw [seg_snoc (Nat.le_refl k) hk, seg_self]; rfl
end Go.Proofs.YthogkokifiibnaaGreatDoor
namespace Go.Proofs.YthogkokifiibnaaGreatDoor
open Go.RowKit Go.Sort

/-- the k-th piece -/
def piece (ps : List (List UInt8)) (k : Nat) : List UInt8 := ps.getD k []
theorem drop_piece {ps : List (List UInt8)} {k : Nat} (h : k < ps.length) : ps.drop k = piece ps k :: ps.drop (k + 1) := by
  unfold piece
  rw [List.getD_eq_getElem?_getD, List.getElem?_eq_getElem h]
  exact List.drop_eq_getElem_cons h
theorem piece_mem {ps : List (List UInt8)} {k : Nat} (h : k < ps.length) : piece ps k ∈ ps := by
  unfold piece
  rw [List.getD_eq_getElem?_getD, List.getElem?_eq_getElem h]
  exact List.getElem_mem h
def strCellsOf (ps : List (List UInt8)) : Array Value := (ps.map fun p => Value.string ⟨p.toArray⟩).toArray
theorem piece_cell {w : World} {b : Nat} {ps : List (List UInt8)} (h : Blk w b (strCellsOf ps) 9) {k : Nat} (hk : k < ps.length) : w.cell? ⟨b, k, none⟩ = some (.string ⟨(piece ps k).toArray⟩) := by
  rw [h.cell k]
  unfold strCellsOf piece
  simp [hk]

theorem splitL_piece_le (c : UInt8) : ∀ (l : List UInt8), ∀ p ∈ splitL c l, p.length ≤ l.length
  | [], p, hp => by simp [splitL] at hp; subst hp; simp
  | b :: l, p, hp => by
    have ih := splitL_piece_le c l
    by_cases hb : b = c
    · subst hb
      rw [splitL_hit] at hp
      rcases List.mem_cons.1 hp with h | h
      · subst h; simp
      · have := ih p h; simp; omega
    · rw [splitL_miss hb] at hp
      cases hs : splitL c l with
      | nil => exact absurd hs (splitL_ne c l)
      | cons q qs =>
        rw [hs] at hp ih
        rcases List.mem_cons.1 hp with h | h
        · subst h; have := ih q (by simp); simp; omega
        · have := ih p (by simp [h]); simp; omega

/-- the slice at A reads as the strings ps -/
def StrsAt (w : World) (A : Option Addr) (ps : List (List UInt8)) : Prop :=
  0 < ps.length → ∃ b off, A = some ⟨b, off, none⟩ ∧ b < w.heap.size ∧ ∀ j, j < ps.length → w.cell? ⟨b, off + j, none⟩ = some (.string ⟨(piece ps j).toArray⟩)
theorem StrsAt.keep {w w' : World} {A : Option Addr} {ps : List (List UInt8)} (h : StrsAt w A ps) (hb : Below w.heap.size w w') : StrsAt w' A ps := by
  intro hz
  obtain ⟨b, off, e, hlt, hc⟩ := h hz
  exact ⟨b, off, e, Nat.lt_of_lt_of_le hlt hb.size, fun j hj => (hb.cell (p := ⟨b, off + j, none⟩) hlt).trans (hc j hj)⟩
def strVals (ps : List (List UInt8)) : List Value := ps.map fun p => Value.string ⟨p.toArray⟩
theorem strVals_snoc (ps : List (List UInt8)) (p : List UInt8) : strVals ps ++ [.string ⟨p.toArray⟩] = strVals (ps ++ [p]) := by simp [strVals]
theorem StrsAt.of_own {w : World} {base : Nat} {A : Option Addr} {c : Nat} {ps : List (List UInt8)} (h : w.ownsRow base 9 1 (.slice A ps.length c) ps.length (strVals ps)) : StrsAt w A ps := by
  intro hn
  obtain ⟨g, cap, hv, _, hlt⟩ := h.form hn
  have hA : A = some ⟨g, 0, none⟩ := by injection hv
  subst hA
  refine ⟨g, 0, rfl, hlt, fun j hj => ?_⟩
  have := h.cells (g := g) rfl j (.string ⟨(piece ps j).toArray⟩) (by simp [strVals, piece, hj])
  rwa [Go.WideShapes.add_plain] at this

def glue (s : List UInt8) : List (List UInt8) → List (List UInt8)
  | p :: ps => (s ++ p) :: ps
  | [] => []
theorem glue_nil (ps : List (List UInt8)) : glue [] ps = ps := by cases ps <;> rfl
theorem split_hit {l : List UInt8} {j k : Nat} {c : UInt8} {done : List (List UInt8)} (hk : k < l.length) (hb : l[k] = c) (h : splitL c l = done ++ glue (seg l j k) (splitL c (l.drop k))) :
    splitL c l = (done ++ [seg l j k]) ++ glue (seg l (k + 1) (k + 1)) (splitL c (l.drop (k + 1))) := by
  rw [h, bytes_drop hk, hb, splitL_hit, seg_self, glue_nil]
  simp [glue]
theorem split_miss {l : List UInt8} {j k : Nat} {c : UInt8} {done : List (List UInt8)} (hj : j ≤ k) (hk : k < l.length) (hb : ¬ l[k] = c) (h : splitL c l = done ++ glue (seg l j k) (splitL c (l.drop k))) :
    splitL c l = done ++ glue (seg l j (k + 1)) (splitL c (l.drop (k + 1))) := by
  rw [h, bytes_drop hk, splitL_miss hb, seg_snoc hj hk]
  cases hs : splitL c (l.drop (k + 1)) with
  | nil => exact absurd hs (splitL_ne _ _)
  | cons p ps => simp [glue]
theorem split_end {l : List UInt8} {j : Nat} {c : UInt8} {done : List (List UInt8)} (h : splitL c l = done ++ glue (seg l j l.length) (splitL c (l.drop l.length))) : splitL c l = done ++ [seg l j l.length] := by
  rw [h, List.drop_of_length_le (Nat.le_refl _)]
  simp [splitL, glue]
theorem infoStr : (Tryz.prog.info? 9).map (fun i => (i.zero, i.size, i.bytes)) = some (some (.string ByteArray.empty), 1, 16) := by kernel_rfl


/-- v is a slice of strings of the call's own, from block base on, that holds ps -/
def OwnS (w : World) (base : Nat) (v : Value) (ps : List (List UInt8)) : Prop := w.ownsRow base 9 1 v ps.length (strVals ps)
theorem OwnS.nil (w : World) (base : Nat) : OwnS w base (.slice none 0 0) [] := ⟨by simp [strVals], .inl ⟨rfl, by simp⟩⟩
theorem OwnS.form {w : World} {base : Nat} {v : Value} {ps : List (List UInt8)} (h : OwnS w base v ps) : ∃ A c, v = .slice A ps.length c ∧ ps.length ≤ c ∧ (A = none → c = 0) := by
  rcases h.2 with ⟨hv, h0⟩ | ⟨g, cap, cur, hv, _, _, h1, _⟩
  · exact ⟨none, 0, by rw [hv, h0], by omega, fun _ => rfl⟩
  · exact ⟨_, _, hv, h1, fun h => by cases h⟩
theorem OwnS.keep {w w' : World} {base : Nat} {v : Value} {ps : List (List UInt8)} (h : OwnS w base v ps) (hb : Below w.heap.size w w') : OwnS w' base v ps :=
  World.ownsRow.kept h ⟨hb.os, hb.tape, hb.output, hb.size, fun i hi _ => hb.block i hi⟩ (row := none) (by cases v.ownBlock <;> simp)
theorem OwnS.strs {w : World} {base : Nat} {A : Option Addr} {c : Nat} {ps : List (List UInt8)} (h : OwnS w base (.slice A ps.length c) ps) : StrsAt w A ps := StrsAt.of_own h
theorem OwnS.blk {w : World} {base : Nat} {A : Option Addr} {c : Nat} {ps : List (List UInt8)} (h : OwnS w base (.slice A ps.length c) ps) : ∀ b off, A = some ⟨b, off, none⟩ → base ≤ b := by
  intro b off hA
  rcases h.2 with ⟨hv, _⟩ | ⟨g, cap, cur, hv, hg, _⟩
  · injection hv with e1; rw [e1] at hA; cases hA
  · injection hv with e1; rw [e1] at hA; injection hA with e2; injection e2 with e3; omega
/-- append(v, p), as a step of a walk: the new string lies in the newest block -/
theorem wpS {ops : Array Oper} {rest : List Oper} {o : Oper} {a : Act} {Q : Exit → Act → World → Prop} {W : World} (hgd : o.guard = none) (s x : Operand) (ho : o.op = .call { callee := .builtin .append, args := #[s, x], argTypes := #[74, 74] })
    (base : Nat) {v : Value} {ps : List (List UInt8)} (hs : a.eval s = v) (h : OwnS W base v ps) (p : List UInt8) (hx : a.eval x = .slice (some ⟨W.heap.size, 0, none⟩) 1 1) (hl : ps.length + 1 ≤ 1000000) (hb : base ≤ W.heap.size)
    (hK : ∀ v' w', Hid (OwnS w' base v' (ps ++ [p])) → (∀ w0, Below base w0 W → Below base w0 w') → wpList Tryz.prog ops Q rest (a.put o.dst v') w') : wpList Tryz.prog ops Q (o :: rest) a (W.alloc (.cells #[.string ⟨p.toArray⟩] 9)) := by
  obtain ⟨i0, hi, hz0, hz1, hz2⟩ := info_parts infoStr
  refine wpList_append_own _ hgd s x 74 ho base 9 i0 (.string ByteArray.empty) 1 16 Tryz.underlying74 hi hz0 hz1 hz2 rfl (by decide) v ps.length (strVals ps) hs (h.keep (bBox _ _)) ⟨W.heap.size, 0, none⟩ 1 1 [.string ⟨p.toArray⟩] hx rfl
    (fun i u hj => by match i, hj with | 0, hj => simp at hj; subst hj; simp [Addr.add]) (fun u hu => by simp at hu; subst hu; rfl) (by unfold maxLen; omega) (by omega) (by simp; omega) ?_
  intro v' w' hown' hg _
  refine hK v' w' (Lib.hid ?_) (fun w0 h0 => ?_)
  · unfold OwnS
    rw [List.length_append, ← strVals_snoc]
    exact hown'
  · exact (h0.alloc hb _).grown hg (by simp; omega) (fun k hk => (h.lt k hk).1)
end Go.Proofs.YthogkokifiibnaaGreatDoor
namespace Go.Proofs.YthogkokifiibnaaGreatDoor
open Go.RowKit Go.Sort

/-- the package-level variables that are read: codepoint.digits, bytealg.MaxLen -/
structure Env (w : World) : Prop where
  dig : Dig w
  mx : ∃ m : Int, w.cell? ⟨1, 0, none⟩ = some (.int .i64 m)
theorem Env.keep {w w' : World} (h : Env w) (hb : Below w.heap.size w w') : Env w' :=
  ⟨h.dig.keep hb, let ⟨m, hm⟩ := h.mx; ⟨m, cell_keep hb hm⟩⟩

/-- strings.Cut at a byte that occurs -/
theorem cutYes {c : UInt8} {l d r : List UInt8} (h : cutB c l = some (d, r)) (w : World) (hE : Env w) (hl : l.length < 4294967281) :
    Calls Tryz.prog 37 #[.string ⟨l.toArray⟩, .string ⟨#[c]⟩] w fun e w' => e = .returned (.tuple #[.string ⟨d.toArray⟩, .string ⟨r.toArray⟩, .bool true]) ∧ Below w.heap.size w w' := by
  obtain ⟨m, hm⟩ := hE.mx
  refine (Tryz.strings_Cut ⟨l.toArray⟩ ⟨#[c]⟩ m w hl hm).mono ?_
  rintro e w' ⟨rfl, n, rfl⟩
  refine ⟨?_, below_drewN n⟩
  have hc : Lib.cut l [c] = (d, r, true) := by rw [lib_cut, h]
  show Ending.returned (.tuple #[.string ⟨(Lib.cut l [c]).1.toArray⟩, .string ⟨(Lib.cut l [c]).2.1.toArray⟩, .bool (Lib.cut l [c]).2.2]) = _
  rw [hc]
/-- .. at one that doesn't -/
theorem cutNo {c : UInt8} {l : List UInt8} (h : cutB c l = none) (w : World) (hE : Env w) (hl : l.length < 4294967281) :
    Calls Tryz.prog 37 #[.string ⟨l.toArray⟩, .string ⟨#[c]⟩] w fun e w' => e = .returned (.tuple #[.string ⟨l.toArray⟩, .string ⟨#[]⟩, .bool false]) ∧ Below w.heap.size w w' := by
  obtain ⟨m, hm⟩ := hE.mx
  refine (Tryz.strings_Cut ⟨l.toArray⟩ ⟨#[c]⟩ m w hl hm).mono ?_
  rintro e w' ⟨rfl, n, rfl⟩
  refine ⟨?_, below_drewN n⟩
  have hc : Lib.cut l [c] = (l, [], false) := by rw [lib_cut, h]
  show Ending.returned (.tuple #[.string ⟨(Lib.cut l [c]).1.toArray⟩, .string ⟨(Lib.cut l [c]).2.1.toArray⟩, .bool (Lib.cut l [c]).2.2]) = _
  rw [hc]
theorem parseV_some {l : List UInt8} {x : Int} (h : parseCp l = some x) : parseV l = .tuple #[.int .i64 x, .int .i64 0] := by simp [parseV, h]
theorem parseV_none {l : List UInt8} (h : parseCp l = none) : parseV l = .tuple #[.int .i64 0, .int .i64 3] := by simp [parseV, h]

theorem csSplit (c : UInt8) (l : List UInt8) (w : World) (hE : Env w) (hl : l.length < 4294967281) :
    Calls Tryz.prog 64 #[.string ⟨l.toArray⟩, .string ⟨#[c]⟩] w fun e w' => e = .returned (.slice (some ⟨w.heap.size, 0, none⟩) (splitL c l).length (splitL c l).length) ∧ w.alloc (.cells ((splitL c l).map fun p => Value.string ⟨p.toArray⟩).toArray 9) = w' := by
  obtain ⟨m, hm⟩ := hE.mx
  refine (Tryz.strings_Split ⟨l.toArray⟩ ⟨#[c]⟩ m w hl hm (by simp [ByteArray.size])).mono ?_
  rintro e w' ⟨rfl, rfl⟩
  have hc : Lib.countB ⟨l.toArray⟩ ⟨#[c]⟩ = l.count c := Lib.count_one c l
  refine ⟨by rw [hc, splitL_length], by rw [splitB_one]⟩
end Go.Proofs.YthogkokifiibnaaGreatDoor
