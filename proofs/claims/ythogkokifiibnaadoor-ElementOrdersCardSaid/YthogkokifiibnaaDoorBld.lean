/- strings.Builder, alone (block of type strings.Builder) or as the first field of a larger struct. -/
import Derived.Test.YthogkokifiibnaaDoorProg
import Derived.Test.YthogkokifiibnaaDoorBase
import Derived.Lib.Builder
import Derived.Lib.AppendStr
import Derived.Lib.UnsafeStr
import Derived.Lib.Strings
import Derived.RegionTactic
import Derived.OwnWalk
import Derived.Laws.Externs
namespace Go.Proofs.YthogkokifiibnaaDoor
open Go.RowKit

/-- block b, of type T, begins with a strings.Builder that holds the bytes l; the cells tail follow it; its buffer lies behind b -/
def Bld (T : TypeId) (tail : List Value) (b : Nat) (l : List UInt8) (w : World) : Prop :=
  ∃ p v, (p = .pointer none ∨ p = .pointer (some ⟨b, 0, none⟩)) ∧ w.heap[b]? = some (.cells (p :: v :: tail).toArray T (0, 0)) ∧ w.ownsRow b 5 1 v l.length (Lib.byteCells l) ∧ v.ownBlock ≠ some b ∧ (l = [] → v = .slice none 0 0)

/-- what is asked of the block's type -/
structure BldTy (T : TypeId) (n : Nat) : Prop where
  lies : liesAt Tryd.prog Tryd.prog.depth T (n / Tryd.prog.cellsOf T) 0 55 1 = true
  ne : T ≠ 5
  two : 2 ≤ n
theorem bldTy0 : BldTy 55 2 := ⟨by kernel_rfl, by decide, by decide⟩
theorem sizeBld : (Tryd.prog.info? 55).map (·.size) = some 2 := by kernel_rfl
theorem infoByte : (Tryd.prog.info? 5).map (fun i => (i.zero, i.size, i.bytes)) = some (some (.int .u8 0), 1, 1) := by kernel_rfl
theorem cellsByte : Tryd.prog.cellsOf 5 = 1 := by kernel_rfl

theorem Bld.lt {T : TypeId} {tail : List Value} {b : Nat} {l : List UInt8} {w : World} (h : Bld T tail b l w) : b < w.heap.size := by
  obtain ⟨p, v, _, hb, _⟩ := h
  exact (Array.getElem?_eq_some_iff.1 hb).1
/-- a new one -/
theorem Bld.fresh (T : TypeId) (tail : List Value) (w : World) : Bld T tail w.heap.size [] (w.alloc (.cells (.pointer none :: .slice none 0 0 :: tail).toArray T)) :=
  ⟨.pointer none, .slice none 0 0, .inl rfl, heap_alloc_new w _, ⟨by simp [Lib.byteCells], .inl ⟨rfl, by simp⟩⟩, by simp [Value.ownBlock], fun _ => rfl⟩
/-- it stands while the heap grows -/
theorem Bld.keep {T : TypeId} {tail : List Value} {b : Nat} {l : List UInt8} {w w' : World} (h : Bld T tail b l w) (hb : Below w.heap.size w w') : Bld T tail b l w' := by
  have hlt := h.lt
  obtain ⟨p, v, hp, hh, hown, hne, hn⟩ := h
  refine ⟨p, v, hp, (hb.block b hlt).trans hh, hown.kept ⟨hb.os, hb.tape, hb.output, hb.size, fun i hi _ => hb.block i hi⟩ (row := none) (by cases v.ownBlock <;> simp), hne, hn⟩

/-- nothing has changed but the builder's block b and rows of bytes -/
def FrB (b : Nat) (w w' : World) : Prop := ∀ k o, k ≠ b → w.heap[k]? = some o → (∀ cs fr, o ≠ .cells cs 5 fr) → w'.heap[k]? = some o
theorem FrB.refl (b : Nat) (w : World) : FrB b w w := fun _ _ _ h _ => h
theorem FrB.trans {b : Nat} {w1 w2 w3 : World} (h : FrB b w1 w2) (k : FrB b w2 w3) : FrB b w1 w3 := fun i o hi ho hn => k i o hi (h i o hi ho hn) hn
theorem FrB.alloc (b : Nat) (w : World) (o : Obj) : FrB b w (w.alloc o) := fun k _ _ hk _ => (Below.heap_alloc w o k (Array.getElem?_eq_some_iff.1 hk).1).trans hk
theorem FrB.set (b i : Nat) (w : World) (v : Value) : FrB b w (w.setCell ⟨b, i, none⟩ v) := fun k _ hk h _ => (Below.heap_setCell w _ v k hk).trans h
theorem FrB.below {b : Nat} {w w' : World} (h : Below w.heap.size w w') : FrB b w w' := fun k _ _ hk _ => (h.block k (Array.getElem?_eq_some_iff.1 hk).1).trans hk
theorem FrB.freeze {b g : Nat} {w : World} {cur : Array Value} {fr : Nat × Nat} (hg : w.heap[g]? = some (.cells cur 5 fr)) (n : Nat) : FrB b w (w.drew.freeze ⟨g, 0, none⟩ n) := by
  intro k o _ hk hn
  by_cases e : g = k
  · subst e
    rw [hk] at hg
    injection hg with hg
    exact absurd hg (hn _ _)
  · unfold World.freeze
    split
    · exact hk
    · simp only [Array.getElem?_modify]
      rw [if_neg e]
      exact hk
theorem FrB.grown {b base n : Nat} {w w' : World} {v : Value} {xs : List Value} (h : w.ownsRow base 5 1 v n xs) (hg : w.grownBy w' v.ownBlock) : FrB b w w' := by
  intro k o _ hk hn
  refine (hg.block k (Array.getElem?_eq_some_iff.1 hk).1 ?_).trans hk
  intro e
  rcases h.2 with ⟨rfl, _⟩ | ⟨g, cap, cur, rfl, _, hb, _⟩
  · cases e
  · have : k = g := by simpa [Value.ownBlock] using e
    subst this
    rw [hk] at hb
    injection hb with hb
    exact hn _ _ hb

section
variable {T : TypeId} {tail : List Value} {b : Nat} {l : List UInt8} {w : World}

theorem bld_cell {p v : Value} (hb : w.heap[b]? = some (.cells (p :: v :: tail).toArray T (0, 0))) : w.cell? ⟨b, 0, none⟩ = some p ∧ w.cell? ⟨b, 1, none⟩ = some v ∧ (∀ i, w.frozen? ⟨b, i, none⟩ = false) ∧ (∀ i u, tail[i]? = some u → w.cell? ⟨b, i + 2, none⟩ = some u) ∧ w.shape? b = some (T, tail.length + 2) := by
  refine ⟨by rw [Lib.cell_of_heap hb]; rfl, by rw [Lib.cell_of_heap hb]; rfl, fun i => Lib.frozen_of_heap hb i, fun i u h => by rw [Lib.cell_of_heap hb]; simpa using h, by simp [World.shape?, hb]⟩

set_option maxRecDepth 100000 in
theorem copyCheck_used (b : Nat) (w : World) (h0 : w.cell? ⟨b, 0, none⟩ = some (.pointer (some ⟨b, 0, none⟩))) :
    Calls Tryd.prog 31 #[.pointer (some ⟨b, 0, none⟩)] w fun e w' => e = .returned (.tuple #[]) ∧ w = w' := by
  obtain ⟨j, hj, _⟩ := Option.map_eq_some_iff.1 sizeBld
  go_enter Tryd.func31, Tryd.ntmps31
  go_wp2
  rw [Lib.run_neq_ptr_same w _ Tryd.underlying52 hj]
  go_wp2
  go_end0
  exact ⟨rfl, rfl⟩

set_option maxRecDepth 100000 in
theorem copyCheck_fresh {n : Nat} (hT : BldTy T n) (b : Nat) (w : World) (h0 : w.cell? ⟨b, 0, none⟩ = some (.pointer none)) (hsh : w.shape? b = some (T, n)) (hfz : w.frozen? ⟨b, 0, none⟩ = false) :
    Calls Tryd.prog 31 #[.pointer (some ⟨b, 0, none⟩)] w fun e w' => e = .returned (.tuple #[]) ∧ w.setCell ⟨b, 0, none⟩ (.pointer (some ⟨b, 0, none⟩)) = w' := by
  obtain ⟨j, hj, hjs⟩ := Option.map_eq_some_iff.1 sizeBld
  go_enter Tryd.func31, Tryd.ntmps31
  go_wp2
  rw [Lib.run_to_unsafe w ⟨b, 0, none⟩ Tryd.underlying52 Tryd.underlying92 hj (by rw [hjs]; decide) hsh (by have := hT.two; show 0 < n; omega)]
  simp only [Result.andThen]
  rw [Oper.upon_value]
  go_wp2
  rw [run_callFunc_extern Tryd.func45 (by kernel_rfl) (by kernel_rfl) (by kernel_rfl) (e := Extern.AbiNoEscape.same) (by kernel_rfl)]
  rw [Lib.run_noEscape]
  simp only [Result.andThen]
  rw [Oper.upon_value]
  go_wp2
  rw [Lib.run_from_unsafe w ⟨b, 0, none⟩ Tryd.underlying92 Tryd.underlying52 hj hsh hT.lies]
  simp only [Result.andThen]
  rw [Oper.upon_value]
  go_wp2
  go_end0
  exact ⟨rfl, rfl⟩

/-- behind copyCheck the builder holds its own address -/
def BldUsed (T : TypeId) (tail : List Value) (b : Nat) (l : List UInt8) (v : Value) (w : World) : Prop :=
  w.heap[b]? = some (.cells (.pointer (some ⟨b, 0, none⟩) :: v :: tail).toArray T (0, 0)) ∧ w.ownsRow b 5 1 v l.length (Lib.byteCells l) ∧ v.ownBlock ≠ some b ∧ (l = [] → v = .slice none 0 0)

theorem copyCheck_any (hT : BldTy T (tail.length + 2)) (h : Bld T tail b l w) :
    Calls Tryd.prog 31 #[.pointer (some ⟨b, 0, none⟩)] w fun e w' => e = .returned (.tuple #[]) ∧ (∃ v, BldUsed T tail b l v w') ∧ Below b w w' ∧ FrB b w w' := by
  obtain ⟨p, v, hp, hb, hown, hne, hn⟩ := h
  obtain ⟨c0, c1, fz, ct, hsh⟩ := bld_cell hb
  rcases hp with rfl | rfl
  · refine (copyCheck_fresh hT b w c0 hsh (fz 0)).mono ?_
    rintro e w' ⟨rfl, rfl⟩
    refine ⟨rfl, ⟨v, ?_, ?_, hne, hn⟩, (Below.refl b w).setCell (p := ⟨b, 0, none⟩) (Nat.le_refl _) _, FrB.set _ _ _ _⟩
    · simp [World.setCell, Array.getElem?_modify, hb]
    · exact hown.kept (row := some b) ⟨rfl, rfl, rfl, by simp [World.setCell], fun k _ hk => Below.heap_setCell _ _ _ _ (fun e => hk (by simp [e]))⟩ (Or.inr hne)
  · refine (copyCheck_used b w c0).mono ?_
    rintro e w' ⟨rfl, rfl⟩
    exact ⟨rfl, ⟨v, hb, hown, hne, hn⟩, Below.refl _ _, FrB.refl _ _⟩

theorem byteCells_snoc (l : List UInt8) (c : UInt8) : Lib.byteCells l ++ [.int .u8 c.toNat] = Lib.byteCells (l ++ [c]) := by simp [Lib.byteCells]

theorem bld_put {v v' : Value} {l' : List UInt8} (hTe : T ≠ 5) (hb : w.heap[b]? = some (.cells (.pointer (some ⟨b, 0, none⟩) :: v :: tail).toArray T (0, 0)))
    (hown : w.ownsRow b 5 1 v' l'.length (Lib.byteCells l')) (hn : l' = [] → v' = .slice none 0 0) : Bld T tail b l' (w.setCell ⟨b, 1, none⟩ v') := by
  have hne := Lib.ownBlock_ne hown hb hTe
  refine ⟨.pointer (some ⟨b, 0, none⟩), v', .inr rfl, ?_, ?_, hne, hn⟩
  · simp [World.setCell, Array.getElem?_modify, hb]
  · exact hown.kept (row := some b) ⟨rfl, rfl, rfl, by simp [World.setCell], fun k _ hk => Below.heap_setCell _ _ _ _ (fun e => hk (by simp [e]))⟩ (Or.inr hne)

set_option maxHeartbeats 1000000 in
set_option maxRecDepth 100000 in
theorem writeStringF (hT : BldTy T (tail.length + 2)) (h : Bld T tail b l w) (m : List UInt8) (hlen : l.length ≤ 1000000000) (hm : m.length ≤ 1000000000) :
    Calls Tryd.prog 18 #[.pointer (some ⟨b, 0, none⟩), .string ⟨m.toArray⟩] w fun e w' => e = .returned (.tuple #[.int .i64 m.length, .nilIface]) ∧ Bld T tail b (l ++ m) w' ∧ Below b w w' ∧ FrB b w w' := by
  obtain ⟨i0, hi, hz0, hz1, hz2⟩ := info_parts infoByte
  have Hc := Lib.hid (copyCheck_any hT h)
  have hbw := Nat.le_of_lt h.lt
  have HT := Lib.hid hT
  clear h hT
  go_enter Tryd.func18, Tryd.ntmps18
  go_wp2_with fail
  refine Hc.out.mono ?_
  rintro e w1 ⟨rfl, ⟨v, hbk, hown, hne, hn⟩, hb1, hfr1⟩
  clear Hc
  have HN := Lib.hid hn
  clear hn
  obtain ⟨c0, c1, fz, ct, hsh⟩ := bld_cell hbk
  clear ct hsh
  go_wp2_with (at_builtin; refine Lib.wpList_append_own_string _ rfl _ _ 53 9 rfl b 5 i0 Tryd.underlying53 Tryd.underlying9 hi hz0 hz1 hz2 _ _ _ rfl hown ⟨m.toArray⟩ rfl ?c3 ?c4 ?c5 ?_)
  case c3 => show l.length + m.length ≤ maxLen; unfold maxLen; omega
  case c4 => show l.length + m.length ≤ _; omega
  case c5 => have := hb1.size; omega
  intro v' w2 hown' hgrow hnil
  have hlt : b < w1.heap.size := (Array.getElem?_eq_some_iff.1 hbk).1
  have hb2 : w2.heap[b]? = some (.cells (.pointer (some ⟨b, 0, none⟩) :: v :: tail).toArray T (0, 0)) := by
    rw [hgrow.block b hlt (fun e => hne e.symm)]
    exact hbk
  obtain ⟨d0, d1, f1, _, _⟩ := bld_cell hb2
  have HNil := Lib.hid hnil
  clear hnil
  have hex : ∃ ao n' cap, v' = .slice ao n' cap := by
    rcases hown'.2 with ⟨hv, _⟩ | ⟨g, cap, cur, hv, _⟩
    · exact ⟨_, _, _, hv⟩
    · exact ⟨_, _, _, hv⟩
  obtain ⟨ao, n', cap, hv'⟩ := hex
  subst hv'
  have hcells : Lib.byteCells l ++ Lib.strCells ⟨m.toArray⟩ = Lib.byteCells (l ++ m) := by simp [Lib.byteCells, Lib.strCells]
  rw [hcells] at hown'
  clear hcells
  have HO := Lib.hid hown'
  clear hown'
  go_wp2
  go_ret2
  refine ⟨rfl, bld_put HT.out.ne hb2 (by rw [List.length_append]; exact HO.out) (fun e => ?_), ?_, ?_⟩
  · have e1 : l = [] ∧ m = [] := by simpa using e
    exact HNil.out.2 ⟨HN.out e1.1, by rw [e1.2]; try rfl⟩
  · exact (hb1.grown hgrow (by have := hb1.size; omega) (fun k hk => (hown.lt k hk).1)).setCell (p := ⟨b, 1, none⟩) (Nat.le_refl _) _
  · exact (hfr1.trans (FrB.grown hown hgrow)).trans (FrB.set _ _ _ _)
theorem writeString (hT : BldTy T (tail.length + 2)) (h : Bld T tail b l w) (m : List UInt8) (hlen : l.length ≤ 1000000000) (hm : m.length ≤ 1000000000) :
    Calls Tryd.prog 18 #[.pointer (some ⟨b, 0, none⟩), .string ⟨m.toArray⟩] w fun e w' => e = .returned (.tuple #[.int .i64 m.length, .nilIface]) ∧ Bld T tail b (l ++ m) w' ∧ Below b w w' :=
  (writeStringF hT h m hlen hm).mono fun _ _ ⟨h1, h2, h3, _⟩ => ⟨h1, h2, h3⟩

set_option maxHeartbeats 1000000 in
set_option maxRecDepth 100000 in
theorem bldString_some (h : Bld T tail b l w) (h0 : l ≠ []) :
    Calls Tryd.prog 20 #[.pointer (some ⟨b, 0, none⟩)] w fun e w' => e = .returned (.string ⟨l.toArray⟩) ∧ Below b w w' ∧ FrB b w w' := by
  obtain ⟨p, v, hp, hbk, hown, hne, hn⟩ := h
  have hl0 : l.length ≠ 0 := by simpa using h0
  obtain ⟨g, cap, cur, rfl, hbg, hg, hnc, hcm, hcs, htake⟩ : ∃ g cap cur, v = .slice (some ⟨g, 0, none⟩) l.length cap ∧ b ≤ g ∧ w.heap[g]? = some (.cells cur 5 (0, 0)) ∧ l.length ≤ cap ∧ cap ≤ maxLen ∧ cur.size = cap * 1 ∧ cur.toList.take (l.length * 1) = Lib.byteCells l := by
    rcases hown.2 with ⟨_, hz⟩ | ⟨g, cap, cur, hv, r⟩
    · exact absurd hz (by simpa using hl0)
    · exact ⟨g, cap, cur, hv, r⟩
  have c1 : w.drew.cell? ⟨b, 1, none⟩ = some (.slice (some ⟨g, 0, none⟩) l.length cap) := (bld_cell (w := w.drew) hbk).2.1
  have hSD : (Builtin.unsafeSliceData_ #[53] 76 #[.slice (some ⟨g, 0, none⟩) l.length cap]).run Tryd.prog w.drew = .ok (.pointer (some ⟨g, 0, none⟩)) w.drew :=
    Lib.run_unsafeSliceData_row _ _ _ _ _ _ (by omega)
  have hUS : (Builtin.unsafeString_ #[76, 3] 9 #[.pointer (some ⟨g, 0, none⟩), .int .i64 l.length]).run Tryd.prog w.drew = .ok (.string ⟨l.toArray⟩) (w.drew.freeze ⟨g, 0, none⟩ l.length) := by
    refine Lib.run_unsafeString_row w.drew 76 3 9 5 Tryd.underlying76 cellsByte g cur.size (by have hg' : w.drew.heap[g]? = some (.cells cur 5 (0, 0)) := hg; simp [World.shape?, hg']) l h0 (by omega) (by unfold maxLen at hcm; omega) ?_
    intro j x hx
    exact hown.cells (g := g) rfl j (.int .u8 x.toNat) (by simp [Lib.byteCells, hx])
  have HG := Lib.hid hbg
  have HF := Lib.hid (FrB.freeze (b := b) (w := w) hg l.length)
  clear hn hown htake hg hcs hcm hbk hp hne hbg
  go_enter Tryd.func20, Tryd.ntmps20
  go_wp2
  go_region
  all_goals (go_wp2; go_ret; exact ⟨rfl, Lib.below_freeze (Below.drew (Below.refl b w)) (p := ⟨g, 0, none⟩) HG.out _, HF.out⟩)

set_option maxHeartbeats 1000000 in
set_option maxRecDepth 100000 in
theorem bldString_none (h : Bld T tail b [] w) :
    Calls Tryd.prog 20 #[.pointer (some ⟨b, 0, none⟩)] w fun e w' => e = .returned (.string ⟨#[]⟩) ∧ Below b w w' ∧ FrB b w w' := by
  obtain ⟨p, v, hp, hbk, hown, hne, hn⟩ := h
  obtain rfl := hn rfl
  have c1 : w.drew.cell? ⟨b, 1, none⟩ = some (.slice none 0 0) := (bld_cell (w := w.drew) hbk).2.1
  have hSD : (Builtin.unsafeSliceData_ #[53] 76 #[.slice none 0 0]).run Tryd.prog w.drew = .ok (.pointer none) w.drew := rfl
  have hUS := fun W => Lib.run_unsafeString_none (P := Tryd.prog) W 76 3 9 none
  clear hn hown hbk hp hne
  go_enter Tryd.func20, Tryd.ntmps20
  go_wp2
  go_region
  all_goals (go_wp2; go_ret; exact ⟨rfl, Below.drew (Below.refl b w), fun _ _ _ h _ => h⟩)

theorem bldStringF (h : Bld T tail b l w) :
    Calls Tryd.prog 20 #[.pointer (some ⟨b, 0, none⟩)] w fun e w' => e = .returned (.string ⟨l.toArray⟩) ∧ Below b w w' ∧ FrB b w w' := by
  cases l with
  | nil => exact bldString_none h
  | cons c r => exact bldString_some h (by simp)
theorem bldString (h : Bld T tail b l w) :
    Calls Tryd.prog 20 #[.pointer (some ⟨b, 0, none⟩)] w fun e w' => e = .returned (.string ⟨l.toArray⟩) ∧ Below b w w' :=
  (bldStringF h).mono fun _ _ ⟨h1, h2, _⟩ => ⟨h1, h2⟩
end
end Go.Proofs.YthogkokifiibnaaDoor
