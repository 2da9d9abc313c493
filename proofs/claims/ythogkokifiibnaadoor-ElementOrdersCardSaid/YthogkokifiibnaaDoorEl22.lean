/- ParseFile: what its rounds keep -/
import Derived.Test.YthogkokifiibnaaDoorEl18
import Derived.Test.YthogkokifiibnaaDoorEl19
namespace Go.Proofs.YthogkokifiibnaaDoor
open Go.RowKit Go.Sort

def zCells : Array Value := #[.slice none 0 0, .slice none 0 0, .int .i64 0, .int .i64 0, .int .i64 0]
/-- the memory of ParseFile: the results, the reader, the first error -/
structure PInv (w wr : World) (st : StF) : Prop where
  b0 : Blk wr w.heap.size zCells 39
  b1 : Blk wr (w.heap.size + 1) #[.int .i64 0, .int .i64 0] 43
  rd : RdAt wr (w.heap.size + 2) st.r
  fs : Blk wr (w.heap.size + 3) #[.int .i64 st.first.1, .int .i64 st.first.2] 43
  below : Below w.heap.size w wr
theorem RdAt.keptT {w w' : World} {b : Nat} {r : RdD} (h : RdAt w b r) (hk : KeptT [70, 3, 33, 50, 47] w w') : RdAt w' b r := by
  obtain ⟨vE, vG, h1, h2, h3⟩ := h
  exact ⟨vE, vG, hk b _ _ _ h1 (by simp), h2.keptT (hk.mono (by simp)), h3.keptT (hk.mono (by simp))⟩
theorem PInv.keep {w wr w' : World} {st : StF} (h : PInv w wr st) (hb : Below wr.heap.size wr w') : PInv w w' st :=
  ⟨h.b0.keep hb, h.b1.keep hb, h.rd.keep hb, h.fs.keep hb, bUp h.below hb⟩
theorem PInv.num {w wr : World} {st : StF} (h : PInv w wr st) (n : Nat) : PInv w wr ⟨st.r, st.first, n⟩ := ⟨h.b0, h.b1, h.rd, h.fs, h.below⟩
theorem PInv.read {w wr w' : World} {st : StF} {r' : RdD} (h : PInv w wr st) (hr : RdAt w' (w.heap.size + 2) r') (hb : Below (w.heap.size + 2) wr w') (hk : KeptT [43] wr w') (n : Nat) : PInv w w' ⟨r', st.first, n⟩ :=
  ⟨h.b0.keepB hb (by omega), h.b1.keepB hb (by omega), hr, hk _ _ _ _ h.fs (by simp), h.below.trans (hb.mono (by omega))⟩
theorem PInv.put {w wr : World} {st : StF} (h : PInv w wr st) (e n : Int) (m : Nat) : PInv w ((wr.setCell ⟨w.heap.size + 3, 0, none⟩ (.int .i64 e)).setCell ⟨w.heap.size + 3, 1, none⟩ (.int .i64 n)) ⟨st.r, (e, n), m⟩ := by
  have f1 := h.fs.put 0 (.int .i64 e)
  refine ⟨(h.b0.far (by show w.heap.size ≠ w.heap.size + 3; omega) _).far (by show w.heap.size ≠ w.heap.size + 3; omega) _, (h.b1.far (by show w.heap.size + 1 ≠ w.heap.size + 3; omega) _).far (by show w.heap.size + 1 ≠ w.heap.size + 3; omega) _, ?_, f1.put 1 (.int .i64 n), (h.below.setCell (p := ⟨w.heap.size + 3, 0, none⟩) (by show w.heap.size ≤ w.heap.size + 3; omega) _).setCell (p := ⟨w.heap.size + 3, 1, none⟩) (by show w.heap.size ≤ w.heap.size + 3; omega) _⟩
  exact (h.rd.keptT (KeptT.set h.fs (by decide) 0 _)).keptT (KeptT.set f1 (by decide) 1 _)
theorem PInv.new (w : World) : PInv w ((((w.alloc (.cells zCells 39)).alloc (.cells #[.int .i64 0, .int .i64 0] 43)).alloc (.cells #[.slice none 0 0, .slice none 0 0, .int .i64 0, .int .i64 0, .int .i64 0, .bool false] 70)).alloc (.cells #[.int .i64 0, .int .i64 0] 43)) startF := by
  have s1 : (w.alloc (.cells zCells 39)).heap.size = w.heap.size + 1 := by simp
  have s2 : ((w.alloc (.cells zCells 39)).alloc (.cells #[.int .i64 0, .int .i64 0] 43)).heap.size = w.heap.size + 2 := by simp
  have s3 : (((w.alloc (.cells zCells 39)).alloc (.cells #[.int .i64 0, .int .i64 0] 43)).alloc (.cells #[.slice none 0 0, .slice none 0 0, .int .i64 0, .int .i64 0, .int .i64 0, .bool false] 70)).heap.size = w.heap.size + 3 := by simp
  refine ⟨(((Blk.new w _ _).alloc _).alloc _).alloc _, ?_, ?_, ?_, bUp (bUp (bUp (bBox _ _) (bBox _ _)) (bBox _ _)) (bBox _ _)⟩
  · have h := ((Blk.new (w.alloc (.cells zCells 39)) #[.int .i64 0, .int .i64 0] 43).alloc (.cells #[.slice none 0 0, .slice none 0 0, .int .i64 0, .int .i64 0, .int .i64 0, .bool false] 70)).alloc (.cells #[.int .i64 0, .int .i64 0] 43)
    rwa [s1] at h
  · have h := (RdAt.zero ((w.alloc (.cells zCells 39)).alloc (.cells #[.int .i64 0, .int .i64 0] 43))).keep (bBox _ (.cells #[.int .i64 0, .int .i64 0] 43))
    rwa [s2] at h
  · have h := Blk.new (((w.alloc (.cells zCells 39)).alloc (.cells #[.int .i64 0, .int .i64 0] 43)).alloc (.cells #[.slice none 0 0, .slice none 0 0, .int .i64 0, .int .i64 0, .int .i64 0, .bool false] 70)) #[.int .i64 0, .int .i64 0] 43
    rwa [s3] at h

/-- the results written -/
def set7 (wr : World) (N : Nat) (u0 u1 u2 u3 u4 v0 v1 : Value) : World :=
  ((((((wr.setCell ⟨N, 0, none⟩ u0).setCell ⟨N, 1, none⟩ u1).setCell ⟨N, 2, none⟩ u2).setCell ⟨N, 3, none⟩ u3).setCell ⟨N, 4, none⟩ u4).setCell ⟨N + 1, 0, none⟩ v0).setCell ⟨N + 1, 1, none⟩ v1
theorem PInv.fin {w wr : World} {st : StF} (h : PInv w wr st) (u0 u1 u2 u3 u4 v0 v1 : Value) : Below w.heap.size w (set7 wr w.heap.size u0 u1 u2 u3 u4 v0 v1) := by
  have h5 := ((((h.below.setCell (p := ⟨w.heap.size, 0, none⟩) (Nat.le_refl _) u0).setCell (p := ⟨w.heap.size, 1, none⟩) (Nat.le_refl _) u1).setCell (p := ⟨w.heap.size, 2, none⟩) (Nat.le_refl _) u2).setCell (p := ⟨w.heap.size, 3, none⟩) (Nat.le_refl _) u3).setCell (p := ⟨w.heap.size, 4, none⟩) (Nat.le_refl _) u4
  exact (h5.setCell (p := ⟨w.heap.size + 1, 0, none⟩) (Nat.le_succ _) v0).setCell (p := ⟨w.heap.size + 1, 1, none⟩) (Nat.le_succ _) v1
theorem PInv.finK {w wr : World} {st : StF} (h : PInv w wr st) (u0 u1 u2 u3 u4 v0 v1 : Value) {ts : List TypeId} (h1 : 39 ∉ ts) (h2 : 43 ∉ ts) : KeptT ts wr (set7 wr w.heap.size u0 u1 u2 u3 u4 v0 v1) := by
  have c0 := h.b0.put 0 u0
  have c1 := c0.put 1 u1
  have c2 := c1.put 2 u2
  have c3 := c2.put 3 u3
  have hb1 : Blk ((((wr.setCell ⟨w.heap.size, 0, none⟩ u0).setCell ⟨w.heap.size, 1, none⟩ u1).setCell ⟨w.heap.size, 2, none⟩ u2).setCell ⟨w.heap.size, 3, none⟩ u3 |>.setCell ⟨w.heap.size, 4, none⟩ u4) (w.heap.size + 1) #[.int .i64 0, .int .i64 0] 43 := ((((h.b1.far (by show w.heap.size + 1 ≠ w.heap.size; omega) _).far (by show w.heap.size + 1 ≠ w.heap.size; omega) _).far (by show w.heap.size + 1 ≠ w.heap.size; omega) _).far (by show w.heap.size + 1 ≠ w.heap.size; omega) _).far (by show w.heap.size + 1 ≠ w.heap.size; omega) _
  have d0 := hb1.put 0 v0
  exact ((((((KeptT.set h.b0 h1 0 u0).trans (KeptT.set c0 h1 1 u1)).trans (KeptT.set c1 h1 2 u2)).trans (KeptT.set c2 h1 3 u3)).trans (KeptT.set c3 h1 4 u4)).trans (KeptT.set hb1 h2 0 v0)).trans (KeptT.set d0 h2 1 v1)
/-- what ParseFile gives back -/
def FileOut (r : CollD × (Int × Int)) (w : World) (e : Ending) (w' : World) : Prop :=
  ∃ AE cE AG cG, e = .returned (.tuple #[.agg #[.slice AE r.1.entries.length cE, .slice AG r.1.groups.length cG, .int .i64 r.1.base, .int .i64 r.1.second, .int .i64 r.1.third], .agg #[.int .i64 r.2.1, .int .i64 r.2.2]]) ∧ EntsAt w' AE r.1.entries ∧ GroupsAt w' AG r.1.groups ∧ Below w.heap.size w w'
theorem EntsAt.nil {w : World} {A : Option Addr} : EntsAt w A [] := fun h => absurd h (by simp)
theorem GroupsAt.nil {w : World} {A : Option Addr} : GroupsAt w A [] := fun h => absurd h (by simp)

/-- the next line -/
theorem cut_line (rest : List UInt8) (hne : rest ≠ []) (hl : rest.length ≤ 65536) : ∃ d r ok, (∀ w, Env w → Calls Tryd.prog 26 #[.string ⟨rest.toArray⟩, .string ⟨#[10]⟩] w fun e w' => e = .returned (.tuple #[.string ⟨d.toArray⟩, .string ⟨r.toArray⟩, .bool ok]) ∧ Below w.heap.size w w') ∧ linesL rest = d :: linesL r ∧ d.length + r.length ≤ rest.length ∧ r.length < rest.length := by
  have h0 : 0 < rest.length := by cases rest with | nil => exact absurd rfl hne | cons => simp
  cases hc : cutB 10 rest with
  | none => exact ⟨rest, [], false, fun w hE => cutNo hc w hE (by omega), linesL_none rest hc hne, by simp, by simpa using h0⟩
  | some p =>
    obtain ⟨d, r⟩ := p
    obtain ⟨e, _⟩ := cutB_some hc
    exact ⟨d, r, true, fun w hE => cutYes hc w hE (by omega), linesL_cut rest hc, by rw [e]; simp <;> omega, by rw [e]; simp <;> omega⟩
theorem trimR_len (l : List UInt8) (c : UInt8) : (Lib.trimRightB l c).length ≤ l.length := by
  unfold Lib.trimRightB
  rw [List.length_reverse]
  have h := (List.dropWhile_sublist (l := l.reverse) (· == c)).length_le
  rw [List.length_reverse] at h
  exact h
theorem content_len (l : List UInt8) : (contentP l).length ≤ l.length := by
  unfold contentP
  cases hc : cutB 35 l with
  | none => exact Nat.le_refl _
  | some p =>
    obtain ⟨e, _⟩ := cutB_some (a := p.1) (r := p.2) hc
    have h := trimR_len p.1 32
    have h2 : p.1.length ≤ l.length := by rw [e]; simp
    dsimp only
    omega
theorem baseP_same {r r' : RdD} {t : List UInt8} (h : baseP r t = some r') : r'.c.entries = r.c.entries ∧ r'.c.groups = r.c.groups := by
  unfold baseP at h
  split at h
  · cases h
  · split at h
    · injection h with h
      subst h
      exact ⟨rfl, rfl⟩
    · cases h
theorem groupP_same {r r' : RdD} {t : List UInt8} (h : groupP r t = some r') : r'.c.entries = r.c.entries ∧ r'.c.groups.length = r.c.groups.length + 1 := by
  unfold groupP at h
  split at h
  · cases h
  · split at h
    · injection h with h
      subst h
      exact ⟨rfl, by simp⟩
    · cases h
theorem entryP_len {r : RdD} {t : List UInt8} {x : EntryD} (h : entryP r t = some x) (ht : t.length ≤ 65536) : x.els.length ≤ 65536 := by
  unfold entryP at h
  split at h
  · unfold entP at h
    split at h
    · cases h
    · split at h
      · cases h
      · cases hr : readE (Lib.cut t [59, 32]).2.1 with
        | none => rw [hr] at h; cases h
        | some es =>
          rw [hr] at h
          simp at h
          subst h
          have := readE_len _ (Nat.le_refl _) hr
          have h2 := (cut_len t [59, 32]).2
          dsimp only
          omega
  · cases h
end Go.Proofs.YthogkokifiibnaaDoor
