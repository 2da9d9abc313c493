/- Files of elements: what is read. Plain. -/
import Derived.Test.YthogkokifiibnaaDoorElC
import Derived.Lib.AtoiAll
import Derived.Lib.ItoaNum
namespace Go.Proofs.YthogkokifiibnaaDoor
open Go.RowKit Go.Sort

structure GroupD where
  name : List UInt8
  lo : Int
  hi : Int
deriving Inhabited
structure EntryD where
  codes : List Int
  els : List ElemD
deriving Inhabited
structure CollD where
  entries : List EntryD
  groups : List GroupD
  base : Int
  second : Int
  third : Int
deriving Inhabited
def zeroC : CollD := ⟨[], [], 0, 0, 0⟩
/-- what has been read, and whether there was the line of the base -/
structure RdD where
  c : CollD
  started : Bool

/-- the number of a numeral -/
def numP (l : List UInt8) : Option Int := match Lib.atoiAll l with | .ok v => if 0 ≤ v ∧ Lib.itoa v = l then some v else none | _ => none
def numsP : List (List UInt8) → Option (List Int)
  | [] => some []
  | p :: ps => match numP p with | none => none | some n => (numsP ps).map (n :: ·)
theorem numsP_length : ∀ (ps : List (List UInt8)) {ns : List Int}, numsP ps = some ns → ns.length = ps.length
  | [], ns, h => by simp [numsP] at h; subst h; rfl
  | p :: ps, ns, h => by
    rw [numsP] at h
    cases hp : numP p with
    | none => rw [hp] at h; cases h
    | some n =>
      rw [hp] at h
      cases hr : numsP ps with
      | none => rw [hr] at h; cases h
      | some r =>
        rw [hr] at h
        simp at h
        subst h
        simp [numsP_length ps hr]
theorem nums_bad {ps : List (List UInt8)} {k : Nat} {acc : List Int} {r : Option (List Int)} (hk : k < ps.length) (h : r = (numsP (ps.drop k)).map (acc ++ ·)) (hp : numP (piece ps k) = none) : r = none := by
  rw [h, drop_piece hk, numsP, hp]
  rfl
theorem nums_good {ps : List (List UInt8)} {k : Nat} {acc : List Int} {r : Option (List Int)} {c : Int} (hk : k < ps.length) (h : r = (numsP (ps.drop k)).map (acc ++ ·)) (hp : numP (piece ps k) = some c) : r = (numsP (ps.drop (k + 1))).map ((acc ++ [c]) ++ ·) := by
  rw [h, drop_piece hk, numsP, hp]
  cases numsP (ps.drop (k + 1)) <;> simp

/-- "@base", "@group" -/
def wBase : List UInt8 := [64, 98, 97, 115, 101]
def wGroup : List UInt8 := [64, 103, 114, 111, 117, 112]

def baseP (r : RdD) (l : List UInt8) : Option RdD :=
  if r.started || !decide ((splitL 32 l).length = 4) || !decide (piece (splitL 32 l) 0 = wBase) then none
  else match numsP ((splitL 32 l).drop 1) with
    | some ns => some ⟨⟨r.c.entries, r.c.groups, nth ns 0, nth ns 1, nth ns 2⟩, true⟩
    | none => none
def groupP (r : RdD) (l : List UInt8) : Option RdD :=
  if !r.started || decide (0 < r.c.entries.length) || !decide ((splitL 32 l).length = 4) || !decide (piece (splitL 32 l) 0 = wGroup) || !nameB (piece (splitL 32 l) 1) then none
  else match numsP ((splitL 32 l).drop 2) with
    | some ns => some ⟨⟨r.c.entries, r.c.groups ++ [⟨piece (splitL 32 l) 1, nth ns 0, nth ns 1⟩], r.c.base, r.c.second, r.c.third⟩, r.started⟩
    | none => none
/-- an entry out of its line -/
def entP (l : List UInt8) : Option EntryD :=
  if (Lib.cut l [59, 32]).2.2 = false then none
  else if (parseCodesR (Lib.cut l [59, 32]).1).2 ≠ 0 then none
  else (readE (Lib.cut l [59, 32]).2.1).map fun es => ⟨(parseCodesR (Lib.cut l [59, 32]).1).1, es⟩
def addN (r : RdD) (e : EntryD) : RdD := ⟨⟨r.c.entries ++ [e], r.c.groups, r.c.base, r.c.second, r.c.third⟩, r.started⟩
def entryP (r : RdD) (l : List UInt8) : Option EntryD := if r.started then entP l else none

/-- where the reader stands: what was read, the first error of an element, the number of the last line -/
structure StF where
  r : RdD
  first : Int × Int
  n : Nat
def stepT (s : StF) (t : List UInt8) : Option StF :=
  if t = [] then some ⟨s.r, s.first, s.n + 1⟩
  else match baseP s.r t with
    | some r' => some ⟨r', s.first, s.n + 1⟩
    | none => match groupP s.r t with
      | some r' => some ⟨r', s.first, s.n + 1⟩
      | none => match entryP s.r t with
        | some e => some ⟨addN s.r e, if chksE e.els ≠ 0 ∧ s.first.1 = 0 then (chksE e.els, (s.n : Int) + 1) else s.first, s.n + 1⟩
        | none => none
def stepF (s : StF) (l : List UInt8) : Option StF := stepT s (contentP l)
def finF (s : StF) : CollD × (Int × Int) :=
  if s.r.started = false then (zeroC, (3, (s.n : Int) + 1)) else if s.first.1 ≠ 0 then (zeroC, s.first) else (s.r.c, (0, 0))
def runF : List (List UInt8) → StF → CollD × (Int × Int)
  | [], s => finF s
  | l :: ls, s => match stepF s l with | none => (zeroC, (3, (s.n : Int) + 1)) | some s' => runF ls s'
/-- the lines; behind the last line feed there is none -/
def linesL : List UInt8 → List (List UInt8)
  | [] => []
  | b :: r => if b = 10 then [] :: linesL r else match linesL r with | [] => [[b]] | p :: ps => (b :: p) :: ps
def startF : StF := ⟨⟨zeroC, false⟩, (0, 0), 0⟩
def parseF (l : List UInt8) : CollD × (Int × Int) := if 65536 < l.length then (zeroC, (2, 0)) else runF (linesL l) startF

theorem linesL_ne {l : List UInt8} (h : l ≠ []) : linesL l ≠ [] := by
  cases l with
  | nil => exact absurd rfl h
  | cons b r =>
    rw [linesL]
    split
    · simp
    · split <;> simp
theorem linesL_cut : ∀ (l : List UInt8) {d r : List UInt8}, cutB 10 l = some (d, r) → linesL l = d :: linesL r
  | [], d, r, h => by simp [cutB] at h
  | b :: l, d, r, h => by
    rw [cutB] at h
    rw [linesL]
    by_cases hb : b = 10
    · rw [if_pos hb] at h ⊢
      simp at h
      obtain ⟨rfl, rfl⟩ := h
      rfl
    · rw [if_neg hb] at h ⊢
      cases hc : cutB 10 l with
      | none => rw [hc] at h; simp at h
      | some p =>
        rw [hc] at h
        simp at h
        obtain ⟨rfl, rfl⟩ := h
        rw [linesL_cut l hc]
theorem linesL_none : ∀ (l : List UInt8), cutB 10 l = none → l ≠ [] → linesL l = [l]
  | [], _, hn => absurd rfl hn
  | b :: l, h, _ => by
    rw [cutB] at h
    rw [linesL]
    by_cases hb : b = 10
    · rw [if_pos hb] at h; simp at h
    · rw [if_neg hb] at h ⊢
      cases hc : cutB 10 l with
      | some p => rw [hc] at h; simp at h
      | none =>
        by_cases hl : l = []
        · subst hl; rfl
        · rw [linesL_none l hc hl]
end Go.Proofs.YthogkokifiibnaaDoor
