/- The package-level variables that are read; strings.Cut and strings.Split at a byte. -/
import Derived.Test.YthogkokifiibnaaDoorCp5
import Derived.Test.YthogkokifiibnaaDoorStrs
import Derived.Test.YthogkokifiibnaaDoorShelf
namespace Go.Proofs.YthogkokifiibnaaDoor
open Go.RowKit Go.Sort

/-- the package-level variables that are read: codepoint.digits, bytealg.MaxLen -/
structure Env (w : World) : Prop where
  dig : Dig w
  mx : ∃ m : Int, w.cell? ⟨1, 0, none⟩ = some (.int .i64 m)
theorem Env.keep {w w' : World} (h : Env w) (hb : Below w.heap.size w w') : Env w' :=
  ⟨h.dig.keep hb, let ⟨m, hm⟩ := h.mx; ⟨m, cell_keep hb hm⟩⟩

/-- strings.Cut at a byte that occurs -/
theorem cutYes {c : UInt8} {l d r : List UInt8} (h : cutB c l = some (d, r)) (w : World) (hE : Env w) (hl : l.length < 4294967281) :
    Calls Tryd.prog 26 #[.string ⟨l.toArray⟩, .string ⟨#[c]⟩] w fun e w' => e = .returned (.tuple #[.string ⟨d.toArray⟩, .string ⟨r.toArray⟩, .bool true]) ∧ Below w.heap.size w w' := by
  obtain ⟨m, hm⟩ := hE.mx
  refine (Tryd.strings_Cut ⟨l.toArray⟩ ⟨#[c]⟩ m w hl hm).mono ?_
  rintro e w' ⟨rfl, n, rfl⟩
  refine ⟨?_, below_drewN n⟩
  have hc : Lib.cut l [c] = (d, r, true) := by rw [lib_cut, h]
  show Ending.returned (.tuple #[.string ⟨(Lib.cut l [c]).1.toArray⟩, .string ⟨(Lib.cut l [c]).2.1.toArray⟩, .bool (Lib.cut l [c]).2.2]) = _
  rw [hc]
/-- .. at one that doesn't -/
theorem cutNo {c : UInt8} {l : List UInt8} (h : cutB c l = none) (w : World) (hE : Env w) (hl : l.length < 4294967281) :
    Calls Tryd.prog 26 #[.string ⟨l.toArray⟩, .string ⟨#[c]⟩] w fun e w' => e = .returned (.tuple #[.string ⟨l.toArray⟩, .string ⟨#[]⟩, .bool false]) ∧ Below w.heap.size w w' := by
  obtain ⟨m, hm⟩ := hE.mx
  refine (Tryd.strings_Cut ⟨l.toArray⟩ ⟨#[c]⟩ m w hl hm).mono ?_
  rintro e w' ⟨rfl, n, rfl⟩
  refine ⟨?_, below_drewN n⟩
  have hc : Lib.cut l [c] = (l, [], false) := by rw [lib_cut, h]
  show Ending.returned (.tuple #[.string ⟨(Lib.cut l [c]).1.toArray⟩, .string ⟨(Lib.cut l [c]).2.1.toArray⟩, .bool (Lib.cut l [c]).2.2]) = _
  rw [hc]
theorem parseV_some {l : List UInt8} {x : Int} (h : parseCp l = some x) : parseV l = .tuple #[.int .i64 x, .int .i64 0] := by simp [parseV, h]
theorem parseV_none {l : List UInt8} (h : parseCp l = none) : parseV l = .tuple #[.int .i64 0, .int .i64 3] := by simp [parseV, h]

theorem csSplit (c : UInt8) (l : List UInt8) (w : World) (hE : Env w) (hl : l.length < 4294967281) :
    Calls Tryd.prog 42 #[.string ⟨l.toArray⟩, .string ⟨#[c]⟩] w fun e w' => e = .returned (.slice (some ⟨w.heap.size, 0, none⟩) (splitL c l).length (splitL c l).length) ∧ w.alloc (.cells ((splitL c l).map fun p => Value.string ⟨p.toArray⟩).toArray 9) = w' := by
  obtain ⟨m, hm⟩ := hE.mx
  refine (Tryd.strings_Split ⟨l.toArray⟩ ⟨#[c]⟩ m w hl hm (by simp [ByteArray.size])).mono ?_
  rintro e w' ⟨rfl, rfl⟩
  have hc : Lib.countB ⟨l.toArray⟩ ⟨#[c]⟩ = l.count c := Lib.count_one c l
  refine ⟨by rw [hc, splitL_length], by rw [splitB_one]⟩
end Go.Proofs.YthogkokifiibnaaDoor
