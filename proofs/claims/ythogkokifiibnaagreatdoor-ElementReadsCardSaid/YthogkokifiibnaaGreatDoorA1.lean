/- Words of this claim's own for memory: a slice of ints that reads as a list; plain lemmas. No program in sight. Blocks that are known whole. No program in sight. The contracts of the small functions of codepoint and of its reference (Valid, Surrogate, Scalar). Plain laws of hexadecimal digits. No program in sight. codepoint.value and digit of the reference codepoint.Hex and Hex of the reference codepoint.Hex at every number; Hex of the reference codepoint.Parse and Parse of the reference -/
import Derived.WalkKit
import Derived.Below
import Derived.Deep.Draws
import Derived.Lib.Hide
import Derived.Lib.QuietBelow
import Derived.Lib.Builder
import Derived.Test.YthogkokifiibnaaGreatDoorProg
import Derived.BigQuiet
import Derived.Deep.QuietTactic
import Derived.Outline
namespace Go.Proofs.YthogkokifiibnaaGreatDoor
open Go.RowKit Go.Sort

/-- the k-th number of a list (0 beyond its end) -/
def nth (zs : List Int) (k : Nat) : Int := zs.getD k 0

theorem nth_lt {zs : List Int} {k : Nat} (h : k < zs.length) : nth zs k = zs[k] := by
  unfold nth; rw [List.getD_eq_getElem?_getD, List.getElem?_eq_getElem h]; rfl

theorem drop_nth {zs : List Int} {k : Nat} (h : k < zs.length) : zs.drop k = nth zs k :: zs.drop (k + 1) := by
  rw [nth_lt h]; exact List.drop_eq_getElem_cons h

/-- the slice at A reads as the ints zs -/
def IntsAt (w : World) (A : Option Addr) (zs : List Int) : Prop :=
  0 < zs.length → ∃ b off, A = some ⟨b, off, none⟩ ∧ b < w.heap.size ∧ ∀ j, j < zs.length → w.cell? ⟨b, off + j, none⟩ = some (.int .i64 (nth zs j))

theorem IntsAt.nil {w : World} {A : Option Addr} : IntsAt w A [] := fun h => absurd h (by simp)

theorem IntsAt.keep {w w' : World} {A : Option Addr} {zs : List Int} (h : IntsAt w A zs) (hb : Below w.heap.size w w') : IntsAt w' A zs := by
  intro hz
  obtain ⟨b, off, e, hlt, hc⟩ := h hz
  exact ⟨b, off, e, Nat.lt_of_lt_of_le hlt hb.size, fun j hj => (hb.cell (p := ⟨b, off + j, none⟩) hlt).trans (hc j hj)⟩

theorem IntsAt.at_ {w : World} {A : Option Addr} {zs : List Int} (h : IntsAt w A zs) {k : Nat} (hk : k < zs.length) :
    ∃ b off, A = some ⟨b, off, none⟩ ∧ b < w.heap.size ∧ w.cell? ⟨b, off + k, none⟩ = some (.int .i64 (nth zs k)) := by
  obtain ⟨b, off, e, hlt, hc⟩ := h (by omega)
  exact ⟨b, off, e, hlt, hc k hk⟩

/-- all numbers are ints of 64 bits -/
def WfInts (zs : List Int) : Prop := ∀ z ∈ zs, -9223372036854775808 ≤ z ∧ z ≤ 9223372036854775807

theorem ret_int {k : IntKind} {a b : Int} (h : a = b) : Ending.returned (.int k a) = .returned (.int k b) := by rw [h]
theorem ret_bool {a b : Bool} (h : a = b) : Ending.returned (.bool a) = .returned (.bool b) := by rw [h]

/-- a contract that holds in every world that has grown out of w, met in a region that draws its order -/
theorem callsQ {P : Program} {f : FuncId} {args : Array Value} {w : World} {v : Value} (h : ∀ w', Below w.heap.size w w' → Calls P f args w' fun e w'' => e = .returned v ∧ Below w'.heap.size w' w'') :
    ∀ d os, Calls P f args (grow (redrawn w d) os) fun e w'' => e = .returned v ∧ ∃ p : Regrown, w'' = grow (redrawn w p.d) p.os :=
  fun d os => Calls.regrown_of (h _ (below_regrown w d os))
/-- .. one that leaves the world alone -/
theorem callsS {P : Program} {f : FuncId} {args : Array Value} {w : World} {v : Value} (h : ∀ w', Below w.heap.size w w' → Calls P f args w' fun e w'' => e = .returned v ∧ w' = w'') :
    ∀ d os, Calls P f args (grow (redrawn w d) os) fun e w'' => e = .returned v ∧ ∃ p : Regrown, w'' = grow (redrawn w p.d) p.os :=
  callsQ fun w' hb => (h w' hb).mono fun _ _ ⟨he, hw⟩ => ⟨he, hw ▸ Below.refl _ _⟩

/-- growth upon growth -/
theorem bUp {a b c : World} (h : Below a.heap.size a b) (k : Below b.heap.size b c) : Below a.heap.size a c := h.trans (k.mono h.size)
theorem bBox (w : World) (o : Obj) : Below w.heap.size w (w.alloc o) := (Below.refl _ _).alloc (Nat.le_refl _) _
theorem cell_box (w : World) (c : Array Value) (t : TypeId) (i : Nat) : (w.alloc (.cells c t)).cell? ⟨w.heap.size, i, none⟩ = c[i]? := World.cell?_alloc_new w c t i
theorem cell_keep {w w' : World} {a : Addr} {v : Value} (hb : Below w.heap.size w w') (h : w.cell? a = some v) : w'.cell? a = some v := (hb.cell (block_lt_of_cell h)).trans h
theorem ret_str {a b : List UInt8} (h : a = b) : Ending.returned (.string ⟨a.toArray⟩) = .returned (.string ⟨b.toArray⟩) := by rw [h]
/-- the length of a string in a slot, for a loop's measure -/
def strLen : Value → Nat | .string b => b.size | _ => 0
theorem strLen_mk (l : List UInt8) : strLen (.string ⟨l.toArray⟩) = l.length := by simp [strLen, ByteArray.size]
theorem ba_app (a b : List UInt8) : (⟨a.toArray⟩ : ByteArray) ++ ⟨b.toArray⟩ = ⟨(a ++ b).toArray⟩ := by
  apply ByteArray.ext
  simp
theorem str_app (a b : List UInt8) : Value.string ((⟨a.toArray⟩ : ByteArray) ++ ⟨b.toArray⟩) = .string ⟨(a ++ b).toArray⟩ := by rw [ba_app]
theorem ret_eq {a b : Value} (h : a = b) : Ending.returned b = .returned a := by rw [h]
/-- the k-th byte of a string (0 beyond its end) -/
def btN (l : List UInt8) (k : Nat) : Nat := (l.getD k 0).toNat
theorem btN_lt (l : List UInt8) (k : Nat) : btN l k < 256 := UInt8.toNat_lt _
@[go_sem] theorem ba_get (l : List UInt8) (k : Nat) (h : k < (⟨l.toArray⟩ : ByteArray).size) : ((⟨l.toArray⟩ : ByteArray)[k]'h).toNat = btN l k := by
  have h' : k < l.length := h
  unfold btN
  rw [List.getD_eq_getElem?_getD, List.getElem?_eq_getElem h']
  rfl
theorem btN_get {l : List UInt8} {k : Nat} (h : k < l.length) : btN l k = l[k].toNat := by
  unfold btN
  rw [List.getD_eq_getElem?_getD, List.getElem?_eq_getElem h]
  rfl
theorem bytes_drop {l : List UInt8} {k : Nat} (h : k < l.length) : l.drop k = l[k] :: l.drop (k + 1) := List.drop_eq_getElem_cons h
/-- two new blocks, still there in a world that has grown -/
theorem two_boxes {w w1 : World} {c1 c2 : Array Value} {t1 t2 : TypeId} (hb : Below ((w.alloc (.cells c1 t1)).alloc (.cells c2 t2)).heap.size ((w.alloc (.cells c1 t1)).alloc (.cells c2 t2)) w1) :
    (∀ i, w1.cell? ⟨w.heap.size, i, none⟩ = c1[i]?) ∧ (∀ i, w1.cell? ⟨w.heap.size + 1, i, none⟩ = c2[i]?) ∧ (∀ i, w1.frozen? ⟨w.heap.size, i, none⟩ = false) ∧ (∀ i, w1.frozen? ⟨w.heap.size + 1, i, none⟩ = false) ∧ Below w.heap.size w w1 ∧ w.heap.size + 1 < w1.heap.size := by
  have hs : ((w.alloc (.cells c1 t1)).alloc (.cells c2 t2)).heap.size = w.heap.size + 2 := by simp
  have hs1 : (w.alloc (.cells c1 t1)).heap.size = w.heap.size + 1 := by simp
  refine ⟨fun i => ?_, fun i => ?_, fun i => ?_, fun i => ?_, bUp (bUp (bBox _ _) (bBox _ _)) hb, ?_⟩
  · rw [hb.cell (p := ⟨w.heap.size, i, none⟩) (by rw [hs]; show w.heap.size < _; omega), World.cell?_alloc_past _ _ _ (by rw [hs1]; omega), cell_box]
  · rw [hb.cell (p := ⟨w.heap.size + 1, i, none⟩) (by rw [hs]; show w.heap.size + 1 < _; omega), World.cell?_alloc_at _ _ _ _ hs1.symm]
  · rw [hb.frozen (p := ⟨w.heap.size, i, none⟩) (by rw [hs]; show w.heap.size < _; omega), World.frozen?_alloc_past _ _ _ (by rw [hs1]; omega), World.frozen?_alloc_at _ _ _ _ rfl]
  · rw [hb.frozen (p := ⟨w.heap.size + 1, i, none⟩) (by rw [hs]; show w.heap.size + 1 < _; omega), World.frozen?_alloc_at _ _ _ _ hs1.symm]
  · have := hb.size; omega
theorem bSet2 {B blk : Nat} {w w1 : World} (h : Below B w w1) (hB : B ≤ blk) (u u' : Value) : Below B w ((w1.setCell ⟨blk, 0, none⟩ u).setCell ⟨blk, 1, none⟩ u') :=
  (h.setCell (p := ⟨blk, 0, none⟩) hB u).setCell (p := ⟨blk, 1, none⟩) hB u'
end Go.Proofs.YthogkokifiibnaaGreatDoor
namespace Go.Proofs.YthogkokifiibnaaGreatDoor
open Go.RowKit

/-- block b is just the cells cs, none frozen -/
def Blk (w : World) (b : Nat) (cs : Array Value) (t : TypeId) : Prop := w.heap[b]? = some (.cells cs t (0, 0))
theorem Blk.lt {w : World} {b : Nat} {cs : Array Value} {t : TypeId} (h : Blk w b cs t) : b < w.heap.size := (Array.getElem?_eq_some_iff.1 h).1
theorem Blk.new (w : World) (cs : Array Value) (t : TypeId) : Blk (w.alloc (.cells cs t)) w.heap.size cs t := heap_alloc_new w _
theorem Blk.alloc {w : World} {b : Nat} {cs : Array Value} {t : TypeId} (h : Blk w b cs t) (o : Obj) : Blk (w.alloc o) b cs t := (Below.heap_alloc w o b h.lt).trans h
theorem Blk.keep {w w' : World} {b : Nat} {cs : Array Value} {t : TypeId} (h : Blk w b cs t) (hb : Below w.heap.size w w') : Blk w' b cs t := (hb.block b h.lt).trans h
theorem Blk.keepB {w w' : World} {b B : Nat} {cs : Array Value} {t : TypeId} (h : Blk w b cs t) (hb : Below B w w') (hB : b < B) : Blk w' b cs t := (hb.block b hB).trans h
theorem Blk.cell {w : World} {b : Nat} {cs : Array Value} {t : TypeId} (h : Blk w b cs t) (i : Nat) : w.cell? ⟨b, i, none⟩ = cs[i]? := Lib.cell_of_heap h i
theorem Blk.frozen {w : World} {b : Nat} {cs : Array Value} {t : TypeId} (h : Blk w b cs t) (i : Nat) : w.frozen? ⟨b, i, none⟩ = false := Lib.frozen_of_heap h i
theorem Blk.far {w : World} {b : Nat} {cs : Array Value} {t : TypeId} (h : Blk w b cs t) {p : Addr} (hp : b ≠ p.block) (u : Value) : Blk (w.setCell p u) b cs t := (Below.heap_setCell w p u b hp).trans h
theorem Blk.grown {w w' : World} {b : Nat} {cs : Array Value} {t : TypeId} {row : Option Nat} (h : Blk w b cs t) (hg : w.grownBy w' row) (hne : some b ≠ row) : Blk w' b cs t := (hg.block b h.lt hne).trans h

/-- the bytes from j up to k -/
def seg (l : List UInt8) (j k : Nat) : List UInt8 := (l.drop j).take (k - j)
theorem seg_self (l : List UInt8) (j : Nat) : seg l j j = [] := by simp [seg]
theorem seg_snoc {l : List UInt8} {j k : Nat} (hj : j ≤ k) (hk : k < l.length) : seg l j (k + 1) = seg l j k ++ [l[k]] := by
  unfold seg
  rw [show k + 1 - j = (k - j) + 1 by omega, List.take_succ_eq_append_getElem (by simp; omega)]
  congr 2
  simp only [List.getElem_drop]
  congr 1
  omega
@[go_sem] theorem ba_extract (l : List UInt8) (j k : Nat) : (⟨l.toArray⟩ : ByteArray).extract j k = ⟨(seg l j k).toArray⟩ := by
  apply ByteArray.ext
  simp [seg, ByteArray.data_extract]
theorem seg_end (l : List UInt8) (j : Nat) : seg l j l.length = l.drop j := by
  unfold seg
  exact List.take_of_length_le (by simp)
theorem seg_length {l : List UInt8} {j k : Nat} (h : k ≤ l.length) : (seg l j k).length = k - j := by simp [seg]; omega
end Go.Proofs.YthogkokifiibnaaGreatDoor
namespace Go.Proofs.YthogkokifiibnaaGreatDoor
open Go.RowKit

def validB (c : Int) : Bool := decide (0 ≤ c ∧ c ≤ 1114111)
def surrB (c : Int) : Bool := decide (55296 ≤ c ∧ c ≤ 57343)
def scalarB (c : Int) : Bool := validB c && !surrB c

theorem cpValid (c : Int) (w : World) : Calls Tryz.prog 54 #[.int .i64 c] w fun e w' => e = .returned (.bool (validB c)) ∧ w = w' := by
  by_cases h1 : 0 ≤ c <;> by_cases h2 : c ≤ 1114111
  all_goals
    go_enter Tryz.func54, Tryz.ntmps54
    go_wp2
    go_ret
    exact ⟨by simp [validB, h1, h2], rfl⟩

theorem rfValid (c : Int) (w : World) : Calls Tryz.prog 59 #[.int .i64 c] w fun e w' => e = .returned (.bool (validB c)) ∧ w = w' := by
  by_cases h1 : 0 ≤ c <;> by_cases h2 : c ≤ 1114111
  all_goals
    go_enter Tryz.func59, Tryz.ntmps59
    go_wp2
    go_ret
    exact ⟨by simp [validB, h1, h2], rfl⟩
end Go.Proofs.YthogkokifiibnaaGreatDoor
namespace Go.Proofs.YthogkokifiibnaaGreatDoor

/-- the character of a digit -/
def hexC (i : Nat) : Nat := if i < 10 then 48 + i else 55 + i
/-- the value of a character, or -1 -/
def hexVal (b : Int) : Int := if 48 ≤ b ∧ b ≤ 57 then b - 48 else if 65 ≤ b ∧ b ≤ 70 then b - 55 else -1
theorem hexC_is (k : Nat) : (k < 10 ∧ hexC k = 48 + k) ∨ (10 ≤ k ∧ hexC k = 55 + k) := by unfold hexC; split <;> omega
theorem hexVal_is (b : Int) : (48 ≤ b ∧ b ≤ 57 ∧ hexVal b = b - 48) ∨ (65 ≤ b ∧ b ≤ 70 ∧ hexVal b = b - 55) ∨ ((b < 48 ∨ 57 < b) ∧ (b < 65 ∨ 70 < b) ∧ hexVal b = -1) := by unfold hexVal; split <;> (try split) <;> omega
theorem hexC_le (i : Nat) (h : i < 16) : 48 ≤ hexC i ∧ hexC i ≤ 70 := by have := hexC_is i; omega
theorem hexVal_hit {b : Int} {k : Nat} (hk : k < 16) (h : (hexC k : Int) = b) : hexVal b = k := by have := hexC_is k; have := hexVal_is b; omega
theorem hexVal_miss {b : Int} {k : Nat} (hk : k < 16) (h : ¬ (hexC k : Int) = b) (hb : hexVal b = -1 ∨ k ≤ hexVal b) : hexVal b = -1 ∨ ((k + 1 : Nat) : Int) ≤ hexVal b := by
  have := hexC_is k; have := hexVal_is b; omega
theorem hexVal_end {b : Int} (hb : hexVal b = -1 ∨ 16 ≤ hexVal b) : hexVal b = -1 := by have := hexVal_is b; omega
theorem hexVal_le (b : Int) : -1 ≤ hexVal b ∧ hexVal b ≤ 15 := by have := hexVal_is b; omega

/-- n digits of c -/
def hexN : Nat → Nat → List UInt8
  | 0, _ => []
  | n + 1, c => hexN n (c / 16) ++ [UInt8.ofNat (hexC (c % 16))]
theorem hexN_length : ∀ n c, (hexN n c).length = n
  | 0, _ => rfl
  | n + 1, c => by simp [hexN, hexN_length n]
def hexLen (c : Nat) : Nat := if c < 65536 then 4 else if c < 1048576 then 5 else 6
/-- Hex of a code point, empty for other numbers -/
def hexL (c : Int) : List UInt8 := if 0 ≤ c ∧ c ≤ 1114111 then hexN (hexLen c.toNat) c.toNat else []
theorem hexL_length_le (c : Int) : (hexL c).length ≤ 6 := by
  unfold hexL; split
  · rw [hexN_length]; unfold hexLen; split <;> (try split) <;> omega
  · simp
end Go.Proofs.YthogkokifiibnaaGreatDoor
namespace Go.Proofs.YthogkokifiibnaaGreatDoor
open Go.RowKit Go.Sort

/-- codepoint.digits holds the sixteen digits -/
def Dig (w : World) : Prop := ∀ j, j < 16 → w.cell? ⟨0, j, none⟩ = some (.int .u8 (hexC j))
theorem Dig.keep {w w' : World} (h : Dig w) (hb : Below w.heap.size w w') : Dig w' := fun j hj => cell_keep hb (h j hj)

theorem cpValue (b : Int) (w : World) (hD : Dig w) :
    Calls Tryz.prog 99 #[.int .u8 b] w fun e w' => e = .returned (.int .i64 (hexVal b)) ∧ w = w' := by
  have HD := Lib.hid hD
  clear hD
  go_enter Tryz.func99, Tryz.ntmps99
  go_wp2
  go_loop [4] (fun i => ∃ k : Nat, k ≤ 16 ∧ i = .int .i64 k ∧ Hid (hexVal b = -1 ∨ (k : Int) ≤ hexVal b)) (fun i => 16 - (intOf i).toNat)
  case atStart => exact ⟨0, by omega, rfl, Lib.hid (by have := hexVal_le b; omega)⟩
  case round =>
    obtain ⟨k, hk, rfl, HB⟩ := hrel
    by_cases hlt : k < 16
    · have hc := HD.out k hlt
      by_cases he : (hexC k : Int) = b
      · have he' : ((hexC k : Int) == b) = true := by simpa using he
        have He := Lib.hid he
        clear he
        go_wp2
        go_ret
        exact ⟨ret_int (hexVal_hit hlt He.out).symm, rfl⟩
      · have he' : ((hexC k : Int) == b) = false := by simpa using he
        have He := Lib.hid he
        clear he
        go_wp2
        go_round
        case rel => exact ⟨k + 1, by omega, by go_num, hexVal_miss hlt He.out HB.out⟩
        case measure => simp [intOf]; omega
    · go_wp2
      go_ret
      exact ⟨ret_int (hexVal_end (by have := HB.out; omega)).symm, rfl⟩

theorem digIdx (k : Nat) (hk : k < 16) (w : World) : (Instr.index 9 (.string ⟨#[48, 49, 50, 51, 52, 53, 54, 55, 56, 57, 65, 66, 67, 68, 69, 70]⟩) (.int .i64 k)).run Tryz.prog w = .ok (.int .u8 (hexC k)) w := by
  obtain rfl | rfl | rfl | rfl | rfl | rfl | rfl | rfl | rfl | rfl | rfl | rfl | rfl | rfl | rfl | rfl : k = 0 ∨ k = 1 ∨ k = 2 ∨ k = 3 ∨ k = 4 ∨ k = 5 ∨ k = 6 ∨ k = 7 ∨ k = 8 ∨ k = 9 ∨ k = 10 ∨ k = 11 ∨ k = 12 ∨ k = 13 ∨ k = 14 ∨ k = 15 := by omega
  all_goals kernel_rfl

theorem rfDigit (b : Int) (w : World) :
    Calls Tryz.prog 100 #[.int .u8 b] w fun e w' => e = .returned (.int .i64 (hexVal b)) ∧ w = w' := by
  go_enter Tryz.func100, Tryz.ntmps100
  go_wp2
  go_loop [3] (fun i => ∃ k : Nat, k ≤ 16 ∧ i = .int .i64 k ∧ Hid (hexVal b = -1 ∨ (k : Int) ≤ hexVal b)) (fun i => 16 - (intOf i).toNat)
  case atStart => exact ⟨0, by omega, rfl, Lib.hid (by have := hexVal_le b; omega)⟩
  case round =>
    obtain ⟨k, hk, rfl, HB⟩ := hrel
    by_cases hlt : k < 16
    · have hc := digIdx k hlt
      by_cases he : (hexC k : Int) = b
      · have he' : ((hexC k : Int) == b) = true := by simpa using he
        have He := Lib.hid he
        clear he
        go_wp2
        go_ret
        exact ⟨ret_int (hexVal_hit hlt He.out).symm, rfl⟩
      · have he' : ((hexC k : Int) == b) = false := by simpa using he
        have He := Lib.hid he
        clear he
        go_wp2
        go_round
        case rel => exact ⟨k + 1, by omega, by go_num, hexVal_miss hlt He.out HB.out⟩
        case measure => simp [intOf]; omega
    · go_wp2
      go_ret
      exact ⟨ret_int (hexVal_end (by have := HB.out; omega)).symm, rfl⟩
end Go.Proofs.YthogkokifiibnaaGreatDoor
namespace Go.Proofs.YthogkokifiibnaaGreatDoor
open Go.RowKit Go.Sort

def shr : Nat → Nat → Nat
  | 0, c => c
  | k + 1, c => shr k c / 16
theorem shr_le (c : Nat) : ∀ k, shr k c ≤ c
  | 0 => Nat.le_refl _
  | k + 1 => Nat.le_trans (Nat.div_le_self _ _) (shr_le c k)
def hexZ : Value := .int .u8 0
def hexDig (c j : Nat) : Value := .int .u8 (hexC (shr j c % 16))
/-- codepoint.Hex's buffer after k rounds -/
def hexBuf (c : Nat) : Nat → Array Value
  | 0 => #[hexZ, hexZ, hexZ, hexZ, hexZ, hexZ]
  | 1 => #[hexZ, hexZ, hexZ, hexZ, hexZ, hexDig c 0]
  | 2 => #[hexZ, hexZ, hexZ, hexZ, hexDig c 1, hexDig c 0]
  | 3 => #[hexZ, hexZ, hexZ, hexDig c 2, hexDig c 1, hexDig c 0]
  | 4 => #[hexZ, hexZ, hexDig c 3, hexDig c 2, hexDig c 1, hexDig c 0]
  | 5 => #[hexZ, hexDig c 4, hexDig c 3, hexDig c 2, hexDig c 1, hexDig c 0]
  | _ => #[hexDig c 5, hexDig c 4, hexDig c 3, hexDig c 2, hexDig c 1, hexDig c 0]

theorem hexLen4 {c : Nat} (h : shr 4 c = 0) : hexLen c = 4 := by simp only [shr] at h; unfold hexLen; rw [if_pos (by omega)]
theorem hexLen5 {c : Nat} (h : shr 5 c = 0) (h' : shr 4 c ≠ 0) : hexLen c = 5 := by simp only [shr] at h h'; unfold hexLen; rw [if_neg (by omega), if_pos (by omega)]
theorem hexLen6 {c : Nat} (h' : shr 5 c ≠ 0) : hexLen c = 6 := by simp only [shr] at h'; unfold hexLen; rw [if_neg (by omega), if_neg (by omega)]
theorem hexDig_byte (c j x : Nat) (h : x = shr j c % 16) : hexDig c j = .int .u8 ((UInt8.ofNat (hexC x)).toNat : Int) := by
  subst h
  have := hexC_le (shr j c % 16) (Nat.mod_lt _ (by omega))
  unfold hexDig
  rw [UInt8.toNat_ofNat', Nat.mod_eq_of_lt (show hexC (shr j c % 16) < 2 ^ 8 by omega)]

theorem hexConv4 (c : Nat) (w : World) : (convert 55 9 (.slice (some ⟨w.heap.size, 2, none⟩) 4 4)).run Tryz.prog (w.alloc (.cells (hexBuf c 4) 103)) = .ok (.string ⟨(hexN 4 c).toArray⟩) (w.alloc (.cells (hexBuf c 4) 103)) := by
  have := run_convert_bytes_back (P := Tryz.prog) (w.alloc (.cells (hexBuf c 4) 103)) 55 9 5 ⟨w.heap.size, 2, none⟩ 4 (hexN 4 c) Tryz.underlying55 Tryz.underlying5 Tryz.underlying9 (fun j hj => by
    rw [hexN_length] at hj
    rw [Go.WideShapes.add_plain, cell_box]
    obtain rfl | rfl | rfl | rfl : j = 0 ∨ j = 1 ∨ j = 2 ∨ j = 3 := by omega
    all_goals exact congrArg some (hexDig_byte c _ _ rfl))
  rwa [hexN_length] at this
theorem hexConv5 (c : Nat) (w : World) : (convert 55 9 (.slice (some ⟨w.heap.size, 1, none⟩) 5 5)).run Tryz.prog (w.alloc (.cells (hexBuf c 5) 103)) = .ok (.string ⟨(hexN 5 c).toArray⟩) (w.alloc (.cells (hexBuf c 5) 103)) := by
  have := run_convert_bytes_back (P := Tryz.prog) (w.alloc (.cells (hexBuf c 5) 103)) 55 9 5 ⟨w.heap.size, 1, none⟩ 5 (hexN 5 c) Tryz.underlying55 Tryz.underlying5 Tryz.underlying9 (fun j hj => by
    rw [hexN_length] at hj
    rw [Go.WideShapes.add_plain, cell_box]
    obtain rfl | rfl | rfl | rfl | rfl : j = 0 ∨ j = 1 ∨ j = 2 ∨ j = 3 ∨ j = 4 := by omega
    all_goals exact congrArg some (hexDig_byte c _ _ rfl))
  rwa [hexN_length] at this
theorem hexConv6 (c : Nat) (w : World) : (convert 55 9 (.slice (some ⟨w.heap.size, 0, none⟩) 6 6)).run Tryz.prog (w.alloc (.cells (hexBuf c 6) 103)) = .ok (.string ⟨(hexN 6 c).toArray⟩) (w.alloc (.cells (hexBuf c 6) 103)) := by
  have := run_convert_bytes_back (P := Tryz.prog) (w.alloc (.cells (hexBuf c 6) 103)) 55 9 5 ⟨w.heap.size, 0, none⟩ 6 (hexN 6 c) Tryz.underlying55 Tryz.underlying5 Tryz.underlying9 (fun j hj => by
    rw [hexN_length] at hj
    rw [Go.WideShapes.add_plain, cell_box]
    obtain rfl | rfl | rfl | rfl | rfl | rfl : j = 0 ∨ j = 1 ∨ j = 2 ∨ j = 3 ∨ j = 4 ∨ j = 5 := by omega
    all_goals exact congrArg some (hexDig_byte c _ _ rfl))
  rwa [hexN_length] at this
theorem cpHexNo (c : Int) (w : World) (h : validB c = false) :
    Calls Tryz.prog 57 #[.int .i64 c] w fun e w' => e = .returned (.string ⟨#[]⟩) ∧ w = w' := by
  have H := Lib.hid h
  clear h
  go_enter Tryz.func57, Tryz.ntmps57
  go_wp2_with (go_at_call 54; refine (cpValid _ _).mono ?_; rintro e w' ⟨rfl, rfl⟩; rw [H.out])
  go_ret
  exact ⟨rfl, rfl⟩

set_option maxRecDepth 100000 in
theorem cpHexYes (c : Nat) (w : World) (hD : Dig w) (h : c ≤ 1114111) :
    Calls Tryz.prog 57 #[.int .i64 c] w fun e w' => e = .returned (.string ⟨(hexN (hexLen c) c).toArray⟩) ∧ Below w.heap.size w w' := by
  have HV : Hid (validB c = true) := Lib.hid (by simp [validB]; omega)
  have HD := Lib.hid hD
  clear hD
  go_enter Tryz.func57, Tryz.ntmps57
  go_wp2_with (go_at_call 54; refine (cpValid _ _).mono ?_; rintro e w' ⟨rfl, rfl⟩; rw [HV.out])
  go_loopw [0, 4, 9] (fun x at' i wr => ∃ k : Nat, k ≤ 6 ∧ (k < 5 ∨ Hid (shr (k - 1) c ≠ 0)) ∧ x = .int .i64 (shr k c) ∧ at' = .int .i64 (6 - k) ∧ i = .int .i64 k ∧ wr = w.alloc (.cells (hexBuf c k) 103)) (fun _ _ i _ => 6 - (intOf i).toNat)
  case atStart => exact ⟨0, by omega, .inl (by omega), rfl, rfl, rfl, rfl⟩
  case round =>
    obtain ⟨k, hk, hz, rfl, rfl, rfl, rfl⟩ := hrel
    have hle := shr_le c k
    have h0 : 0 < w.heap.size := block_lt_of_cell (HD.out 0 (by omega))
    have hm : shr k c % 16 < 16 := Nat.mod_lt _ (by omega)
    have hc := HD.out (shr k c % 16) hm
    by_cases hlt : k < 4
    · obtain rfl | rfl | rfl | rfl : k = 0 ∨ k = 1 ∨ k = 2 ∨ k = 3 := by omega
      all_goals
        clear hz
        go_wp2
        go_roundw
        case rel => first | exact ⟨1, by omega, .inl (by omega), rfl, rfl, rfl, rfl⟩ | exact ⟨2, by omega, .inl (by omega), rfl, rfl, rfl, rfl⟩ | exact ⟨3, by omega, .inl (by omega), rfl, rfl, rfl, rfl⟩ | exact ⟨4, by omega, .inl (by omega), rfl, rfl, rfl, rfl⟩
        case measure => simp [intOf]
    · by_cases h6 : k < 6
      · by_cases hs : shr k c = 0
        · have hs' : (((shr k c : Nat) : Int) == 0) = true := by simp [hs]
          have HS := Lib.hid hs
          clear hs
          obtain rfl | rfl : k = 4 ∨ k = 5 := by omega
          · have hq4 := hexConv4 c w
            go_wp2
            go_ret
            exact ⟨ret_str (by rw [hexLen4 HS.out]), bBox _ _⟩
          · have hq5 := hexConv5 c w
            have hz' := (hz.resolve_left (by omega)).out
            have Hz' := Lib.hid hz'
            clear hz'
            clear hz
            go_wp2
            go_ret
            exact ⟨ret_str (by rw [hexLen5 HS.out Hz'.out]), bBox _ _⟩
        · have hs' : (((shr k c : Nat) : Int) == 0) = false := by simpa using hs
          have HS := Lib.hid hs
          clear hs hz
          obtain rfl | rfl : k = 4 ∨ k = 5 := by omega
          all_goals
            go_wp2
            go_roundw
            case rel => first | exact ⟨5, by omega, .inr HS, rfl, rfl, rfl, rfl⟩ | exact ⟨6, by omega, .inr HS, rfl, rfl, rfl, rfl⟩
            case measure => simp [intOf]
      · obtain rfl : k = 6 := by omega
        have hq6 := hexConv6 c w
        have hz' := (hz.resolve_left (by omega)).out
        have Hz' := Lib.hid hz'
        clear hz'
        clear hz
        go_wp2
        go_ret
        exact ⟨ret_str (by rw [hexLen6 Hz'.out]), bBox _ _⟩
end Go.Proofs.YthogkokifiibnaaGreatDoor
namespace Go.Proofs.YthogkokifiibnaaGreatDoor
open Go.RowKit Go.Sort

theorem hexL_no {c : Int} (h : validB c = false) : hexL c = [] := by
  unfold hexL; unfold validB at h; rw [if_neg (of_decide_eq_false h)]
theorem hexL_yes {c : Int} (h : validB c = true) : ∃ n : Nat, c = n ∧ n ≤ 1114111 ∧ hexL c = hexN (hexLen n) n := by
  have h' := of_decide_eq_true h
  obtain ⟨n, rfl⟩ := Int.eq_ofNat_of_zero_le h'.1
  refine ⟨n, rfl, by omega, ?_⟩
  unfold hexL; rw [if_pos h', Int.toNat_natCast]

theorem cpHex (c : Int) (w : World) (hD : Dig w) :
    Calls Tryz.prog 57 #[.int .i64 c] w fun e w' => e = .returned (.string ⟨(hexL c).toArray⟩) ∧ Below w.heap.size w w' := by
  cases h : validB c
  · exact (cpHexNo c w h).mono fun e w' ⟨he, hw⟩ => ⟨by rw [he, hexL_no h], hw ▸ Below.refl _ _⟩
  · obtain ⟨n, rfl, hn, e⟩ := hexL_yes h
    rw [e]
    exact cpHexYes n w hD hn

theorem shr_front (c : Nat) : ∀ k, shr (k + 1) c = shr k (c / 16)
  | 0 => rfl
  | k + 1 => by rw [shr, shr_front c k]; rfl
theorem hexN_front : ∀ (k c : Nat), hexN (k + 1) c = UInt8.ofNat (hexC (shr k c % 16)) :: hexN k c
  | 0, c => rfl
  | k + 1, c => by
    rw [hexN, hexN_front k (c / 16), hexN, shr_front]
    rfl

theorem digSlice (x : Nat) (hx : x < 16) (w : World) : (Instr.slice 9 (.string ⟨#[48, 49, 50, 51, 52, 53, 54, 55, 56, 57, 65, 66, 67, 68, 69, 70]⟩) (some (.int .i64 x)) (some (.int .i64 (x + 1))) none).run Tryz.prog w = .ok (.string ⟨#[UInt8.ofNat (hexC x)]⟩) w := by
  obtain rfl | rfl | rfl | rfl | rfl | rfl | rfl | rfl | rfl | rfl | rfl | rfl | rfl | rfl | rfl | rfl : x = 0 ∨ x = 1 ∨ x = 2 ∨ x = 3 ∨ x = 4 ∨ x = 5 ∨ x = 6 ∨ x = 7 ∨ x = 8 ∨ x = 9 ∨ x = 10 ∨ x = 11 ∨ x = 12 ∨ x = 13 ∨ x = 14 ∨ x = 15 := by omega
  all_goals kernel_rfl
theorem digSliceMod (c : Nat) (w : World) : (Instr.slice 9 (.string ⟨#[48, 49, 50, 51, 52, 53, 54, 55, 56, 57, 65, 66, 67, 68, 69, 70]⟩) (some (.int .i64 ((c : Int) % 16))) (some (.int .i64 ((c : Int) % 16 + 1))) none).run Tryz.prog w = .ok (.string ⟨#[UInt8.ofNat (hexC (c % 16))]⟩) w :=
  digSlice (c % 16) (Nat.mod_lt _ (by omega)) w

set_option maxRecDepth 100000 in
theorem rfHexYes (c : Nat) (w : World) (h : c ≤ 1114111) :
    Calls Tryz.prog 60 #[.int .i64 c] w fun e w' => e = .returned (.string ⟨(hexN (hexLen c) c).toArray⟩) ∧ w = w' := by
  have HV : Hid (validB c = true) := Lib.hid (by simp [validB]; omega)
  go_enter Tryz.func60, Tryz.ntmps60
  go_wp2_with (go_at_call 59; refine (rfValid _ _).mono ?_; rintro e w' ⟨rfl, rfl⟩; rw [HV.out])
  go_loop [0, 3] (fun x s => ∃ k : Nat, k ≤ 6 ∧ x = .int .i64 (shr k c) ∧ s = .string ⟨(hexN k c).toArray⟩ ∧ (k < 5 ∨ Hid (shr (k - 1) c ≠ 0))) (fun _ s => 6 - strLen s)
  case atStart => exact ⟨0, by omega, rfl, rfl, .inl (by omega)⟩
  case round =>
    obtain ⟨k, hk, rfl, rfl, hz⟩ := hrel
    have hle := shr_le c k
    have hd := digSliceMod (shr k c)
    have hlen := hexN_length k c
    have HL := Lib.hid (hexN_length (k + 1) c)
    have HF := Lib.hid (hexN_front k c)
    have hsz : strLen (.string ⟨(hexN k c).toArray⟩) = k := by rw [strLen_mk, hexN_length]
    have HZ := Lib.hid hsz
    clear hsz
    by_cases h4 : k < 4
    · clear hz
      go_wp2
      go_round
      case rel => exact ⟨k + 1, by omega, rfl, (str_app [_] _).trans (by rw [HF.out]; rfl), .inl (by omega)⟩
      case measure => rw [HZ.out, str_app [_] _, strLen_mk]; simp [hexN_length]; omega
    · by_cases hs : shr k c = 0
      · have hs' : decide (0 < shr k c) = false := by simp [hs]
        have hk4 : decide ((k : Int) < 4) = false := by simp; omega
        have Hs := Lib.hid hs
        clear hs
        go_wp2
        go_ret
        refine ⟨ret_str ?_, rfl⟩
        obtain rfl | rfl | rfl : k = 4 ∨ k = 5 ∨ k = 6 := by omega
        · rw [hexLen4 Hs.out]
        · rw [hexLen5 Hs.out (hz.resolve_left (by omega)).out]
        · rw [hexLen6 (hz.resolve_left (by omega)).out]
      · have hs' : decide (0 < shr k c) = true := by simp; omega
        have hk4 : decide ((k : Int) < 4) = false := by simp; omega
        have hk6 : k < 6 := by
          rcases Nat.lt_or_ge k 6 with h6 | h6
          · exact h6
          · obtain rfl : k = 6 := by omega
            simp only [shr] at hs
            omega
        have Hs := Lib.hid hs
        clear hs
        clear hz
        go_wp2
        go_round
        case rel => exact ⟨k + 1, by omega, rfl, (str_app [_] _).trans (by rw [HF.out]; rfl), .inr Hs⟩
        case measure => rw [HZ.out, str_app [_] _, strLen_mk]; simp [hexN_length]; omega

theorem rfHex (c : Int) (w : World) :
    Calls Tryz.prog 60 #[.int .i64 c] w fun e w' => e = .returned (.string ⟨(hexL c).toArray⟩) ∧ w = w' := by
  cases h : validB c
  · have hn := hexL_no h
    have H := Lib.hid h
    have Hn := Lib.hid hn
    clear h hn
    go_enter Tryz.func60, Tryz.ntmps60
    go_wp2_with (go_at_call 59; refine (rfValid _ _).mono ?_; rintro e w' ⟨rfl, rfl⟩; rw [H.out])
    go_ret
    exact ⟨ret_str Hn.out.symm, rfl⟩
  · obtain ⟨n, rfl, hn, e⟩ := hexL_yes h
    rw [e]
    exact rfHexYes n w hn
end Go.Proofs.YthogkokifiibnaaGreatDoor
namespace Go.Proofs.YthogkokifiibnaaGreatDoor
open Go.RowKit Go.Sort

def numL : List UInt8 → Int → Option Int
  | [], acc => some acc
  | b :: r, acc => if hexVal (b.toNat : Int) < 0 then none else numL r (acc * 16 + hexVal (b.toNat : Int))
/-- the code point whose Hex is l -/
def parseCp (l : List UInt8) : Option Int :=
  if l.length < 4 ∨ 6 < l.length then none else
  match numL l 0 with
  | none => none
  | some c => if hexL c = l then some c else none
def parseV (l : List UInt8) : Value := .tuple #[.int .i64 ((parseCp l).getD 0), .int .i64 (if (parseCp l).isSome then 0 else 3)]

theorem numL_bad {l : List UInt8} {k : Nat} {acc : Int} (hk : k < l.length) (h : hexVal (btN l k) < 0) : numL (l.drop k) acc = none := by
  rw [bytes_drop hk]; rw [btN_get hk] at h; simp [numL, h]
theorem numL_good {l : List UInt8} {k : Nat} {acc : Int} (hk : k < l.length) (h : ¬ hexVal (btN l k) < 0) : numL (l.drop k) acc = numL (l.drop (k + 1)) (acc * 16 + hexVal (btN l k)) := by
  rw [bytes_drop hk]; rw [btN_get hk] at *; simp [numL, h]

theorem parseV_len {l : List UInt8} (h : l.length < 4 ∨ 6 < l.length) : parseV l = .tuple #[.int .i64 0, .int .i64 3] := by simp [parseV, parseCp, h]
theorem parseV_num {l : List UInt8} (h : numL l 0 = none) : parseV l = .tuple #[.int .i64 0, .int .i64 3] := by simp [parseV, parseCp, h]
theorem parseV_hex {l : List UInt8} {c : Int} (h : numL l 0 = some c) (hh : ¬ hexL c = l) : parseV l = .tuple #[.int .i64 0, .int .i64 3] := by simp [parseV, parseCp, h, hh]
theorem parseV_ok {l : List UInt8} {c : Int} (h1 : ¬ (l.length < 4 ∨ 6 < l.length)) (h : numL l 0 = some c) (hh : hexL c = l) : parseV l = .tuple #[.int .i64 c, .int .i64 0] := by simp [parseV, parseCp, h, hh, h1]

set_option maxRecDepth 100000 in
theorem cpParse (l : List UInt8) (w : World) (hD : Dig w) (hs : l.length ≤ 9223372036854775807) :
    Calls Tryz.prog 82 #[.string ⟨l.toArray⟩] w fun e w' => e = .returned (parseV l) ∧ Below w.heap.size w w' := by
  have HD := Lib.hid hD
  clear hD
  by_cases h4 : l.length < 4
  · have H := Lib.hid (parseV_len (.inl (by omega)))
    have h4' : decide ((l.length : Int) < 4) = true := by simp; omega
    go_enter Tryz.func82, Tryz.ntmps82
    go_wp2
    go_ret2
    exact ⟨ret_eq H.out, Below.refl _ _⟩
  have h4' : decide ((l.length : Int) < 4) = false := by simp; omega
  by_cases h6 : 6 < l.length
  · have H := Lib.hid (parseV_len (.inr (by omega)))
    have h6' : decide ((6 : Int) < l.length) = true := by simp; omega
    go_enter Tryz.func82, Tryz.ntmps82
    go_wp2
    go_ret2
    exact ⟨ret_eq H.out, Below.refl _ _⟩
  have h6' : decide ((6 : Int) < l.length) = false := by simp; omega
  go_enter Tryz.func82, Tryz.ntmps82
  go_wp2
  go_loop [4, 17] (fun x i => ∃ (k : Nat) (c : Nat), k ≤ l.length ∧ i = .int .i64 k ∧ x = .int .i64 c ∧ c < 16 ^ k ∧ Hid (numL l 0 = numL (l.drop k) c)) (fun _ i => l.length - (intOf i).toNat)
  case atStart => exact ⟨0, 0, by omega, rfl, rfl, by simp, rfl⟩
  case round =>
    obtain ⟨k, c, hk, rfl, rfl, hc, HB⟩ := hrel
    by_cases hlt : k < l.length
    · have hc2 : c < 1048576 := Nat.lt_of_lt_of_le hc (Nat.pow_le_pow_right (by omega) (show k ≤ 5 by omega))
      have Hc := Lib.hid hc
      clear hc
      by_cases hv : hexVal (btN l k) < 0
      · have H := Lib.hid (parseV_num (by rw [HB.out, numL_bad hlt hv]))
        go_wp2_with (go_at_call 99; refine (cpValue _ _ HD.out).mono ?_; rintro e w' ⟨rfl, rfl⟩)
        go_ret2
        exact ⟨ret_eq H.out, Below.refl _ _⟩
      · have hvl := hexVal_le (btN l k)
        go_wp2_with (go_at_call 99; refine (cpValue _ _ HD.out).mono ?_; rintro e w' ⟨rfl, rfl⟩)
        obtain ⟨d, hd⟩ := Int.eq_ofNat_of_zero_le (show 0 ≤ hexVal (btN l k) by omega)
        go_round
        case rel =>
          refine ⟨k + 1, c * 16 + d, by omega, by go_num, by rw [hd]; rfl, ?_, Lib.hid ?_⟩
          · have := Hc.out; rw [Nat.pow_succ]; omega
          · rw [HB.out, numL_good hlt (by omega), hd]; rfl
        case measure => simp [intOf]; omega
    · have HB' : Hid (numL l 0 = some (c : Int)) := Lib.hid (by rw [HB.out, List.drop_of_length_le (by omega)]; rfl)
      have hc2 : c < 16777216 := Nat.lt_of_lt_of_le hc (Nat.pow_le_pow_right (by omega) (show k ≤ 6 by omega))
      clear HB
      have Hc := Lib.hid hc
      clear hc
      by_cases hh : hexL c = l
      · have H := Lib.hid (parseV_ok (by omega) HB'.out hh)
        go_wp2_with fail
        refine (cpHex _ _ HD.out).mono ?_
        rintro e w1 ⟨rfl, hb1⟩
        have hhs : (hexL c == l) = true := by simp [hh]
        have Hh := Lib.hid hh
        clear hh
        go_wp2_with fail
        go_ret2
        exact ⟨ret_eq H.out, hb1⟩
      · have H := Lib.hid (parseV_hex HB'.out hh)
        go_wp2_with fail
        refine (cpHex _ _ HD.out).mono ?_
        rintro e w1 ⟨rfl, hb1⟩
        have hhs : (hexL c == l) = false := by simpa using hh
        have Hh := Lib.hid hh
        clear hh
        go_wp2_with fail
        go_ret2
        exact ⟨ret_eq H.out, hb1⟩
set_option maxRecDepth 100000 in
theorem rfParse (l : List UInt8) (w : World) (hs : l.length ≤ 9223372036854775807) :
    Calls Tryz.prog 83 #[.string ⟨l.toArray⟩] w fun e w' => e = .returned (parseV l) ∧ w = w' := by
  by_cases h4 : l.length < 4
  · have H := Lib.hid (parseV_len (.inl (by omega)))
    have h4' : decide ((l.length : Int) < 4) = true := by simp; omega
    go_enter Tryz.func83, Tryz.ntmps83
    go_wp2
    go_ret2
    exact ⟨ret_eq H.out, rfl⟩
  have h4' : decide ((l.length : Int) < 4) = false := by simp; omega
  by_cases h6 : 6 < l.length
  · have H := Lib.hid (parseV_len (.inr (by omega)))
    have h6' : decide ((6 : Int) < l.length) = true := by simp; omega
    go_enter Tryz.func83, Tryz.ntmps83
    go_wp2
    go_ret2
    exact ⟨ret_eq H.out, rfl⟩
  have h6' : decide ((6 : Int) < l.length) = false := by simp; omega
  go_enter Tryz.func83, Tryz.ntmps83
  go_wp2
  go_loop [4, 5] (fun x i => ∃ (k : Nat) (c : Nat), k ≤ l.length ∧ i = .int .i64 k ∧ x = .int .i64 c ∧ c < 16 ^ k ∧ Hid (numL l 0 = numL (l.drop k) c)) (fun _ i => l.length - (intOf i).toNat)
  case atStart => exact ⟨0, 0, by omega, rfl, rfl, by simp, rfl⟩
  case round =>
    obtain ⟨k, c, hk, rfl, rfl, hc, HB⟩ := hrel
    by_cases hlt : k < l.length
    · have hc2 : c < 1048576 := Nat.lt_of_lt_of_le hc (Nat.pow_le_pow_right (by omega) (show k ≤ 5 by omega))
      have Hc := Lib.hid hc
      clear hc
      by_cases hv : hexVal (btN l k) < 0
      · have H := Lib.hid (parseV_num (by rw [HB.out, numL_bad hlt hv]))
        go_wp2_with (go_at_call 100; refine (rfDigit _ _).mono ?_; rintro e w' ⟨rfl, rfl⟩)
        go_ret2
        exact ⟨ret_eq H.out, rfl⟩
      · have hvl := hexVal_le (btN l k)
        go_wp2_with (go_at_call 100; refine (rfDigit _ _).mono ?_; rintro e w' ⟨rfl, rfl⟩)
        obtain ⟨d, hd⟩ := Int.eq_ofNat_of_zero_le (show 0 ≤ hexVal (btN l k) by omega)
        go_round
        case rel =>
          refine ⟨k + 1, c * 16 + d, by omega, by go_num, by rw [hd]; go_num, ?_, Lib.hid ?_⟩
          · have := Hc.out; rw [Nat.pow_succ]; omega
          · rw [HB.out, numL_good hlt (by omega), hd]; rfl
        case measure => simp [intOf]; omega
    · have HB' : Hid (numL l 0 = some (c : Int)) := Lib.hid (by rw [HB.out, List.drop_of_length_le (by omega)]; rfl)
      have hc2 : c < 16777216 := Nat.lt_of_lt_of_le hc (Nat.pow_le_pow_right (by omega) (show k ≤ 6 by omega))
      clear HB
      have Hc := Lib.hid hc
      clear hc
      by_cases hh : hexL c = l
      · have H := Lib.hid (parseV_ok (by omega) HB'.out hh)
        go_wp2_with fail
        refine (rfHex _ _).mono ?_
        rintro e w1 ⟨rfl, rfl⟩
        have hhs : (hexL c == l) = true := by simp [hh]
        have Hh := Lib.hid hh
        clear hh
        go_wp2_with fail
        go_ret2
        exact ⟨ret_eq H.out, rfl⟩
      · have H := Lib.hid (parseV_hex HB'.out hh)
        go_wp2_with fail
        refine (rfHex _ _).mono ?_
        rintro e w1 ⟨rfl, rfl⟩
        have hhs : (hexL c == l) = false := by simpa using hh
        have Hh := Lib.hid hh
        clear hh
        go_wp2_with fail
        go_ret2
        exact ⟨ret_eq H.out, rfl⟩
end Go.Proofs.YthogkokifiibnaaGreatDoor
