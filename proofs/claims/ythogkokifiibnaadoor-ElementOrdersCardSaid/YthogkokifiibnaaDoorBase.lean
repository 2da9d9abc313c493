/- Words of this claim's own for memory: a slice of ints that reads as a list; plain lemmas. No program in sight. -/
import Derived.WalkKit
import Derived.Below
import Derived.Deep.Draws
import Derived.Lib.Hide
import Derived.Lib.QuietBelow
namespace Go.Proofs.YthogkokifiibnaaDoor
open Go.RowKit Go.Sort

/-- the k-th number of a list (0 beyond its end) -/
def nth (zs : List Int) (k : Nat) : Int := zs.getD k 0

theorem nth_lt {zs : List Int} {k : Nat} (h : k < zs.length) : nth zs k = zs[k] := by
  unfold nth; rw [List.getD_eq_getElem?_getD, List.getElem?_eq_getElem h]; rfl

theorem drop_nth {zs : List Int} {k : Nat} (h : k < zs.length) : zs.drop k = nth zs k :: zs.drop (k + 1) := by
  rw [nth_lt h]; exact List.drop_eq_getElem_cons h

/-- the slice at A reads as the ints zs -/
def IntsAt (w : World) (A : Option Addr) (zs : List Int) : Prop :=
  0 < zs.length → ∃ b off, A = some ⟨b, off, none⟩ ∧ b < w.heap.size ∧ ∀ j, j < zs.length → w.cell? ⟨b, off + j, none⟩ = some (.int .i64 (nth zs j))

theorem IntsAt.nil {w : World} {A : Option Addr} : IntsAt w A [] := fun h => absurd h (by simp)

theorem IntsAt.keep {w w' : World} {A : Option Addr} {zs : List Int} (h : IntsAt w A zs) (hb : Below w.heap.size w w') : IntsAt w' A zs := by
  intro hz
  obtain ⟨b, off, e, hlt, hc⟩ := h hz
  exact ⟨b, off, e, Nat.lt_of_lt_of_le hlt hb.size, fun j hj => (hb.cell (p := ⟨b, off + j, none⟩) hlt).trans (hc j hj)⟩

theorem IntsAt.at_ {w : World} {A : Option Addr} {zs : List Int} (h : IntsAt w A zs) {k : Nat} (hk : k < zs.length) :
    ∃ b off, A = some ⟨b, off, none⟩ ∧ b < w.heap.size ∧ w.cell? ⟨b, off + k, none⟩ = some (.int .i64 (nth zs k)) := by
  obtain ⟨b, off, e, hlt, hc⟩ := h (by omega)
  exact ⟨b, off, e, hlt, hc k hk⟩

/-- all numbers are ints of 64 bits -/
def WfInts (zs : List Int) : Prop := ∀ z ∈ zs, -9223372036854775808 ≤ z ∧ z ≤ 9223372036854775807

theorem ret_int {k : IntKind} {a b : Int} (h : a = b) : Ending.returned (.int k a) = .returned (.int k b) := by rw [h]
theorem ret_bool {a b : Bool} (h : a = b) : Ending.returned (.bool a) = .returned (.bool b) := by rw [h]

/-- a contract that holds in every world that has grown out of w, met in a region that draws its order -/
theorem callsQ {P : Program} {f : FuncId} {args : Array Value} {w : World} {v : Value} (h : ∀ w', Below w.heap.size w w' → Calls P f args w' fun e w'' => e = .returned v ∧ Below w'.heap.size w' w'') :
    ∀ d os, Calls P f args (grow (redrawn w d) os) fun e w'' => e = .returned v ∧ ∃ p : Regrown, w'' = grow (redrawn w p.d) p.os :=
  fun d os => Calls.regrown_of (h _ (below_regrown w d os))
/-- .. one that leaves the world alone -/
theorem callsS {P : Program} {f : FuncId} {args : Array Value} {w : World} {v : Value} (h : ∀ w', Below w.heap.size w w' → Calls P f args w' fun e w'' => e = .returned v ∧ w' = w'') :
    ∀ d os, Calls P f args (grow (redrawn w d) os) fun e w'' => e = .returned v ∧ ∃ p : Regrown, w'' = grow (redrawn w p.d) p.os :=
  callsQ fun w' hb => (h w' hb).mono fun _ _ ⟨he, hw⟩ => ⟨he, hw ▸ Below.refl _ _⟩

/-- growth upon growth -/
theorem bUp {a b c : World} (h : Below a.heap.size a b) (k : Below b.heap.size b c) : Below a.heap.size a c := h.trans (k.mono h.size)
theorem bBox (w : World) (o : Obj) : Below w.heap.size w (w.alloc o) := (Below.refl _ _).alloc (Nat.le_refl _) _
theorem cell_box (w : World) (c : Array Value) (t : TypeId) (i : Nat) : (w.alloc (.cells c t)).cell? ⟨w.heap.size, i, none⟩ = c[i]? := World.cell?_alloc_new w c t i
theorem cell_keep {w w' : World} {a : Addr} {v : Value} (hb : Below w.heap.size w w') (h : w.cell? a = some v) : w'.cell? a = some v := (hb.cell (block_lt_of_cell h)).trans h
theorem ret_str {a b : List UInt8} (h : a = b) : Ending.returned (.string ⟨a.toArray⟩) = .returned (.string ⟨b.toArray⟩) := by rw [h]
/-- the length of a string in a slot, for a loop's measure -/
def strLen : Value → Nat | .string b => b.size | _ => 0
theorem strLen_mk (l : List UInt8) : strLen (.string ⟨l.toArray⟩) = l.length := by simp [strLen, ByteArray.size]
theorem ba_app (a b : List UInt8) : (⟨a.toArray⟩ : ByteArray) ++ ⟨b.toArray⟩ = ⟨(a ++ b).toArray⟩ := by
  apply ByteArray.ext
  simp
theorem str_app (a b : List UInt8) : Value.string ((⟨a.toArray⟩ : ByteArray) ++ ⟨b.toArray⟩) = .string ⟨(a ++ b).toArray⟩ := by rw [ba_app]
theorem ret_eq {a b : Value} (h : a = b) : Ending.returned b = .returned a := by rw [h]
/-- the k-th byte of a string (0 beyond its end) -/
def btN (l : List UInt8) (k : Nat) : Nat := (l.getD k 0).toNat
theorem btN_lt (l : List UInt8) (k : Nat) : btN l k < 256 := UInt8.toNat_lt _
@[go_sem] theorem ba_get (l : List UInt8) (k : Nat) (h : k < (⟨l.toArray⟩ : ByteArray).size) : ((⟨l.toArray⟩ : ByteArray)[k]'h).toNat = btN l k := by
  have h' : k < l.length := h
  unfold btN
  rw [List.getD_eq_getElem?_getD, List.getElem?_eq_getElem h']
  rfl
theorem btN_get {l : List UInt8} {k : Nat} (h : k < l.length) : btN l k = l[k].toNat := by
  unfold btN
  rw [List.getD_eq_getElem?_getD, List.getElem?_eq_getElem h]
  rfl
theorem bytes_drop {l : List UInt8} {k : Nat} (h : k < l.length) : l.drop k = l[k] :: l.drop (k + 1) := List.drop_eq_getElem_cons h
/-- two new blocks, still there in a world that has grown -/
theorem two_boxes {w w1 : World} {c1 c2 : Array Value} {t1 t2 : TypeId} (hb : Below ((w.alloc (.cells c1 t1)).alloc (.cells c2 t2)).heap.size ((w.alloc (.cells c1 t1)).alloc (.cells c2 t2)) w1) :
    (∀ i, w1.cell? ⟨w.heap.size, i, none⟩ = c1[i]?) ∧ (∀ i, w1.cell? ⟨w.heap.size + 1, i, none⟩ = c2[i]?) ∧ (∀ i, w1.frozen? ⟨w.heap.size, i, none⟩ = false) ∧ (∀ i, w1.frozen? ⟨w.heap.size + 1, i, none⟩ = false) ∧ Below w.heap.size w w1 ∧ w.heap.size + 1 < w1.heap.size := by
  have hs : ((w.alloc (.cells c1 t1)).alloc (.cells c2 t2)).heap.size = w.heap.size + 2 := by simp
  have hs1 : (w.alloc (.cells c1 t1)).heap.size = w.heap.size + 1 := by simp
  refine ⟨fun i => ?_, fun i => ?_, fun i => ?_, fun i => ?_, bUp (bUp (bBox _ _) (bBox _ _)) hb, ?_⟩
  · rw [hb.cell (p := ⟨w.heap.size, i, none⟩) (by rw [hs]; show w.heap.size < _; omega), World.cell?_alloc_past _ _ _ (by rw [hs1]; omega), cell_box]
  · rw [hb.cell (p := ⟨w.heap.size + 1, i, none⟩) (by rw [hs]; show w.heap.size + 1 < _; omega), World.cell?_alloc_at _ _ _ _ hs1.symm]
  · rw [hb.frozen (p := ⟨w.heap.size, i, none⟩) (by rw [hs]; show w.heap.size < _; omega), World.frozen?_alloc_past _ _ _ (by rw [hs1]; omega), World.frozen?_alloc_at _ _ _ _ rfl]
  · rw [hb.frozen (p := ⟨w.heap.size + 1, i, none⟩) (by rw [hs]; show w.heap.size + 1 < _; omega), World.frozen?_alloc_at _ _ _ _ hs1.symm]
  · have := hb.size; omega
theorem bSet2 {B blk : Nat} {w w1 : World} (h : Below B w w1) (hB : B ≤ blk) (u u' : Value) : Below B w ((w1.setCell ⟨blk, 0, none⟩ u).setCell ⟨blk, 1, none⟩ u') :=
  (h.setCell (p := ⟨blk, 0, none⟩) hB u).setCell (p := ⟨blk, 1, none⟩) hB u'
end Go.Proofs.YthogkokifiibnaaDoor
