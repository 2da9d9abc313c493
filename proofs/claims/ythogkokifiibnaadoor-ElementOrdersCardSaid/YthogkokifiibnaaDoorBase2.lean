/- Blocks that are known whole. No program in sight. -/
import Derived.Test.YthogkokifiibnaaDoorBase
import Derived.Lib.Builder
namespace Go.Proofs.YthogkokifiibnaaDoor
open Go.RowKit

/-- block b is just the cells cs, none frozen -/
def Blk (w : World) (b : Nat) (cs : Array Value) (t : TypeId) : Prop := w.heap[b]? = some (.cells cs t (0, 0))
theorem Blk.lt {w : World} {b : Nat} {cs : Array Value} {t : TypeId} (h : Blk w b cs t) : b < w.heap.size := (Array.getElem?_eq_some_iff.1 h).1
theorem Blk.new (w : World) (cs : Array Value) (t : TypeId) : Blk (w.alloc (.cells cs t)) w.heap.size cs t := heap_alloc_new w _
theorem Blk.alloc {w : World} {b : Nat} {cs : Array Value} {t : TypeId} (h : Blk w b cs t) (o : Obj) : Blk (w.alloc o) b cs t := (Below.heap_alloc w o b h.lt).trans h
theorem Blk.keep {w w' : World} {b : Nat} {cs : Array Value} {t : TypeId} (h : Blk w b cs t) (hb : Below w.heap.size w w') : Blk w' b cs t := (hb.block b h.lt).trans h
theorem Blk.keepB {w w' : World} {b B : Nat} {cs : Array Value} {t : TypeId} (h : Blk w b cs t) (hb : Below B w w') (hB : b < B) : Blk w' b cs t := (hb.block b hB).trans h
theorem Blk.cell {w : World} {b : Nat} {cs : Array Value} {t : TypeId} (h : Blk w b cs t) (i : Nat) : w.cell? ⟨b, i, none⟩ = cs[i]? := Lib.cell_of_heap h i
theorem Blk.frozen {w : World} {b : Nat} {cs : Array Value} {t : TypeId} (h : Blk w b cs t) (i : Nat) : w.frozen? ⟨b, i, none⟩ = false := Lib.frozen_of_heap h i
theorem Blk.far {w : World} {b : Nat} {cs : Array Value} {t : TypeId} (h : Blk w b cs t) {p : Addr} (hp : b ≠ p.block) (u : Value) : Blk (w.setCell p u) b cs t := (Below.heap_setCell w p u b hp).trans h
theorem Blk.grown {w w' : World} {b : Nat} {cs : Array Value} {t : TypeId} {row : Option Nat} (h : Blk w b cs t) (hg : w.grownBy w' row) (hne : some b ≠ row) : Blk w' b cs t := (hg.block b h.lt hne).trans h

/-- the bytes from j up to k -/
def seg (l : List UInt8) (j k : Nat) : List UInt8 := (l.drop j).take (k - j)
theorem seg_self (l : List UInt8) (j : Nat) : seg l j j = [] := by simp [seg]
theorem seg_snoc {l : List UInt8} {j k : Nat} (hj : j ≤ k) (hk : k < l.length) : seg l j (k + 1) = seg l j k ++ [l[k]] := by
  unfold seg
  rw [show k + 1 - j = (k - j) + 1 by omega, List.take_succ_eq_append_getElem (by simp; omega)]
  congr 2
  simp only [List.getElem_drop]
  congr 1
  omega
@[go_sem] theorem ba_extract (l : List UInt8) (j k : Nat) : (⟨l.toArray⟩ : ByteArray).extract j k = ⟨(seg l j k).toArray⟩ := by
  apply ByteArray.ext
  simp [seg, ByteArray.data_extract]
theorem seg_end (l : List UInt8) (j : Nat) : seg l j l.length = l.drop j := by
  unfold seg
  exact List.take_of_length_le (by simp)
theorem seg_length {l : List UInt8} {j k : Nat} (h : k ≤ l.length) : (seg l j k).length = k - j := by simp [seg]; omega
end Go.Proofs.YthogkokifiibnaaDoor
