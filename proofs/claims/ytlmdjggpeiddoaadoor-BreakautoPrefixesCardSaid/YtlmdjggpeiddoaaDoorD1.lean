/- Words of this claim's own for memory: a slice of ints that reads as a list; plain lemmas. No program in sight. Blocks that are known whole. No program in sight. Cutting a string at a byte, and splitting it: plain laws that join the library's words to simple recursions. No program in sight. Slices of ints of the call's own, append, reslicing. Slices of strings: read, of the call's own, append of one. Memory of break tables: rows of ints. What a table decides: plain. ref01.Compare and Equal on ints Maps from strings to bools (sets) and to ints, as functions of the key. No program in sight. -/
import Derived.WalkKit
import Derived.Below
import Derived.Deep.Draws
import Derived.Lib.Hide
import Derived.Lib.QuietBelow
import Derived.Lib.Builder
import Derived.Lib.Split
import Derived.Lib.SplitLaws
import Derived.Test.YtlmdjggpeiddoaaDoorProg
import Derived.Maps.AppendAt
import Derived.Deep.RegionHeld
import Derived.Deep.RegionLaw
import Derived.Deep.AppendLies
import Derived.Laws.AppendOwnNone
import Derived.IntWalk
import Derived.BigQuiet
import Derived.Deep.QuietTactic
import Derived.Maps.OwnOps
import Derived.Maps.OwnSet
import Derived.StringKeys
namespace Go.Proofs.YtlmdjggpeiddoaaDoor
open Go.RowKit Go.Sort

/-- the k-th number of a list (0 beyond its end) -/
def nth (zs : List Int) (k : Nat) : Int := zs.getD k 0

theorem nth_lt {zs : List Int} {k : Nat} (h : k < zs.length) : nth zs k = zs[k] := by
  unfold nth; rw [List.getD_eq_getElem?_getD, List.getElem?_eq_getElem h]; rfl

theorem drop_nth {zs : List Int} {k : Nat} (h : k < zs.length) : zs.drop k = nth zs k :: zs.drop (k + 1) := by
  rw [nth_lt h]; exact List.drop_eq_getElem_cons h

/-- the slice at A reads as the ints zs -/
def IntsAt (w : World) (A : Option Addr) (zs : List Int) : Prop :=
  0 < zs.length → ∃ b off, A = some ⟨b, off, none⟩ ∧ b < w.heap.size ∧ ∀ j, j < zs.length → w.cell? ⟨b, off + j, none⟩ = some (.int .i64 (nth zs j))

theorem IntsAt.nil {w : World} {A : Option Addr} : IntsAt w A [] := fun h => absurd h (by simp)

theorem IntsAt.keep {w w' : World} {A : Option Addr} {zs : List Int} (h : IntsAt w A zs) (hb : Below w.heap.size w w') : IntsAt w' A zs := by
  intro hz
  obtain ⟨b, off, e, hlt, hc⟩ := h hz
  exact ⟨b, off, e, Nat.lt_of_lt_of_le hlt hb.size, fun j hj => (hb.cell (p := ⟨b, off + j, none⟩) hlt).trans (hc j hj)⟩

theorem IntsAt.at_ {w : World} {A : Option Addr} {zs : List Int} (h : IntsAt w A zs) {k : Nat} (hk : k < zs.length) :
    ∃ b off, A = some ⟨b, off, none⟩ ∧ b < w.heap.size ∧ w.cell? ⟨b, off + k, none⟩ = some (.int .i64 (nth zs k)) := by
  obtain ⟨b, off, e, hlt, hc⟩ := h (by omega)
  exact ⟨b, off, e, hlt, hc k hk⟩

/-- all numbers are ints of 64 bits -/
def WfInts (zs : List Int) : Prop := ∀ z ∈ zs, -9223372036854775808 ≤ z ∧ z ≤ 9223372036854775807

theorem ret_int {k : IntKind} {a b : Int} (h : a = b) : Ending.returned (.int k a) = .returned (.int k b) := by rw [h]
theorem ret_bool {a b : Bool} (h : a = b) : Ending.returned (.bool a) = .returned (.bool b) := by rw [h]

/-- a contract that holds in every world that has grown out of w, met in a region that draws its order -/
theorem callsQ {P : Program} {f : FuncId} {args : Array Value} {w : World} {v : Value} (h : ∀ w', Below w.heap.size w w' → Calls P f args w' fun e w'' => e = .returned v ∧ Below w'.heap.size w' w'') :
    ∀ d os, Calls P f args (grow (redrawn w d) os) fun e w'' => e = .returned v ∧ ∃ p : Regrown, w'' = grow (redrawn w p.d) p.os :=
  fun d os => Calls.regrown_of (h _ (below_regrown w d os))
/-- .. one that leaves the world alone -/
theorem callsS {P : Program} {f : FuncId} {args : Array Value} {w : World} {v : Value} (h : ∀ w', Below w.heap.size w w' → Calls P f args w' fun e w'' => e = .returned v ∧ w' = w'') :
    ∀ d os, Calls P f args (grow (redrawn w d) os) fun e w'' => e = .returned v ∧ ∃ p : Regrown, w'' = grow (redrawn w p.d) p.os :=
  callsQ fun w' hb => (h w' hb).mono fun _ _ ⟨he, hw⟩ => ⟨he, hw ▸ Below.refl _ _⟩

/-- growth upon growth -/
theorem bUp {a b c : World} (h : Below a.heap.size a b) (k : Below b.heap.size b c) : Below a.heap.size a c := h.trans (k.mono h.size)
theorem bBox (w : World) (o : Obj) : Below w.heap.size w (w.alloc o) := (Below.refl _ _).alloc (Nat.le_refl _) _
theorem cell_box (w : World) (c : Array Value) (t : TypeId) (i : Nat) : (w.alloc (.cells c t)).cell? ⟨w.heap.size, i, none⟩ = c[i]? := World.cell?_alloc_new w c t i
theorem cell_keep {w w' : World} {a : Addr} {v : Value} (hb : Below w.heap.size w w') (h : w.cell? a = some v) : w'.cell? a = some v := (hb.cell (block_lt_of_cell h)).trans h
theorem ret_str {a b : List UInt8} (h : a = b) : Ending.returned (.string ⟨a.toArray⟩) = .returned (.string ⟨b.toArray⟩) := by rw [h]
/-- the length of a string in a slot, for a loop's measure -/
def strLen : Value → Nat | .string b => b.size | _ => 0
theorem strLen_mk (l : List UInt8) : strLen (.string ⟨l.toArray⟩) = l.length := by simp [strLen, ByteArray.size]
theorem ba_app (a b : List UInt8) : (⟨a.toArray⟩ : ByteArray) ++ ⟨b.toArray⟩ = ⟨(a ++ b).toArray⟩ := by
  apply ByteArray.ext
  simp
theorem str_app (a b : List UInt8) : Value.string ((⟨a.toArray⟩ : ByteArray) ++ ⟨b.toArray⟩) = .string ⟨(a ++ b).toArray⟩ := by rw [ba_app]
theorem ret_eq {a b : Value} (h : a = b) : Ending.returned b = .returned a := by rw [h]
/-- the k-th byte of a string (0 beyond its end) -/
def btN (l : List UInt8) (k : Nat) : Nat := (l.getD k 0).toNat
theorem btN_lt (l : List UInt8) (k : Nat) : btN l k < 256 := UInt8.toNat_lt _
@[go_sem] theorem ba_get (l : List UInt8) (k : Nat) (h : k < (⟨l.toArray⟩ : ByteArray).size) : ((⟨l.toArray⟩ : ByteArray)[k]'h).toNat = btN l k := by
  have h' : k < l.length := h
  unfold btN
  rw [List.getD_eq_getElem?_getD, List.getElem?_eq_getElem h']
  rfl
theorem btN_get {l : List UInt8} {k : Nat} (h : k < l.length) : btN l k = l[k].toNat := by
  unfold btN
  rw [List.getD_eq_getElem?_getD, List.getElem?_eq_getElem h]
  rfl
theorem bytes_drop {l : List UInt8} {k : Nat} (h : k < l.length) : l.drop k = l[k] :: l.drop (k + 1) := List.drop_eq_getElem_cons h
/-- two new blocks, still there in a world that has grown -/
theorem two_boxes {w w1 : World} {c1 c2 : Array Value} {t1 t2 : TypeId} (hb : Below ((w.alloc (.cells c1 t1)).alloc (.cells c2 t2)).heap.size ((w.alloc (.cells c1 t1)).alloc (.cells c2 t2)) w1) :
    (∀ i, w1.cell? ⟨w.heap.size, i, none⟩ = c1[i]?) ∧ (∀ i, w1.cell? ⟨w.heap.size + 1, i, none⟩ = c2[i]?) ∧ (∀ i, w1.frozen? ⟨w.heap.size, i, none⟩ = false) ∧ (∀ i, w1.frozen? ⟨w.heap.size + 1, i, none⟩ = false) ∧ Below w.heap.size w w1 ∧ w.heap.size + 1 < w1.heap.size := by
  have hs : ((w.alloc (.cells c1 t1)).alloc (.cells c2 t2)).heap.size = w.heap.size + 2 := by simp
  have hs1 : (w.alloc (.cells c1 t1)).heap.size = w.heap.size + 1 := by simp
  refine ⟨fun i => ?_, fun i => ?_, fun i => ?_, fun i => ?_, bUp (bUp (bBox _ _) (bBox _ _)) hb, ?_⟩
  · rw [hb.cell (p := ⟨w.heap.size, i, none⟩) (by rw [hs]; show w.heap.size < _; omega), World.cell?_alloc_past _ _ _ (by rw [hs1]; omega), cell_box]
  · rw [hb.cell (p := ⟨w.heap.size + 1, i, none⟩) (by rw [hs]; show w.heap.size + 1 < _; omega), World.cell?_alloc_at _ _ _ _ hs1.symm]
  · rw [hb.frozen (p := ⟨w.heap.size, i, none⟩) (by rw [hs]; show w.heap.size < _; omega), World.frozen?_alloc_past _ _ _ (by rw [hs1]; omega), World.frozen?_alloc_at _ _ _ _ rfl]
  · rw [hb.frozen (p := ⟨w.heap.size + 1, i, none⟩) (by rw [hs]; show w.heap.size + 1 < _; omega), World.frozen?_alloc_at _ _ _ _ hs1.symm]
  · have := hb.size; omega
theorem bSet2 {B blk : Nat} {w w1 : World} (h : Below B w w1) (hB : B ≤ blk) (u u' : Value) : Below B w ((w1.setCell ⟨blk, 0, none⟩ u).setCell ⟨blk, 1, none⟩ u') :=
  (h.setCell (p := ⟨blk, 0, none⟩) hB u).setCell (p := ⟨blk, 1, none⟩) hB u'
end Go.Proofs.YtlmdjggpeiddoaaDoor
namespace Go.Proofs.YtlmdjggpeiddoaaDoor
open Go.RowKit

/-- block b is just the cells cs, none frozen -/
def Blk (w : World) (b : Nat) (cs : Array Value) (t : TypeId) : Prop := w.heap[b]? = some (.cells cs t (0, 0))
theorem Blk.lt {w : World} {b : Nat} {cs : Array Value} {t : TypeId} (h : Blk w b cs t) : b < w.heap.size := (Array.getElem?_eq_some_iff.1 h).1
theorem Blk.new (w : World) (cs : Array Value) (t : TypeId) : Blk (w.alloc (.cells cs t)) w.heap.size cs t := heap_alloc_new w _
theorem Blk.alloc {w : World} {b : Nat} {cs : Array Value} {t : TypeId} (h : Blk w b cs t) (o : Obj) : Blk (w.alloc o) b cs t := (Below.heap_alloc w o b h.lt).trans h
theorem Blk.keep {w w' : World} {b : Nat} {cs : Array Value} {t : TypeId} (h : Blk w b cs t) (hb : Below w.heap.size w w') : Blk w' b cs t := (hb.block b h.lt).trans h
theorem Blk.keepB {w w' : World} {b B : Nat} {cs : Array Value} {t : TypeId} (h : Blk w b cs t) (hb : Below B w w') (hB : b < B) : Blk w' b cs t := (hb.block b hB).trans h
theorem Blk.cell {w : World} {b : Nat} {cs : Array Value} {t : TypeId} (h : Blk w b cs t) (i : Nat) : w.cell? ⟨b, i, none⟩ = cs[i]? := Lib.cell_of_heap h i
theorem Blk.frozen {w : World} {b : Nat} {cs : Array Value} {t : TypeId} (h : Blk w b cs t) (i : Nat) : w.frozen? ⟨b, i, none⟩ = false := Lib.frozen_of_heap h i
theorem Blk.far {w : World} {b : Nat} {cs : Array Value} {t : TypeId} (h : Blk w b cs t) {p : Addr} (hp : b ≠ p.block) (u : Value) : Blk (w.setCell p u) b cs t := (Below.heap_setCell w p u b hp).trans h
theorem Blk.grown {w w' : World} {b : Nat} {cs : Array Value} {t : TypeId} {row : Option Nat} (h : Blk w b cs t) (hg : w.grownBy w' row) (hne : some b ≠ row) : Blk w' b cs t := (hg.block b h.lt hne).trans h

/-- the bytes from j up to k -/
def seg (l : List UInt8) (j k : Nat) : List UInt8 := (l.drop j).take (k - j)
theorem seg_self (l : List UInt8) (j : Nat) : seg l j j = [] := by simp [seg]
theorem seg_snoc {l : List UInt8} {j k : Nat} (hj : j ≤ k) (hk : k < l.length) : seg l j (k + 1) = seg l j k ++ [l[k]] := by
  unfold seg
  rw [show k + 1 - j = (k - j) + 1 by omega, List.take_succ_eq_append_getElem (by simp; omega)]
  congr 2
  simp only [List.getElem_drop]
  congr 1
  omega
@[go_sem] theorem ba_extract (l : List UInt8) (j k : Nat) : (⟨l.toArray⟩ : ByteArray).extract j k = ⟨(seg l j k).toArray⟩ := by
  apply ByteArray.ext
  simp [seg, ByteArray.data_extract]
theorem seg_end (l : List UInt8) (j : Nat) : seg l j l.length = l.drop j := by
  unfold seg
  exact List.take_of_length_le (by simp)
theorem seg_length {l : List UInt8} {j k : Nat} (h : k ≤ l.length) : (seg l j k).length = k - j := by simp [seg]; omega
end Go.Proofs.YtlmdjggpeiddoaaDoor
namespace Go.Proofs.YtlmdjggpeiddoaaDoor

def cutB (c : UInt8) : List UInt8 → Option (List UInt8 × List UInt8)
  | [] => none
  | b :: l => if b = c then some ([], l) else (cutB c l).map fun p => (b :: p.1, p.2)
/-- the pieces between the bytes c -/
def splitL (c : UInt8) : List UInt8 → List (List UInt8)
  | [] => [[]]
  | b :: l => if b = c then [] :: splitL c l else match splitL c l with | p :: ps => (b :: p) :: ps | [] => [[b]]

theorem splitL_ne (c : UInt8) : ∀ l, splitL c l ≠ []
  | [] => by simp [splitL]
  | b :: l => by
    unfold splitL
    split
    · simp
    · split <;> simp
theorem cutB_some {c : UInt8} : ∀ {l a r : List UInt8}, cutB c l = some (a, r) → l = a ++ c :: r ∧ c ∉ a
  | [], _, _, h => by simp [cutB] at h
  | b :: l, a, r, h => by
    unfold cutB at h
    split at h
    · rename_i hb
      cases h
      exact ⟨by simp [hb], by simp⟩
    · rename_i hb
      cases hc : cutB c l with
      | none => rw [hc] at h; simp at h
      | some p =>
        obtain ⟨a', r'⟩ := p
        rw [hc] at h
        simp at h
        obtain ⟨rfl, rfl⟩ := h
        obtain ⟨e, hn⟩ := cutB_some hc
        exact ⟨by rw [e]; rfl, by simp [hn, Ne.symm hb]⟩
theorem cutB_none {c : UInt8} : ∀ {l : List UInt8}, cutB c l = none ↔ c ∉ l
  | [] => by simp [cutB]
  | b :: l => by
    unfold cutB
    split
    · rename_i hb; simp [hb]
    · rename_i hb
      simp [cutB_none (l := l), Ne.symm hb]
theorem index_cut (c : UInt8) : ∀ l, Lib.index l [c] = match cutB c l with | some p => (p.1.length : Int) | none => -1
  | [] => by simp [Lib.index, cutB]
  | b :: l => by
    unfold Lib.index cutB
    rw [index_cut c l]
    by_cases hb : b = c
    · simp [hb, List.isPrefixOf]
    · have hp : ([c] : List UInt8).isPrefixOf (b :: l) = false := by simp [List.isPrefixOf, Ne.symm hb]
      rw [hp, if_neg hb]
      cases hc : cutB c l with
      | none => simp
      | some p => simp
theorem lib_cut (c : UInt8) (l : List UInt8) : Lib.cut l [c] = match cutB c l with | some p => (p.1, p.2, true) | none => (l, [], false) := by
  unfold Lib.cut
  rw [index_cut]
  cases hc : cutB c l with
  | none => simp
  | some p =>
    obtain ⟨a, r⟩ := p
    obtain ⟨e, _⟩ := cutB_some hc
    simp [e]
theorem splitL_hit (c : UInt8) (l : List UInt8) : splitL c (c :: l) = [] :: splitL c l := by rw [splitL, if_pos rfl]
theorem splitL_miss {b c : UInt8} (hb : ¬ b = c) (l : List UInt8) : splitL c (b :: l) = match splitL c l with | p :: ps => (b :: p) :: ps | [] => [[b]] := by rw [splitL, if_neg hb]
theorem splitL_cut (c : UInt8) : ∀ l, splitL c l = match cutB c l with | some p => p.1 :: splitL c p.2 | none => [l]
  | [] => by simp [splitL, cutB]
  | b :: l => by
    by_cases hb : b = c
    · subst hb
      rw [splitL_hit, cutB, if_pos rfl]
    · rw [splitL_miss hb, cutB, if_neg hb, splitL_cut c l]
      cases hc : cutB c l <;> rfl
theorem splitK_one (c : UInt8) : ∀ (n : Nat) (l : List UInt8), l.length ≤ n → Lib.splitK [c] 0 (l.count c) l = splitL c l
  | 0, l, h => by
    have : l = [] := List.eq_nil_of_length_eq_zero (by omega)
    subst this
    simp [Lib.splitK, splitL]
  | n + 1, l, h => by
    rw [splitL_cut]
    cases hc : cutB c l with
    | none =>
      have hn := cutB_none.1 hc
      rw [List.count_eq_zero.2 hn]
      rfl
    | some p =>
      obtain ⟨a, r⟩ := p
      obtain ⟨e, hn⟩ := cutB_some hc
      have hcount : l.count c = r.count c + 1 := by rw [e, List.count_append, List.count_eq_zero.2 hn, List.count_cons_self]; omega
      have hi : Lib.index l [c] = (a.length : Int) := by rw [index_cut, hc]
      have hlen : r.length ≤ n := by rw [e] at h; simp at h; omega
      rw [hcount, Lib.splitK, hi, if_neg (by simp)]
      simp only [Int.toNat_natCast, List.length_singleton, Nat.add_zero]
      rw [e, List.take_left' rfl, List.drop_append, List.drop_of_length_le (by omega)]
      simp
      exact splitK_one c n r hlen
theorem splitB_one (c : UInt8) (l : List UInt8) : ((Lib.splitB ⟨#[c]⟩ 0 (Lib.countB ⟨l.toArray⟩ ⟨#[c]⟩) ⟨l.toArray⟩).map Value.string) = (splitL c l).map fun p => Value.string ⟨p.toArray⟩ := by
  have h := Lib.splitB_data ⟨#[c]⟩ 0 (Lib.countB ⟨l.toArray⟩ ⟨#[c]⟩) ⟨l.toArray⟩
  have hc : Lib.countB ⟨l.toArray⟩ ⟨#[c]⟩ = l.count c := Lib.count_one c l
  rw [hc] at h ⊢
  have h' := h.trans (splitK_one c l.length l (Nat.le_refl _))
  rw [← h', List.map_map]
  apply List.map_congr_left
  intro s _
  rfl
theorem splitL_length (c : UInt8) : ∀ l, (splitL c l).length = l.count c + 1
  | [] => by simp [splitL]
  | b :: l => by
    have ih := splitL_length c l
    by_cases hb : b = c
    · subst hb
      rw [splitL_hit, List.length_cons, ih, List.count_cons_self]
    · have hc : (b :: l).count c = l.count c := List.count_cons_of_ne hb
      rw [splitL_miss hb, hc, ← ih]
      cases hs : splitL c l with
      | nil => exact absurd hs (splitL_ne c l)
      | cons p ps => rfl
end Go.Proofs.YtlmdjggpeiddoaaDoor
namespace Go.Proofs.YtlmdjggpeiddoaaDoor
open Go.RowKit Go.Sort

theorem infoInt : (Tryd.prog.info? 3).map (fun i => (i.zero, i.size, i.bytes)) = some (some (.int .i64 0), 1, 8) := by kernel_rfl
theorem bcell {W w1 : World} (hb : Below W.heap.size W w1) : (∀ b o, b < W.heap.size → w1.cell? ⟨b, o, none⟩ = W.cell? ⟨b, o, none⟩) ∧ (∀ b o, b < W.heap.size → w1.frozen? ⟨b, o, none⟩ = W.frozen? ⟨b, o, none⟩) :=
  ⟨fun b o h => hb.cell (p := ⟨b, o, none⟩) h, fun b o h => hb.frozen (p := ⟨b, o, none⟩) h⟩
def intVals (zs : List Int) : List Value := zs.map (Value.int .i64)
/-- v is a slice of the call's own, from block base on, that holds zs -/
def OwnI (w : World) (base : Nat) (v : Value) (zs : List Int) : Prop := w.ownsRow base 3 1 v zs.length (intVals zs)
theorem OwnI.nil (w : World) (base : Nat) : OwnI w base (.slice none 0 0) [] := ⟨by simp [intVals], .inl ⟨rfl, by simp⟩⟩
theorem OwnI.form {w : World} {base : Nat} {v : Value} {zs : List Int} (h : OwnI w base v zs) : ∃ A c, v = .slice A zs.length c := by
  rcases h.2 with ⟨hv, h0⟩ | ⟨g, cap, cur, hv, _⟩
  · exact ⟨none, 0, by rw [hv, h0]⟩
  · exact ⟨_, _, hv⟩
theorem OwnI.ints {w : World} {base : Nat} {A : Option Addr} {c : Nat} {zs : List Int} (h : OwnI w base (.slice A zs.length c) zs) : IntsAt w A zs := by
  intro hn
  obtain ⟨g, cap, hv, _, hlt⟩ := World.ownsRow.form h hn
  have hA : A = some ⟨g, 0, none⟩ := by injection hv
  subst hA
  refine ⟨g, 0, rfl, hlt, fun j hj => ?_⟩
  have := World.ownsRow.cells h (g := g) rfl j (.int .i64 (nth zs j)) (by simp [intVals, nth, hj])
  rwa [Go.WideShapes.add_plain] at this
theorem OwnI.keep {w w' : World} {base : Nat} {v : Value} {zs : List Int} (h : OwnI w base v zs) (hb : Below w.heap.size w w') : OwnI w' base v zs :=
  World.ownsRow.kept h ⟨hb.os, hb.tape, hb.output, hb.size, fun i hi _ => hb.block i hi⟩ (row := none) (by cases v.ownBlock <;> simp)
/-- append(v, news...) where the new ints lie in the newest block -/
theorem appendI {w : World} {base : Nat} {v : Value} {zs : List Int} (h : OwnI w base v zs) (news : List Int) (hl : zs.length + news.length ≤ 1000000) (hb : base ≤ w.heap.size) (W : World) (hW : W.heap = (w.alloc (.cells (intVals news).toArray 3)).heap) (hos : W.os = w.os) (hta : W.tape = w.tape) (hou : W.output = w.output) :
    ∃ v' w', (Builtin.append_ #[23, 23] 23 #[v, .slice (some ⟨w.heap.size, 0, none⟩) news.length news.length]).run Tryd.prog W = .ok v' w' ∧ Hid (OwnI w' base v' (zs ++ news)) ∧ ∀ w0, Below base w0 w → Below base w0 w' := by
  obtain ⟨i0, hi, hz0, hz1, hz2⟩ := info_parts infoInt
  have hblk : W.heap[w.heap.size]? = some (.cells (intVals news).toArray 3 (0, 0)) := by rw [hW]; exact heap_alloc_new w _
  have hbw : Below w.heap.size w W := ⟨hos, hta, hou, by rw [hW]; simp, fun k hk => by rw [hW]; exact Below.heap_alloc _ _ _ hk⟩
  have hown : W.ownsRow base 3 1 v zs.length (intVals zs) := h.keep hbw
  obtain ⟨v', w', hrun, hown', hg, _⟩ := run_append_own_at (P := Tryd.prog) W base 23 23 3 i0 (.int .i64 0) 1 8 Tryd.underlying23 hi hz0 hz1 hz2 rfl (by decide) v zs.length (intVals zs) hown ⟨w.heap.size, 0, none⟩ news.length news.length (intVals news)
    (by simp [intVals]) (fun j u hu => by rw [Go.WideShapes.add_plain, Lib.cell_of_heap hblk]; simpa using hu) (fun u hu => by simp [intVals] at hu; obtain ⟨x, _, rfl⟩ := hu; rfl) (by unfold maxLen; omega) (by omega) (Nat.le_trans hb hbw.size)
  refine ⟨v', w', hrun, Lib.hid ?_, fun w0 h0 => ?_⟩
  · unfold OwnI
    rw [List.length_append]
    simpa [intVals] using hown'
  · exact (h0.trans (hbw.mono hb)).grown hg (Nat.le_trans hb hbw.size) (fun k hk => (hown.lt k hk).1)

theorem OwnI.set2 {w : World} {base : Nat} {A : Option Addr} {c : Nat} {zs : List Int} {blk : Nat} (h : OwnI w base (.slice A zs.length c) zs) (hb : blk < base) (u u' : Value) : IntsAt ((w.setCell ⟨blk, 0, none⟩ u).setCell ⟨blk, 1, none⟩ u') A zs := by
  intro hn
  obtain ⟨g, cap, hv, hg, _⟩ := World.ownsRow.form h hn
  obtain ⟨b, off, hA, hlt, hc⟩ := h.ints hn
  have hgb : g = b := by injection hv with h1; rw [hA] at h1; injection h1 with h2; injection h2 with h3; exact h3.symm
  refine ⟨b, off, hA, by simpa using hlt, fun j hj => ?_⟩
  rw [World.cell?_setCell_far _ _ _ _ (by show blk ≠ b; omega), World.cell?_setCell_far _ _ _ _ (by show blk ≠ b; omega)]
  exact hc j hj
/-- append(v, news...) where the new ints lie somewhere -/
theorem appendS {W : World} {base : Nat} {v : Value} {zs : List Int} (h : OwnI W base v zs) {B : Option Addr} {news : List Int} (c2 : Nat) (hB : IntsAt W B news) (hn : 0 < news.length) (hl : zs.length + news.length ≤ 1000000) (hb : base ≤ W.heap.size) :
    ∃ v' w', (Builtin.append_ #[23, 23] 23 #[v, .slice B news.length c2]).run Tryd.prog W = .ok v' w' ∧ Hid (OwnI w' base v' (zs ++ news)) ∧ ∀ w0, Below base w0 W → Below base w0 w' := by
  obtain ⟨i0, hi, hz0, hz1, hz2⟩ := info_parts infoInt
  obtain ⟨b, off, rfl, hlt, hc⟩ := hB hn
  obtain ⟨v', w', hrun, hown', hg, _⟩ := run_append_own_at (P := Tryd.prog) W base 23 23 3 i0 (.int .i64 0) 1 8 Tryd.underlying23 hi hz0 hz1 hz2 rfl (by decide) v zs.length (intVals zs) h ⟨b, off, none⟩ news.length c2 (intVals news)
    (by simp [intVals]) (fun j u hu => by
      have hj : j < news.length := by simpa [intVals] using (List.getElem?_eq_some_iff.1 hu).1
      rw [Go.WideShapes.add_plain, hc j hj]
      simpa [intVals, nth, hj] using hu) (fun u hu => by simp [intVals] at hu; obtain ⟨x, _, rfl⟩ := hu; rfl) (by unfold maxLen; omega) (by omega) hb
  refine ⟨v', w', hrun, Lib.hid ?_, fun w0 h0 => ?_⟩
  · unfold OwnI
    rw [List.length_append]
    simpa [intVals] using hown'
  · exact h0.grown hg hb (fun k hk => (h.lt k hk).1)

theorem ints_new (w : World) (news : List Int) (t : TypeId) : IntsAt (w.alloc (.cells (intVals news).toArray t)) (some ⟨w.heap.size, 0, none⟩) news := by
  intro _
  refine ⟨w.heap.size, 0, rfl, by simp, fun j hj => ?_⟩
  rw [cell_box]
  simp [intVals, nth, hj]
/-- the same, as a step of a walk -/
theorem wpI {ops : Array Oper} {rest : List Oper} {o : Oper} {a : Act} {Q : Exit → Act → World → Prop} {W : World} (hgd : o.guard = none) (s x : Operand) (ho : o.op = .call { callee := .builtin .append, args := #[s, x], argTypes := #[23, 23] })
    (base : Nat) {v : Value} {zs : List Int} (hs : a.eval s = v) (h : OwnI W base v zs) {B : Option Addr} (news : List Int) {c2 : Nat} (hx : a.eval x = .slice B news.length c2) (hB : IntsAt W B news) (hn : 0 < news.length) (hl : zs.length + news.length ≤ 1000000) (hb : base ≤ W.heap.size)
    (hK : ∀ v' w', Hid (OwnI w' base v' (zs ++ news)) → (∀ w0, Below base w0 W → Below base w0 w') → wpList Tryd.prog ops Q rest (a.put o.dst v') w') : wpList Tryd.prog ops Q (o :: rest) a W := by
  obtain ⟨i0, hi, hz0, hz1, hz2⟩ := info_parts infoInt
  obtain ⟨b, off, rfl, hlt, hc⟩ := hB hn
  refine wpList_append_own W hgd s x 23 ho base 3 i0 (.int .i64 0) 1 8 Tryd.underlying23 hi hz0 hz1 hz2 rfl (by decide) v zs.length (intVals zs) hs h ⟨b, off, none⟩ news.length c2 (intVals news) hx
    (by simp [intVals]) (fun j u hu => by
      have hj : j < news.length := by simpa [intVals] using (List.getElem?_eq_some_iff.1 hu).1
      rw [Go.WideShapes.add_plain, hc j hj]
      simpa [intVals, nth, hj] using hu) (fun u hu => by simp [intVals] at hu; obtain ⟨x, _, rfl⟩ := hu; rfl) (by unfold maxLen; omega) (by omega) hb ?_
  intro v' w' hown' hg _
  refine hK v' w' (Lib.hid ?_) (fun w0 h0 => ?_)
  · unfold OwnI
    rw [List.length_append]
    simpa [intVals] using hown'
  · exact h0.grown hg hb (fun k hk => (h.lt k hk).1)

theorem stepI {ops : Array Oper} {o : Oper} {a : Act} {K : Act → World → Prop} {Q : Exit → Act → World → Prop} {E : Prop} {W : World} (hgd : o.guard = none) (s x : Operand) (ho : o.op = .call { callee := .builtin .append, args := #[s, x], argTypes := #[23, 23] })
    (base : Nat) {v : Value} {zs : List Int} (hs : a.eval s = v) (h : OwnI W base v zs) {B : Option Addr} (news : List Int) {c2 : Nat} (hx : a.eval x = .slice B news.length c2) (hB : IntsAt W B news) (hn : 0 < news.length) (hl : zs.length + news.length ≤ 1000000) (hb : base ≤ W.heap.size)
    (hK : ∀ v' w', Hid (OwnI w' base v' (zs ++ news)) → (∀ w0, Below base w0 W → Below base w0 w') → K (a.put o.dst v') w') : if Region.wanted o (yielded ops a.tmps) = true then Oper.wp Tryd.prog o a W K Q else E := by
  rw [if_pos (by simp [Region.wanted, hgd])]
  obtain ⟨i0, hi, hz0, hz1, hz2⟩ := info_parts infoInt
  obtain ⟨b, off, rfl, hlt, hc⟩ := hB hn
  refine wp_append_own W s x 23 ho base 3 i0 (.int .i64 0) 1 8 Tryd.underlying23 hi hz0 hz1 hz2 rfl (by decide) v zs.length (intVals zs) hs h ⟨b, off, none⟩ news.length c2 (intVals news) hx
    (by simp [intVals]) (fun j u hu => by
      have hj : j < news.length := by simpa [intVals] using (List.getElem?_eq_some_iff.1 hu).1
      rw [Go.WideShapes.add_plain, hc j hj]
      simpa [intVals, nth, hj] using hu) (fun u hu => by simp [intVals] at hu; obtain ⟨x, _, rfl⟩ := hu; rfl) (by unfold maxLen; omega) (by omega) hb ?_
  intro v' w' hown' hg _
  refine hK v' w' (Lib.hid ?_) (fun w0 h0 => ?_)
  · unfold OwnI
    rw [List.length_append]
    simpa [intVals] using hown'
  · exact h0.grown hg hb (fun k hk => (h.lt k hk).1)

/-- append(v, news...), the new ints somewhere, or none at all -/
theorem wpA {ops : Array Oper} {rest : List Oper} {o : Oper} {a : Act} {Q : Exit → Act → World → Prop} {W : World} (hgd : o.guard = none) (s x : Operand) (ho : o.op = .call { callee := .builtin .append, args := #[s, x], argTypes := #[23, 23] })
    (base : Nat) {v : Value} {zs : List Int} (hs : a.eval s = v) (h : OwnI W base v zs) {B : Option Addr} (news : List Int) {c2 : Nat} (hx : a.eval x = .slice B news.length c2) (hB : IntsAt W B news) (hcB : B = none → c2 = 0) (hl : zs.length + news.length ≤ 1000000) (hb : base ≤ W.heap.size)
    (hK : ∀ v' w', Hid (OwnI w' base v' (zs ++ news)) → (∀ w0, Below base w0 W → Below base w0 w') → wpList Tryd.prog ops Q rest (a.put o.dst v') w') : wpList Tryd.prog ops Q (o :: rest) a W := by
  by_cases hn : 0 < news.length
  · exact wpI hgd s x ho base hs h news hx hB hn hl hb hK
  · obtain rfl : news = [] := List.length_eq_zero_iff.1 (by omega)
    obtain ⟨i0, hi, hz0, hz1, hz2⟩ := info_parts infoInt
    cases B with
    | none =>
      obtain rfl : c2 = 0 := hcB rfl
      refine wpList_append_own_none hgd s x 23 ho base 3 i0 1 Tryd.underlying23 hi v zs.length (intVals zs) hs h hx ?_
      exact hK v W (Lib.hid (by rw [List.append_nil]; exact h)) (fun _ h0 => h0)
    | some ad =>
      refine wpList_append_own W hgd s x 23 ho base 3 i0 (.int .i64 0) 1 8 Tryd.underlying23 hi hz0 hz1 hz2 rfl (by decide) v zs.length (intVals zs) hs h ad 0 c2 [] hx rfl (fun j u hu => by simp at hu) (fun u hu => by cases hu) (by unfold maxLen; simp at hl; omega) (by simp at hl; omega) hb ?_
      intro v' w' hown' hg _
      refine hK v' w' (Lib.hid ?_) (fun w0 h0 => ?_)
      · unfold OwnI
        simpa [intVals] using hown'
      · exact h0.grown hg hb (fun k hk => (h.lt k hk).1)
theorem OwnI.empty (w : World) (base : Nat) (hb : base ≤ w.heap.size) : OwnI (w.alloc (.cells #[] 3)) base (.slice (some ⟨w.heap.size, 0, none⟩) 0 0) [] :=
  ⟨rfl, .inr ⟨w.heap.size, 0, #[], rfl, hb, heap_alloc_new w _, Nat.le_refl _, Nat.zero_le _, rfl, rfl⟩⟩
theorem OwnI.mono {w : World} {base base' : Nat} {v : Value} {zs : List Int} (h : OwnI w base v zs) (hb : base' ≤ base) : OwnI w base' v zs := by
  refine ⟨h.1, ?_⟩
  rcases h.2 with h | ⟨g, cap, cur, hv, hg, r⟩
  · exact .inl h
  · exact .inr ⟨g, cap, cur, hv, Nat.le_trans hb hg, r⟩
theorem OwnI.cap {w : World} {base : Nat} {A : Option Addr} {c : Nat} {zs : List Int} (h : OwnI w base (.slice A zs.length c) zs) : (A = none → c = 0) ∧ zs.length ≤ c := by
  rcases h.2 with ⟨hv, h0⟩ | ⟨g, cap, cur, hv, _, _, h1, _⟩
  · injection hv with e1 _ e3
    exact ⟨fun _ => e3, by omega⟩
  · injection hv with e1 _ e3
    refine ⟨fun e => ?_, by omega⟩
    rw [e1] at e
    cases e

theorem sizeElemInt (w : World) : (sizeOf (Tryd.prog.elem 23)).run Tryd.prog w = .ok 1 w := by kernel_rfl
theorem elemInt : Tryd.prog.underlying 23 = some (.slice (Tryd.prog.elem 23)) := by kernel_rfl
/-- xs[:j] -/
theorem sliceHi (A : Option Addr) (xs : List Int) (c j : Nat) (hj : j ≤ xs.length) (hc : xs.length ≤ c) (hN : A = none → c = 0) :
    ∃ A', (∀ w, (Instr.slice 23 (.slice A xs.length c) none (some (.int .i64 j)) none).run Tryd.prog w = .ok (.slice A' (xs.take j).length c) w) ∧ (∀ w, IntsAt w A xs → IntsAt w A' (xs.take j)) ∧ (A' = none → c = 0) := by
  refine ⟨if c = 0 then A else A.map (·.add (0 * 1)), fun w => ?_, fun w h hn => ?_, fun h => ?_⟩
  · rw [run_slice_h w _ A _ c elemInt _ _ (by omega) (by omega), sizeElemInt]
    simp [sliced, Result.andThen, Nat.min_eq_left hj]
  · have hl : (xs.take j).length = j := by simp [hj]
    rw [hl] at hn
    obtain ⟨b, off, rfl, hlt, hc2⟩ := h (by omega)
    refine ⟨b, off, by split <;> simp [Addr.add], hlt, fun i hi => ?_⟩
    rw [hl] at hi
    rw [hc2 i (by omega)]
    simp [nth, hi]
  · split at h
    · assumption
    · cases A with
      | none => exact hN rfl
      | some a => cases h
/-- xs[j:] -/
theorem sliceLo (A : Option Addr) (xs : List Int) (c j : Nat) (hj : j ≤ xs.length) (hc : xs.length ≤ c) (hN : A = none → c = 0) :
    ∃ A', (∀ w, (Instr.slice 23 (.slice A xs.length c) (some (.int .i64 j)) none none).run Tryd.prog w = .ok (.slice A' (xs.drop j).length (c - j)) w) ∧ (∀ w, IntsAt w A xs → IntsAt w A' (xs.drop j)) ∧ (A' = none → c - j = 0) := by
  refine ⟨if c = j then A else A.map (·.add (j * 1)), fun w => ?_, fun w h hn => ?_, fun h => ?_⟩
  · rw [run_slice_l w _ A _ c elemInt _ _ (by omega) (by omega), sizeElemInt]
    simp [sliced, Result.andThen]
  · rw [List.length_drop] at hn
    obtain ⟨b, off, rfl, hlt, hc2⟩ := h (by omega)
    rw [if_neg (by omega)]
    refine ⟨b, off + j, by simp [Addr.add], hlt, fun i hi => ?_⟩
    rw [List.length_drop] at hi
    rw [Nat.add_assoc, hc2 (j + i) (by omega)]
    simp [nth]
  · split at h
    · omega
    · cases A with
      | none => have := hN rfl; omega
      | some a => cases h

theorem nth_mem {zs : List Int} {k : Nat} (h : k < zs.length) : nth zs k ∈ zs := by rw [nth_lt h]; exact List.getElem_mem h
theorem below_drewN {B : Nat} {w : World} (n : Nat) : Below B w (w.drewN n) := ⟨rfl, rfl, rfl, Nat.le_refl _, fun _ _ => rfl⟩
theorem strSlice (l : List UInt8) {j k : Nat} (h1 : j ≤ k) (h2 : k ≤ l.length) (w : World) : (Instr.slice 9 (.string ⟨l.toArray⟩) (some (.int .i64 j)) (some (.int .i64 k)) none).run Tryd.prog w = .ok (.string ⟨(seg l j k).toArray⟩) w := by
  have h3 : (j : Int) ≤ k := by omega
  have h4 : (k : Int) ≤ l.length := by omega
  simp [go_sem, Tryd.underlying9, h3, h4]
theorem seg_one {l : List UInt8} {k : Nat} (hk : k < l.length) : seg l k (k + 1) = [l[k]] := by rw [seg_snoc (Nat.le_refl k) hk, seg_self]; rfl
end Go.Proofs.YtlmdjggpeiddoaaDoor
namespace Go.Proofs.YtlmdjggpeiddoaaDoor
open Go.RowKit Go.Sort

/-- the k-th piece -/
def piece (ps : List (List UInt8)) (k : Nat) : List UInt8 := ps.getD k []
theorem drop_piece {ps : List (List UInt8)} {k : Nat} (h : k < ps.length) : ps.drop k = piece ps k :: ps.drop (k + 1) := by
  unfold piece
  rw [List.getD_eq_getElem?_getD, List.getElem?_eq_getElem h]
  exact List.drop_eq_getElem_cons h
theorem piece_mem {ps : List (List UInt8)} {k : Nat} (h : k < ps.length) : piece ps k ∈ ps := by
  unfold piece
  rw [List.getD_eq_getElem?_getD, List.getElem?_eq_getElem h]
  exact List.getElem_mem h
def strCellsOf (ps : List (List UInt8)) : Array Value := (ps.map fun p => Value.string ⟨p.toArray⟩).toArray
theorem piece_cell {w : World} {b : Nat} {ps : List (List UInt8)} (h : Blk w b (strCellsOf ps) 9) {k : Nat} (hk : k < ps.length) : w.cell? ⟨b, k, none⟩ = some (.string ⟨(piece ps k).toArray⟩) := by
  rw [h.cell k]
  unfold strCellsOf piece
  simp [hk]

theorem splitL_piece_le (c : UInt8) : ∀ (l : List UInt8), ∀ p ∈ splitL c l, p.length ≤ l.length
  | [], p, hp => by simp [splitL] at hp; subst hp; simp
  | b :: l, p, hp => by
    have ih := splitL_piece_le c l
    by_cases hb : b = c
    · subst hb
      rw [splitL_hit] at hp
      rcases List.mem_cons.1 hp with h | h
      · subst h; simp
      · have := ih p h; simp; omega
    · rw [splitL_miss hb] at hp
      cases hs : splitL c l with
      | nil => exact absurd hs (splitL_ne c l)
      | cons q qs =>
        rw [hs] at hp ih
        rcases List.mem_cons.1 hp with h | h
        · subst h; have := ih q (by simp); simp; omega
        · have := ih p (by simp [h]); simp; omega

/-- the slice at A reads as the strings ps -/
def StrsAt (w : World) (A : Option Addr) (ps : List (List UInt8)) : Prop :=
  0 < ps.length → ∃ b off, A = some ⟨b, off, none⟩ ∧ b < w.heap.size ∧ ∀ j, j < ps.length → w.cell? ⟨b, off + j, none⟩ = some (.string ⟨(piece ps j).toArray⟩)
theorem StrsAt.keep {w w' : World} {A : Option Addr} {ps : List (List UInt8)} (h : StrsAt w A ps) (hb : Below w.heap.size w w') : StrsAt w' A ps := by
  intro hz
  obtain ⟨b, off, e, hlt, hc⟩ := h hz
  exact ⟨b, off, e, Nat.lt_of_lt_of_le hlt hb.size, fun j hj => (hb.cell (p := ⟨b, off + j, none⟩) hlt).trans (hc j hj)⟩
def strVals (ps : List (List UInt8)) : List Value := ps.map fun p => Value.string ⟨p.toArray⟩
theorem strVals_snoc (ps : List (List UInt8)) (p : List UInt8) : strVals ps ++ [.string ⟨p.toArray⟩] = strVals (ps ++ [p]) := by simp [strVals]
theorem StrsAt.of_own {w : World} {base : Nat} {A : Option Addr} {c : Nat} {ps : List (List UInt8)} (h : w.ownsRow base 9 1 (.slice A ps.length c) ps.length (strVals ps)) : StrsAt w A ps := by
  intro hn
  obtain ⟨g, cap, hv, _, hlt⟩ := h.form hn
  have hA : A = some ⟨g, 0, none⟩ := by injection hv
  subst hA
  refine ⟨g, 0, rfl, hlt, fun j hj => ?_⟩
  have := h.cells (g := g) rfl j (.string ⟨(piece ps j).toArray⟩) (by simp [strVals, piece, hj])
  rwa [Go.WideShapes.add_plain] at this

def glue (s : List UInt8) : List (List UInt8) → List (List UInt8)
  | p :: ps => (s ++ p) :: ps
  | [] => []
theorem glue_nil (ps : List (List UInt8)) : glue [] ps = ps := by cases ps <;> rfl
theorem split_hit {l : List UInt8} {j k : Nat} {c : UInt8} {done : List (List UInt8)} (hk : k < l.length) (hb : l[k] = c) (h : splitL c l = done ++ glue (seg l j k) (splitL c (l.drop k))) :
    splitL c l = (done ++ [seg l j k]) ++ glue (seg l (k + 1) (k + 1)) (splitL c (l.drop (k + 1))) := by
  rw [h, bytes_drop hk, hb, splitL_hit, seg_self, glue_nil]
  simp [glue]
theorem split_miss {l : List UInt8} {j k : Nat} {c : UInt8} {done : List (List UInt8)} (hj : j ≤ k) (hk : k < l.length) (hb : ¬ l[k] = c) (h : splitL c l = done ++ glue (seg l j k) (splitL c (l.drop k))) :
    splitL c l = done ++ glue (seg l j (k + 1)) (splitL c (l.drop (k + 1))) := by
  rw [h, bytes_drop hk, splitL_miss hb, seg_snoc hj hk]
  cases hs : splitL c (l.drop (k + 1)) with
  | nil => exact absurd hs (splitL_ne _ _)
  | cons p ps => simp [glue]
theorem split_end {l : List UInt8} {j : Nat} {c : UInt8} {done : List (List UInt8)} (h : splitL c l = done ++ glue (seg l j l.length) (splitL c (l.drop l.length))) : splitL c l = done ++ [seg l j l.length] := by
  rw [h, List.drop_of_length_le (Nat.le_refl _)]
  simp [splitL, glue]
theorem infoStr : (Tryd.prog.info? 9).map (fun i => (i.zero, i.size, i.bytes)) = some (some (.string ByteArray.empty), 1, 16) := by kernel_rfl


/-- v is a slice of strings of the call's own, from block base on, that holds ps -/
def OwnS (w : World) (base : Nat) (v : Value) (ps : List (List UInt8)) : Prop := w.ownsRow base 9 1 v ps.length (strVals ps)
theorem OwnS.nil (w : World) (base : Nat) : OwnS w base (.slice none 0 0) [] := ⟨by simp [strVals], .inl ⟨rfl, by simp⟩⟩
theorem OwnS.form {w : World} {base : Nat} {v : Value} {ps : List (List UInt8)} (h : OwnS w base v ps) : ∃ A c, v = .slice A ps.length c ∧ ps.length ≤ c ∧ (A = none → c = 0) := by
  rcases h.2 with ⟨hv, h0⟩ | ⟨g, cap, cur, hv, _, _, h1, _⟩
  · exact ⟨none, 0, by rw [hv, h0], by omega, fun _ => rfl⟩
  · exact ⟨_, _, hv, h1, fun h => by cases h⟩
theorem OwnS.keep {w w' : World} {base : Nat} {v : Value} {ps : List (List UInt8)} (h : OwnS w base v ps) (hb : Below w.heap.size w w') : OwnS w' base v ps :=
  World.ownsRow.kept h ⟨hb.os, hb.tape, hb.output, hb.size, fun i hi _ => hb.block i hi⟩ (row := none) (by cases v.ownBlock <;> simp)
theorem OwnS.strs {w : World} {base : Nat} {A : Option Addr} {c : Nat} {ps : List (List UInt8)} (h : OwnS w base (.slice A ps.length c) ps) : StrsAt w A ps := StrsAt.of_own h
theorem OwnS.blk {w : World} {base : Nat} {A : Option Addr} {c : Nat} {ps : List (List UInt8)} (h : OwnS w base (.slice A ps.length c) ps) : ∀ b off, A = some ⟨b, off, none⟩ → base ≤ b := by
  intro b off hA
  rcases h.2 with ⟨hv, _⟩ | ⟨g, cap, cur, hv, hg, _⟩
  · injection hv with e1; rw [e1] at hA; cases hA
  · injection hv with e1; rw [e1] at hA; injection hA with e2; injection e2 with e3; omega
/-- append(v, p), as a step of a walk: the new string lies in the newest block -/
theorem wpS {ops : Array Oper} {rest : List Oper} {o : Oper} {a : Act} {Q : Exit → Act → World → Prop} {W : World} (hgd : o.guard = none) (s x : Operand) (ho : o.op = .call { callee := .builtin .append, args := #[s, x], argTypes := #[22, 22] })
    (base : Nat) {v : Value} {ps : List (List UInt8)} (hs : a.eval s = v) (h : OwnS W base v ps) (p : List UInt8) (hx : a.eval x = .slice (some ⟨W.heap.size, 0, none⟩) 1 1) (hl : ps.length + 1 ≤ 1000000) (hb : base ≤ W.heap.size)
    (hK : ∀ v' w', Hid (OwnS w' base v' (ps ++ [p])) → (∀ w0, Below base w0 W → Below base w0 w') → wpList Tryd.prog ops Q rest (a.put o.dst v') w') : wpList Tryd.prog ops Q (o :: rest) a (W.alloc (.cells #[.string ⟨p.toArray⟩] 9)) := by
  obtain ⟨i0, hi, hz0, hz1, hz2⟩ := info_parts infoStr
  refine wpList_append_own _ hgd s x 22 ho base 9 i0 (.string ByteArray.empty) 1 16 Tryd.underlying22 hi hz0 hz1 hz2 rfl (by decide) v ps.length (strVals ps) hs (h.keep (bBox _ _)) ⟨W.heap.size, 0, none⟩ 1 1 [.string ⟨p.toArray⟩] hx rfl
    (fun i u hj => by match i, hj with | 0, hj => simp at hj; subst hj; simp [Addr.add]) (fun u hu => by simp at hu; subst hu; rfl) (by unfold maxLen; omega) (by omega) (by simp; omega) ?_
  intro v' w' hown' hg _
  refine hK v' w' (Lib.hid ?_) (fun w0 h0 => ?_)
  · unfold OwnS
    rw [List.length_append, ← strVals_snoc]
    exact hown'
  · exact (h0.alloc hb _).grown hg (by simp; omega) (fun k hk => (h.lt k hk).1)
end Go.Proofs.YtlmdjggpeiddoaaDoor
namespace Go.Proofs.YtlmdjggpeiddoaaDoor
open Go.RowKit Go.Sort

/-- an automaton, a table -/
structure AutoD where
  next : List (List Int)
  marks : List (List Int)
deriving Inhabited
structure TabD where
  classes : List (List UInt8)
  actions : List Int
  left : AutoD
  right : AutoD
deriving Inhabited
def rowAt (rs : List (List Int)) (k : Nat) : List Int := rs.getD k []
theorem rowAt_get {rs : List (List Int)} {k : Nat} (h : k < rs.length) : rs[k]? = some (rowAt rs k) := by simp [rowAt, h]
theorem rowAt_mem {rs : List (List Int)} {k : Nat} (h : k < rs.length) : rowAt rs k ∈ rs := by simp [rowAt, h]
theorem drop_row {rs : List (List Int)} {k : Nat} (h : k < rs.length) : rs.drop k = rowAt rs k :: rs.drop (k + 1) := by
  rw [List.drop_eq_getElem_cons h]
  simp [rowAt, h]
/-- the slice at A reads as the rows rs -/
def RowsAt (w : World) (A : Option Addr) (rs : List (List Int)) : Prop :=
  0 < rs.length → ∃ b off, A = some ⟨b, off, none⟩ ∧ b < w.heap.size ∧ ∀ j, j < rs.length → ∃ B c, w.cell? ⟨b, off + j, none⟩ = some (.slice B (rowAt rs j).length c) ∧ IntsAt w B (rowAt rs j) ∧ (rowAt rs j).length ≤ c ∧ (B = none → c = 0)
theorem RowsAt.nil {w : World} {A : Option Addr} : RowsAt w A [] := fun h => absurd h (by simp)
theorem RowsAt.keep {w w' : World} {A : Option Addr} {rs : List (List Int)} (h : RowsAt w A rs) (hb : Below w.heap.size w w') : RowsAt w' A rs := by
  intro hz
  obtain ⟨b, off, e, hlt, hc⟩ := h hz
  refine ⟨b, off, e, Nat.lt_of_lt_of_le hlt hb.size, fun j hj => ?_⟩
  obtain ⟨B, c, h1, h2, h3⟩ := hc j hj
  exact ⟨B, c, (hb.cell hlt).trans h1, h2.keep hb, h3⟩
theorem RowsAt.at_ {w : World} {A : Option Addr} {rs : List (List Int)} (h : RowsAt w A rs) {k : Nat} (hk : k < rs.length) :
    ∃ b off B c, A = some ⟨b, off, none⟩ ∧ b < w.heap.size ∧ w.cell? ⟨b, off + k, none⟩ = some (.slice B (rowAt rs k).length c) ∧ IntsAt w B (rowAt rs k) := by
  obtain ⟨b, off, e, hb, hc⟩ := h (by omega)
  obtain ⟨B, c, h1, h2, _⟩ := hc k hk
  exact ⟨b, off, B, c, e, hb, h1, h2⟩
/-- .. with what is known of its capacity -/
theorem RowsAt.atC {w : World} {A : Option Addr} {rs : List (List Int)} (h : RowsAt w A rs) {k : Nat} (hk : k < rs.length) :
    ∃ b off B c, A = some ⟨b, off, none⟩ ∧ b < w.heap.size ∧ w.cell? ⟨b, off + k, none⟩ = some (.slice B (rowAt rs k).length c) ∧ IntsAt w B (rowAt rs k) ∧ (rowAt rs k).length ≤ c ∧ (B = none → c = 0) := by
  obtain ⟨b, off, e, hb, hc⟩ := h (by omega)
  obtain ⟨B, c, h1, h2, h3⟩ := hc k hk
  exact ⟨b, off, B, c, e, hb, h1, h2, h3⟩

/-- a row of marks: ascending from m on, below n -/
def marksOk (n : Int) : Int → List Int → Bool
  | _, [] => true
  | m, x :: r => decide (m ≤ x) && decide (x < n) && marksOk n (x + 1) r
def rowOk (classes states : Nat) (r : List Int) : Bool := decide (r.length = classes) && r.all (fun x => decide (0 ≤ x) && decide (x < states))
/-- the state's row and its marks are as required -/
def stateOk (classes actions : Nat) (a : AutoD) (i : Nat) : Bool := rowOk classes a.next.length (rowAt a.next i) && marksOk actions 0 (rowAt a.marks i)
def soundB (a : AutoD) (classes actions : Nat) : Bool :=
  decide (1 ≤ a.next.length) && decide (a.next.length ≤ 400) && decide (a.marks.length = a.next.length) && (List.range a.next.length).all (stateOk classes actions a)
theorem marksOk_cons (n m x : Int) (r : List Int) : marksOk n m (x :: r) = (decide (m ≤ x) && decide (x < n) && marksOk n (x + 1) r) := rfl
theorem range_bad {p : Nat → Bool} {n k : Nat} (h : k < n) (hk : p k = false) : (List.range n).all p = false := by
  rw [← Bool.not_eq_true]
  intro h'
  have := List.all_eq_true.1 h' k (List.mem_range.2 h)
  rw [hk] at this
  cases this
theorem range_step {p : Nat → Bool} {k : Nat} (h : (List.range k).all p = true) (hk : p k = true) : (List.range (k + 1)).all p = true := by
  rw [List.range_succ, List.all_append, h]
  simp [hk]
/-- the state after each class -/
def runA (nx : List (List Int)) : Int → List Int → List Int
  | s, [] => [s]
  | s, c :: l => s :: runA nx (nth (rowAt nx s.toNat) c.toNat) l
theorem runA_length (nx : List (List Int)) : ∀ (l : List Int) (s : Int), (runA nx s l).length = l.length + 1
  | [], _ => rfl
  | c :: l, s => by rw [runA, List.length_cons, runA_length nx l]; simp
/-- the first number of two lists that is in both -/
def commonF (a b : List Int) : Option Int := a.find? fun x => b.contains x
end Go.Proofs.YtlmdjggpeiddoaaDoor
namespace Go.Proofs.YtlmdjggpeiddoaaDoor
open Go.RowKit Go.Sort

/-- the walk along two ascending lists -/
def mergeF : List Int → List Int → Option Int
  | [], _ => none
  | _ :: _, [] => none
  | x :: a, y :: b => if x = y then some x else if x < y then mergeF a (y :: b) else mergeF (x :: a) b
termination_by a b => a.length + b.length
theorem marksOk_ge {n : Int} : ∀ (l : List Int) (m : Int), marksOk n m l = true → ∀ x ∈ l, m ≤ x ∧ x < n
  | [], _, _, x, hx => by cases hx
  | y :: l, m, h, x, hx => by
    rw [marksOk_cons] at h
    simp only [Bool.and_eq_true, decide_eq_true_eq] at h
    rcases List.mem_cons.1 hx with rfl | hx
    · exact ⟨h.1.1, h.1.2⟩
    · have := marksOk_ge l (y + 1) h.2 x hx
      omega
theorem merge_find {n : Int} : ∀ (k : Nat) (a b : List Int) (m m' : Int), a.length + b.length ≤ k → marksOk n m a = true → marksOk n m' b = true → mergeF a b = a.find? fun x => b.contains x
  | _, [], b, _, _, _, _, _ => by rw [mergeF]; rfl
  | _, x :: a, [], _, _, _, _, _ => by
    rw [mergeF]
    symm
    rw [List.find?_eq_none]
    intro z _
    simp
  | 0, x :: a, y :: b, _, _, h, _, _ => by simp at h
  | k + 1, x :: a, y :: b, m, m', h, ha, hb => by
    rw [mergeF]
    have ha' := ha
    have hb' := hb
    rw [marksOk_cons] at ha hb
    simp only [Bool.and_eq_true, decide_eq_true_eq] at ha hb
    have hga := marksOk_ge a (x + 1) ha.2
    have hgb := marksOk_ge b (y + 1) hb.2
    simp only [List.length_cons] at h
    by_cases hxy : x = y
    · subst hxy
      rw [if_pos rfl, List.find?_cons]
      simp
    · rw [if_neg hxy]
      by_cases hlt : x < y
      · rw [if_pos hlt, merge_find k a (y :: b) (x + 1) m' (by simp; omega) ha.2 hb', List.find?_cons]
        have hn : (y :: b).contains x = false := by
          simp only [List.contains_cons, Bool.or_eq_false_iff]
          refine ⟨by simp [hxy], ?_⟩
          rw [← Bool.not_eq_true]
          intro hc
          have := hgb x (List.contains_iff_mem.1 hc)
          omega
        rw [hn]
      · rw [if_neg hlt, merge_find k (x :: a) b m (y + 1) (by simp; omega) ha' hb.2]
        have hsame : ∀ z ∈ x :: a, b.contains z = (y :: b).contains z := fun z hz => by
          have hzy : ¬ z = y := by
            rcases List.mem_cons.1 hz with rfl | hz
            · exact hxy
            · have := hga z hz
              omega
          simp [hzy]
        have key : ∀ (l : List Int), (∀ z ∈ l, b.contains z = (y :: b).contains z) → l.find? (fun x => b.contains x) = l.find? (fun x => (y :: b).contains x) := by
          intro l
          induction l with
          | nil => intro _; rfl
          | cons z l ih =>
            intro hl
            rw [List.find?_cons, List.find?_cons, hl z (by simp), ih (fun w hw => hl w (by simp [hw]))]
        exact key _ hsame
/-- the action and the rule that two states decide -/
def decideT (t : TabD) (s r : Int) : Int × Int := match commonF (rowAt t.left.marks s.toNat) (rowAt t.right.marks r.toNat) with | some i => (nth t.actions i.toNat, i) | none => (2, -1)
theorem common_merge {n m m' : Int} {a b : List Int} (ha : marksOk n m a = true) (hb : marksOk n m' b = true) : mergeF a b = commonF a b := merge_find _ a b m m' (Nat.le_refl _) ha hb
end Go.Proofs.YtlmdjggpeiddoaaDoor
namespace Go.Proofs.YtlmdjggpeiddoaaDoor
open Go.RowKit Go.Sort

def cmpL : List Int → List Int → Int
  | [], [] => 0
  | [], _ :: _ => -1
  | _ :: _, [] => 1
  | a :: r, b :: s => if a < b then -1 else if b < a then 1 else cmpL r s
theorem cmpL_refl : ∀ l, cmpL l l = 0
  | [] => rfl
  | a :: r => by simp [cmpL, cmpL_refl r]
theorem cmpL_eq : ∀ {a b : List Int}, cmpL a b = 0 → a = b
  | [], [], _ => rfl
  | [], _ :: _, h => by simp [cmpL] at h
  | _ :: _, [], h => by simp [cmpL] at h
  | a :: r, b :: s, h => by
    unfold cmpL at h
    split at h
    · cases h
    · split at h
      · cases h
      · have h1 := cmpL_eq h
        have h2 : a = b := by omega
        rw [h1, h2]
theorem cmp_lt {xs ys : List Int} {k : Nat} (h1 : k < xs.length) (h2 : k < ys.length) (h : nth xs k < nth ys k) : cmpL (xs.drop k) (ys.drop k) = -1 := by
  rw [drop_nth h1, drop_nth h2, cmpL, if_pos h]
theorem cmp_gt {xs ys : List Int} {k : Nat} (h1 : k < xs.length) (h2 : k < ys.length) (h : nth ys k < nth xs k) : cmpL (xs.drop k) (ys.drop k) = 1 := by
  rw [drop_nth h1, drop_nth h2, cmpL, if_neg (by omega), if_pos h]
theorem cmp_same {xs ys : List Int} {k : Nat} (h1 : k < xs.length) (h2 : k < ys.length) (h3 : ¬ nth xs k < nth ys k) (h4 : ¬ nth ys k < nth xs k) : cmpL (xs.drop k) (ys.drop k) = cmpL (xs.drop (k + 1)) (ys.drop (k + 1)) := by
  rw [drop_nth h1, drop_nth h2, cmpL, if_neg h3, if_neg h4]
theorem cmp_end {xs ys : List Int} {k : Nat} (hk1 : k ≤ xs.length) (hk2 : k ≤ ys.length) (h : ¬ (k < xs.length ∧ k < ys.length)) : cmpL (xs.drop k) (ys.drop k) = if xs.length < ys.length then -1 else if ys.length < xs.length then 1 else 0 := by
  by_cases h1 : k < xs.length
  · have h2 : ys.length = k := by omega
    rw [drop_nth h1, List.drop_of_length_le (l := ys) (by omega), cmpL, if_neg (by omega), if_pos (by omega)]
  · rw [List.drop_of_length_le (l := xs) (by omega)]
    by_cases h2 : k < ys.length
    · rw [drop_nth h2, cmpL, if_pos (by omega)]
    · rw [List.drop_of_length_le (l := ys) (by omega), cmpL, if_neg (by omega), if_neg (by omega)]

set_option maxHeartbeats 1000000 in
set_option maxRecDepth 100000 in
theorem rfCompare (xs ys : List Int) (A B : Option Addr) (c1 c2 : Nat) (w : World) (hA : IntsAt w A xs) (hB : IntsAt w B ys) (hx : xs.length ≤ 1000000000) (_hy : ys.length ≤ 1000000000) :
    Calls Tryd.prog 32 #[.slice A xs.length c1, .slice B ys.length c2] w fun e w' => e = .returned (.int .i64 (cmpL xs ys)) ∧ Below w.heap.size w w' := by
  have HA := Lib.hid hA
  have HB := Lib.hid hB
  clear hA hB
  go_enter Tryd.func32, Tryd.ntmps32
  go_wp2_with fail
  go_loopw [5] (fun i wr => ∃ k : Nat, k ≤ xs.length ∧ k ≤ ys.length ∧ i = .int .i64 k ∧ Hid (cmpL xs ys = cmpL (xs.drop k) (ys.drop k)) ∧ Below w.heap.size w wr) (fun i _ => xs.length - (intOf i).toNat)
  case atStart => exact ⟨0, Nat.zero_le _, Nat.zero_le _, rfl, rfl, Below.refl _ _⟩
  case round =>
    obtain ⟨k, hk1, hk2, rfl, HC, hbr⟩ := hrel
    by_cases h1 : k < xs.length
    · by_cases h2 : k < ys.length
      · obtain ⟨b, off, rfl, _, hc⟩ := (HA.out.keep hbr).at_ h1
        obtain ⟨b', off', rfl, _, hc'⟩ := (HB.out.keep hbr).at_ h2
        have k0 := cell_regrown hc
        have k1 := cell_regrown hc'
        have t1 : decide (k < xs.length) = true := by simpa using h1
        have t2 : decide (k < ys.length) = true := by simpa using h2
        have i1 : (k : Int) < xs.length := by omega
        have i2 : (k : Int) < ys.length := by omega
        by_cases hlt : nth xs k < nth ys k
        · have q1 : decide (nth xs k < nth ys k) = true := by simpa using hlt
          have HE := Lib.hid (HC.out.trans (cmp_lt h1 h2 hlt))
          go_wp2_with fail
          refine wp_region_quiet_below (by kernel_rfl) (by kernel_rfl) ?_
          repeat (go_big_quiet_step (fail))
          refine wpQuiet_nil ?_
          rintro _ ⟨⟨dq, osq⟩, rfl⟩
          have hb2 := below_regrown wr dq osq
          generalize grow (redrawn wr dq) osq = w2 at hb2 ⊢
          go_wp2_with fail
          go_ret
          exact ⟨ret_int HE.out.symm, bUp hbr hb2⟩
        · have q1 : decide (nth xs k < nth ys k) = false := by simpa using hlt
          by_cases hgt : nth ys k < nth xs k
          · have q2 : decide (nth ys k < nth xs k) = true := by simpa using hgt
            have HE := Lib.hid (HC.out.trans (cmp_gt h1 h2 hgt))
            go_wp2_with fail
            refine wp_region_quiet_below (by kernel_rfl) (by kernel_rfl) ?_
            repeat (go_big_quiet_step (fail))
            refine wpQuiet_nil ?_
            rintro _ ⟨⟨dq, osq⟩, rfl⟩
            have hb2 := below_regrown wr dq osq
            generalize grow (redrawn wr dq) osq = w2 at hb2 ⊢
            have k2 := cell_regrown (cell_keep hb2 hc)
            have k3 := cell_regrown (cell_keep hb2 hc')
            go_wp2_with fail
            refine wp_region_quiet_below (by kernel_rfl) (by kernel_rfl) ?_
            repeat (go_big_quiet_step (fail))
            refine wpQuiet_nil ?_
            rintro _ ⟨⟨dq, osq⟩, rfl⟩
            have hb3 := below_regrown w2 dq osq
            generalize grow (redrawn w2 dq) osq = w3 at hb3 ⊢
            go_wp2_with fail
            go_ret
            exact ⟨ret_int HE.out.symm, bUp (bUp hbr hb2) hb3⟩
          · have q2 : decide (nth ys k < nth xs k) = false := by simpa using hgt
            have HE := Lib.hid (HC.out.trans (cmp_same h1 h2 hlt hgt))
            go_wp2_with fail
            refine wp_region_quiet_below (by kernel_rfl) (by kernel_rfl) ?_
            repeat (go_big_quiet_step (fail))
            refine wpQuiet_nil ?_
            rintro _ ⟨⟨dq, osq⟩, rfl⟩
            have hb2 := below_regrown wr dq osq
            generalize grow (redrawn wr dq) osq = w2 at hb2 ⊢
            have k2 := cell_regrown (cell_keep hb2 hc)
            have k3 := cell_regrown (cell_keep hb2 hc')
            go_wp2_with fail
            refine wp_region_quiet_below (by kernel_rfl) (by kernel_rfl) ?_
            repeat (go_big_quiet_step (fail))
            refine wpQuiet_nil ?_
            rintro _ ⟨⟨dq, osq⟩, rfl⟩
            have hb3 := below_regrown w2 dq osq
            generalize grow (redrawn w2 dq) osq = w3 at hb3 ⊢
            go_wp2_with fail
            go_roundw
            case rel => exact ⟨k + 1, by omega, by omega, by go_num, HE, bUp (bUp hbr hb2) hb3⟩
            case measure => simp [intOf]; omega
      · have t1 : decide (k < xs.length) = true := by simpa using h1
        have t2 : decide (k < ys.length) = false := by simpa using h2
        have t3 : ¬ xs.length < ys.length := by omega
        have t4 : ys.length < xs.length := by omega
        have HE := Lib.hid (HC.out.trans (cmp_end hk1 hk2 (fun h => h2 h.2)))
        go_wp2_with fail
        go_ret
        exact ⟨ret_int (by rw [HE.out, if_neg t3, if_pos t4]), hbr⟩
    · have t1 : decide (k < xs.length) = false := by simpa using h1
      have HE := Lib.hid (HC.out.trans (cmp_end hk1 hk2 (fun h => h1 h.1)))
      have t4 : ¬ ys.length < xs.length := by omega
      by_cases t3 : xs.length < ys.length
      · go_wp2_with fail
        go_ret
        exact ⟨ret_int (by rw [HE.out, if_pos t3]), hbr⟩
      · go_wp2_with fail
        go_ret
        exact ⟨ret_int (by rw [HE.out, if_neg t3, if_neg t4]), hbr⟩

theorem rfEqual (xs ys : List Int) (A B : Option Addr) (c1 c2 : Nat) (w : World) (hA : IntsAt w A xs) (hB : IntsAt w B ys) (hx : xs.length ≤ 1000000000) (hy : ys.length ≤ 1000000000) :
    Calls Tryd.prog 14 #[.slice A xs.length c1, .slice B ys.length c2] w fun e w' => e = .returned (.bool (decide (xs = ys))) ∧ Below w.heap.size w w' := by
  have HA := Lib.hid hA
  have HB := Lib.hid hB
  clear hA hB
  go_enter Tryd.func14, Tryd.ntmps14
  go_wp2_with fail
  refine (rfCompare xs ys A B c1 c2 _ HA.out HB.out hx hy).mono ?_
  rintro e w1 ⟨rfl, hb1⟩
  go_wp2_with fail
  go_ret
  refine ⟨ret_bool ?_, hb1⟩
  by_cases h : xs = ys
  · subst h; simp [cmpL_refl]
  · have : ¬ cmpL xs ys = 0 := fun e => h (cmpL_eq e)
    simp [h, this]
end Go.Proofs.YtlmdjggpeiddoaaDoor
namespace Go.Proofs.YtlmdjggpeiddoaaDoor
open Go.RowKit Go.Maps

theorem plainElem_bool_inv {P : Program} {e : TypeId} (he : P.underlying e = some .bool) {v : Value} {z : DataW Unit × List MemPlace} (h : plainElem P e v = some z) : ∃ x, v = .bool x ∧ z = (.lit (.bool x), []) := by
  unfold plainElem at h
  rw [he] at h
  cases v <;> simp at h
  exact ⟨_, rfl, h.symm⟩
theorem wfI {x : Int} (h1 : -9223372036854775808 ≤ x) (h2 : x ≤ 9223372036854775807) : (Lit.int .i64 x).wf = true := WalkArith.wf_i64 ⟨h1, h2⟩
/-- block b is a map[string]bool that holds true at the keys of s -/
def SetS (P : Program) (k e : TypeId) (w : World) (b n : Nat) (s : List UInt8 → Bool) : Prop :=
  ∃ D : DataW Unit, w.ownsMap P k (plainElem P e) b n D ∧ ∀ x, D.atKey (.string x) (.lit (.bool false)) = .lit (.bool (s x))
/-- block b is a map[string]int that holds f -/
def IntS (P : Program) (k e : TypeId) (w : World) (b n : Nat) (f : List UInt8 → Option Int) : Prop :=
  ∃ D : DataW Unit, w.ownsMap P k (plainElem P e) b n D ∧ ∀ x, Maps.has D (.string x) = (f x).isSome ∧ D.atKey (.string x) (.lit (.int .i64 0)) = .lit (.int .i64 ((f x).getD 0))

section
variable {P : Program} {k e t : TypeId} {w w' : World} {b n : Nat}
theorem SetS.made (w : World) (P : Program) (k e : TypeId) : SetS P k e (w.alloc (.map #[] 0)) w.heap.size 0 fun _ => false :=
  ⟨.map [], World.ownsMap_made w P k _, fun _ => rfl⟩
theorem IntS.made (w : World) (P : Program) (k e : TypeId) : IntS P k e (w.alloc (.map #[] 0)) w.heap.size 0 fun _ => none :=
  ⟨.map [], World.ownsMap_made w P k _, fun _ => ⟨rfl, rfl⟩⟩
theorem SetS.lt {s : List UInt8 → Bool} (h : SetS P k e w b n s) : b < w.heap.size := by obtain ⟨D, ho, _⟩ := h; exact ho.lt
theorem IntS.lt {s : List UInt8 → Option Int} (h : IntS P k e w b n s) : b < w.heap.size := by obtain ⟨D, ho, _⟩ := h; exact ho.lt
theorem SetS.keep {s : List UInt8 → Bool} (h : SetS P k e w b n s) (hb : w'.heap[b]? = w.heap[b]?) : SetS P k e w' b n s := by
  obtain ⟨D, ⟨es, c, h1, h2⟩, hs⟩ := h
  exact ⟨D, ⟨es, c, hb.trans h1, h2⟩, hs⟩
theorem IntS.keep {s : List UInt8 → Option Int} (h : IntS P k e w b n s) (hb : w'.heap[b]? = w.heap[b]?) : IntS P k e w' b n s := by
  obtain ⟨D, ⟨es, c, h1, h2⟩, hs⟩ := h
  exact ⟨D, ⟨es, c, hb.trans h1, h2⟩, hs⟩
theorem SetS.grow {s : List UInt8 → Bool} (h : SetS P k e w b n s) (hb : Below w.heap.size w w') : SetS P k e w' b n s := h.keep (hb.block b h.lt)
theorem IntS.grow {s : List UInt8 → Option Int} (h : IntS P k e w b n s) (hb : Below w.heap.size w w') : IntS P k e w' b n s := h.keep (hb.block b h.lt)
theorem key_mk (hk : P.underlying k = some .string) {x : List UInt8} (hx : x.length ≤ maxLen) : keyOf P k (.string ⟨x.toArray⟩) = some (.string x) := WideMaps.keyOf_string_mk hk (by simpa [ByteArray.size] using hx)
theorem SetS.look {s : List UInt8 → Bool} (h : SetS P k e w b n s) (hk : P.underlying k = some .string) (ht : P.underlying t = some (.map k e)) (he : P.underlying e = some .bool)
    (hz : (zeroValue e).run P w = .ok (.bool false) w) {x : List UInt8} (hx : x.length ≤ maxLen) : (Instr.lookup t (.map (some b)) (.string ⟨x.toArray⟩) false).run P w = .ok (.bool (s x)) w := by
  obtain ⟨D, ho, hs⟩ := h
  obtain ⟨v, ps, hrun, hv⟩ := ho.lookup (string_keyed hk) ht hz (plainElem_bool he false) (key_mk hk hx)
  obtain ⟨c, rfl, hc⟩ := plainElem_bool_inv he hv
  rw [hs x] at hc
  simp only [Prod.mk.injEq, DataW.lit.injEq, Lit.bool.injEq] at hc
  rw [hrun, hc.1]
theorem IntS.look {s : List UInt8 → Option Int} (h : IntS P k e w b n s) (hk : P.underlying k = some .string) (ht : P.underlying t = some (.map k e)) (he : P.underlying e = some (.int .i64))
    (hz : (zeroValue e).run P w = .ok (.int .i64 0) w) {x : List UInt8} (hx : x.length ≤ maxLen) : (Instr.lookup t (.map (some b)) (.string ⟨x.toArray⟩) true).run P w = .ok (.tuple #[.int .i64 ((s x).getD 0), .bool (s x).isSome]) w := by
  obtain ⟨D, ho, hs⟩ := h
  obtain ⟨v, ps, hrun, hv⟩ := ho.look_ok (string_keyed hk) ht hz (plainElem_int he (by decide)) (key_mk hk hx)
  obtain ⟨c, rfl, hc, _⟩ := plainElem_int_inv he hv
  rw [(hs x).2] at hc
  simp only [Prod.mk.injEq, DataW.lit.injEq, Lit.int.injEq, true_and] at hc
  rw [hrun, hc.1, (hs x).1]
theorem SetS.store {s : List UInt8 → Bool} (h : SetS P k e w b n s) (hk : P.underlying k = some .string) (ht : P.underlying t = some (.map k e)) (he : P.underlying e = some .bool)
    (hn : n < maxLen) {x : List UInt8} (hx : x.length ≤ maxLen) : ∃ w', (Instr.mapUpdate t (.map (some b)) (.string ⟨x.toArray⟩) (.bool true)).run P w = .ok () w' ∧ SetS P k e w' b (n + 1) (fun y => y == x || s y) ∧ w.grownBy w' (some b) := by
  obtain ⟨D, ho, hs⟩ := h
  obtain ⟨w', hrun, ho', hg⟩ := ho.update (string_keyed hk) ht hn (key_mk hk hx) (plainElem_bool he true)
  refine ⟨w', hrun, ⟨_, ho', fun y => ?_⟩, hg⟩
  by_cases hy : y = x
  · subst hy
    rw [atKey_put_same ho.isMap (by simp [WideAt.IsKeyLit])]
    simp
  · rw [atKey_put_other (by simpa using hy), hs y]
    simp [hy]
theorem IntS.store {s : List UInt8 → Option Int} (h : IntS P k e w b n s) (hk : P.underlying k = some .string) (ht : P.underlying t = some (.map k e)) (he : P.underlying e = some (.int .i64))
    (hn : n < maxLen) {x : List UInt8} {c : Int} (hx : x.length ≤ maxLen) (hc : (Lit.int .i64 c).wf = true) : ∃ w', (Instr.mapUpdate t (.map (some b)) (.string ⟨x.toArray⟩) (.int .i64 c)).run P w = .ok () w' ∧ IntS P k e w' b (n + 1) (fun y => if y = x then some c else s y) ∧ w.grownBy w' (some b) := by
  obtain ⟨D, ho, hs⟩ := h
  obtain ⟨w', hrun, ho', hg⟩ := ho.update (string_keyed hk) ht hn (key_mk hk hx) (plainElem_int he hc)
  refine ⟨w', hrun, ⟨_, ho', fun y => ?_⟩, hg⟩
  by_cases hy : y = x
  · subst hy
    rw [atKey_put_same ho.isMap (by simp [WideAt.IsKeyLit]), has_put_same ho.isMap (by simp [WideAt.IsKeyLit])]
    simp
  · rw [atKey_put_other (by simpa using hy), has_put_other (by simpa using hy), (hs y).1, (hs y).2]
    simp [hy]
end
end Go.Proofs.YtlmdjggpeiddoaaDoor
