/- Maps from ints to bools (sets) and to bytes, as functions of the key. No program in sight. -/
import Derived.Test.YthpiopjpipdgnaaDoorBase
import Derived.Maps.OwnOps
import Derived.Maps.OwnSet
namespace Go.Proofs.YthpiopjpipdgnaaDoor
open Go.RowKit Go.Maps

theorem wfI {x : Int} (h1 : -9223372036854775808 ≤ x) (h2 : x ≤ 9223372036854775807) : (Lit.int .i64 x).wf = true := WalkArith.wf_i64 ⟨h1, h2⟩

theorem wfU8 {x : Int} (h1 : 0 ≤ x) (h2 : x ≤ 255) : (Lit.int .u8 x).wf = true := by
  show (decide ((0 : Int) ≤ x) && decide (x ≤ 255)) = true
  simp [h1, h2]

/-- block b is a map[int]bool that holds true at the keys of s -/
def SetMap (P : Program) (k e : TypeId) (w : World) (b n : Nat) (s : Int → Bool) : Prop :=
  ∃ D : DataW Unit, w.ownsMap P k (plainElem P e) b n D ∧ ∀ x, D.atKey (.int .i64 x) (.lit (.bool false)) = .lit (.bool (s x))

/-- block b is a map[int]byte that holds f -/
def ByteMap (P : Program) (k e : TypeId) (w : World) (b n : Nat) (f : Int → Option Int) : Prop :=
  ∃ D : DataW Unit, w.ownsMap P k (plainElem P e) b n D ∧ ∀ x, Maps.has D (.int .i64 x) = (f x).isSome ∧ D.atKey (.int .i64 x) (.lit (.int .u8 0)) = .lit (.int .u8 ((f x).getD 0))

section
variable {P : Program} {k e t : TypeId} {w w' : World} {b n : Nat}

theorem plainElem_bool_inv (he : P.underlying e = some .bool) {v : Value} {z : DataW Unit × List MemPlace} (h : plainElem P e v = some z) : ∃ x, v = .bool x ∧ z = (.lit (.bool x), []) := by
  unfold plainElem at h
  rw [he] at h
  cases v <;> simp at h
  exact ⟨_, rfl, h.symm⟩

theorem SetMap.made (w : World) (P : Program) (k e : TypeId) : SetMap P k e (w.alloc (.map #[] 0)) w.heap.size 0 fun _ => false :=
  ⟨.map [], World.ownsMap_made w P k _, fun _ => rfl⟩
theorem ByteMap.made (w : World) (P : Program) (k e : TypeId) : ByteMap P k e (w.alloc (.map #[] 0)) w.heap.size 0 fun _ => none :=
  ⟨.map [], World.ownsMap_made w P k _, fun _ => ⟨rfl, rfl⟩⟩
theorem SetMap.lt {s : Int → Bool} (h : SetMap P k e w b n s) : b < w.heap.size := by obtain ⟨D, ho, _⟩ := h; exact ho.lt
theorem ByteMap.lt {s : Int → Option Int} (h : ByteMap P k e w b n s) : b < w.heap.size := by obtain ⟨D, ho, _⟩ := h; exact ho.lt
theorem SetMap.keep {s : Int → Bool} (h : SetMap P k e w b n s) (hb : w'.heap[b]? = w.heap[b]?) : SetMap P k e w' b n s := by
  obtain ⟨D, ⟨es, c, h1, h2⟩, hs⟩ := h
  exact ⟨D, ⟨es, c, hb.trans h1, h2⟩, hs⟩
theorem ByteMap.keep {s : Int → Option Int} (h : ByteMap P k e w b n s) (hb : w'.heap[b]? = w.heap[b]?) : ByteMap P k e w' b n s := by
  obtain ⟨D, ⟨es, c, h1, h2⟩, hs⟩ := h
  exact ⟨D, ⟨es, c, hb.trans h1, h2⟩, hs⟩
theorem SetMap.grow {s : Int → Bool} (h : SetMap P k e w b n s) (hb : Below w.heap.size w w') : SetMap P k e w' b n s := h.keep (hb.block b h.lt)
theorem ByteMap.grow {s : Int → Option Int} (h : ByteMap P k e w b n s) (hb : Below w.heap.size w w') : ByteMap P k e w' b n s := h.keep (hb.block b h.lt)

theorem SetMap.look {s : Int → Bool} (h : SetMap P k e w b n s) (hk : P.underlying k = some (.int .i64)) (ht : P.underlying t = some (.map k e)) (he : P.underlying e = some .bool)
    (hz : (zeroValue e).run P w = .ok (.bool false) w) {x : Int} (hx : (Lit.int .i64 x).wf = true) : (Instr.lookup t (.map (some b)) (.int .i64 x) false).run P w = .ok (.bool (s x)) w := by
  obtain ⟨D, ho, hs⟩ := h
  obtain ⟨v, ps, hrun, hv⟩ := ho.lookup (int_keyed hk) ht hz (plainElem_bool he false) (keyOf_int_mk hk hx)
  obtain ⟨c, rfl, hc⟩ := plainElem_bool_inv he hv
  rw [hs x] at hc
  simp only [Prod.mk.injEq, DataW.lit.injEq, Lit.bool.injEq] at hc
  rw [hrun, hc.1]
theorem ByteMap.look {s : Int → Option Int} (h : ByteMap P k e w b n s) (hk : P.underlying k = some (.int .i64)) (ht : P.underlying t = some (.map k e)) (he : P.underlying e = some (.int .u8))
    (hz : (zeroValue e).run P w = .ok (.int .u8 0) w) {x : Int} (hx : (Lit.int .i64 x).wf = true) : (Instr.lookup t (.map (some b)) (.int .i64 x) true).run P w = .ok (.tuple #[.int .u8 ((s x).getD 0), .bool (s x).isSome]) w := by
  obtain ⟨D, ho, hs⟩ := h
  obtain ⟨v, ps, hrun, hv⟩ := ho.look_ok (int_keyed hk) ht hz (plainElem_int he (by decide)) (keyOf_int_mk hk hx)
  obtain ⟨c, rfl, hc, _⟩ := plainElem_int_inv he hv
  rw [(hs x).2] at hc
  simp only [Prod.mk.injEq, DataW.lit.injEq, Lit.int.injEq, true_and] at hc
  rw [hrun, hc.1, (hs x).1]
theorem SetMap.store {s : Int → Bool} (h : SetMap P k e w b n s) (hk : P.underlying k = some (.int .i64)) (ht : P.underlying t = some (.map k e)) (he : P.underlying e = some .bool)
    (hn : n < maxLen) {x : Int} (hx : (Lit.int .i64 x).wf = true) : ∃ w', (Instr.mapUpdate t (.map (some b)) (.int .i64 x) (.bool true)).run P w = .ok () w' ∧ SetMap P k e w' b (n + 1) (fun y => y == x || s y) ∧ w.grownBy w' (some b) := by
  obtain ⟨D, ho, hs⟩ := h
  obtain ⟨w', hrun, ho', hg⟩ := ho.update (int_keyed hk) ht hn (keyOf_int_mk hk hx) (plainElem_bool he true)
  refine ⟨w', hrun, ⟨_, ho', fun y => ?_⟩, hg⟩
  by_cases hy : y = x
  · subst hy
    rw [atKey_put_same ho.isMap (by simp [WideAt.IsKeyLit])]
    simp
  · rw [atKey_put_other (by simpa using hy), hs y]
    simp [hy]
theorem ByteMap.store {s : Int → Option Int} (h : ByteMap P k e w b n s) (hk : P.underlying k = some (.int .i64)) (ht : P.underlying t = some (.map k e)) (he : P.underlying e = some (.int .u8))
    (hn : n < maxLen) {x c : Int} (hx : (Lit.int .i64 x).wf = true) (hc : (Lit.int .u8 c).wf = true) : ∃ w', (Instr.mapUpdate t (.map (some b)) (.int .i64 x) (.int .u8 c)).run P w = .ok () w' ∧ ByteMap P k e w' b (n + 1) (fun y => if y = x then some c else s y) ∧ w.grownBy w' (some b) := by
  obtain ⟨D, ho, hs⟩ := h
  obtain ⟨w', hrun, ho', hg⟩ := ho.update (int_keyed hk) ht hn (keyOf_int_mk hk hx) (plainElem_int he hc)
  refine ⟨w', hrun, ⟨_, ho', fun y => ?_⟩, hg⟩
  by_cases hy : y = x
  · subst hy
    rw [atKey_put_same ho.isMap (by simp [WideAt.IsKeyLit]), has_put_same ho.isMap (by simp [WideAt.IsKeyLit])]
    simp
  · rw [atKey_put_other (by simpa using hy), has_put_other (by simpa using hy), (hs y).1, (hs y).2]
    simp [hy]
end
end Go.Proofs.YthpiopjpipdgnaaDoor
