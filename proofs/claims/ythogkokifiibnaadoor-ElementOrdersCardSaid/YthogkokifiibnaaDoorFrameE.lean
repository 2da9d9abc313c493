/- Elements, lists of them, and collations as arguments. -/
import Derived.Test.YthogkokifiibnaaDoorFrame
import Derived.Test.YthogkokifiibnaaDoorEl13
import Derived.Test.YthogkokifiibnaaDoorElP5
import Derived.SliceStrings
namespace Go.Proofs.YthogkokifiibnaaDoor
open Go.ChangeShapes Go.WideShapes Go.ChangeAt Go.RowKit Go.Sort

section
variable {H : Type} {enc : TypeId × Value → H} {W : World} {base : Nat}
/-- a slice whose elements are opened one by one -/
theorem open_rows {D : Type} [Inhabited D] {T E : TypeId} {m : Nat} (hT : Tryd.prog.underlying T = some (.slice E)) (hm : Tryd.prog.cellsOf E = m) (P : Nat → Nat → D → Prop) (Wf : D → Prop)
    (hone : ∀ (fuel : Nat) (a : Addr) (x : DataW H × List MemPlace), (W.cells? 0 a (Tryd.prog.cellsOf E)).bind (DataW.trod enc Tryd.prog W 0 (fun _ => true) true fuel E) = some x → ∃ b off d, a = ⟨b, off, none⟩ ∧ b < W.heap.size ∧ P b off d ∧ Wf d)
    {fuel : Nat} {cs : List Value} {x : DataW H × List MemPlace} (h : DataW.trod enc Tryd.prog W 0 (fun _ => true) true fuel T cs = some x) :
    ∃ (A : Option Addr) (ls : List D) (cap : Nat), cs = [.slice A ls.length cap] ∧ (0 < ls.length → ∃ b off, A = some ⟨b, off, none⟩ ∧ b < W.heap.size ∧ ∀ j, j < ls.length → P b (off + j * m) (ls.getD j default)) ∧ (∀ d ∈ ls, Wf d) ∧ ls.length ≤ 9223372036854775807 ∧ ls.length ≤ cap ∧ (A = none → cap = 0) := by
  rcases DataW.trod_slice hT h with ⟨e, _⟩ | ⟨a, len, cap, elems, rest, n, _, e, _, _, hl, hmx, hlen, hel, _, _⟩
  · exact ⟨none, [], 0, e, (fun h => by simp at h), (fun d h => by cases h), by simp, by simp, fun _ => rfl⟩
  · have each : ∀ i, i < len → ∃ d b off, a.add (i * m) = ⟨b, off, none⟩ ∧ b < W.heap.size ∧ P b off d ∧ Wf d := fun i hi => by
      have h1 := hel i hi
      rw [List.getElem?_eq_getElem (by omega)] at h1
      obtain ⟨b, off, d, h2⟩ := hone _ _ _ h1
      rw [hm] at h2
      exact ⟨d, b, off, h2⟩
    have key : ∀ k, k ≤ len → ∃ ls : List D, ls.length = k ∧ ∀ i, i < k → ∃ b off, a.add (i * m) = ⟨b, off, none⟩ ∧ b < W.heap.size ∧ P b off (ls.getD i default) ∧ Wf (ls.getD i default) := by
      intro k
      induction k with
      | zero => exact fun _ => ⟨[], rfl, fun i hi => by omega⟩
      | succ k ih =>
        intro hk
        obtain ⟨ls, hls, hall⟩ := ih (by omega)
        obtain ⟨d, b, off, h2⟩ := each k (by omega)
        refine ⟨ls ++ [d], by simp [hls], fun i hi => ?_⟩
        by_cases him : i < k
        · obtain ⟨b', off', h3⟩ := hall i him
          rw [show (ls ++ [d]).getD i default = ls.getD i default by rw [List.getD_eq_getElem?_getD, List.getD_eq_getElem?_getD, List.getElem?_append_left (by omega)]]
          exact ⟨b', off', h3⟩
        · obtain rfl : i = k := by omega
          rw [show (ls ++ [d]).getD i default = d by rw [List.getD_eq_getElem?_getD, List.getElem?_append_right (by omega), hls, Nat.sub_self]; rfl]
          exact ⟨b, off, h2⟩
    obtain ⟨ls, hls, hall⟩ := key len (Nat.le_refl _)
    refine ⟨some a, ls, cap, by rw [hls]; exact e, ?_, ?_, by rw [hls]; unfold maxLen at hmx; omega, by omega, fun h => by cases h⟩
    · intro hz
      obtain ⟨b, off, e0, hb, _⟩ := hall 0 (by omega)
      obtain ⟨ab, aoff, asp⟩ := a
      have e0 : (⟨ab, aoff, asp⟩ : Addr) = ⟨b, off, none⟩ := by simpa [Addr.add] using e0
      injection e0 with e1 e2 e3
      subst e1 e2 e3
      refine ⟨ab, aoff, rfl, hb, fun j hj => ?_⟩
      obtain ⟨b', off', ej, _, hL, _⟩ := hall j (by omega)
      rw [Go.WideShapes.add_plain] at ej
      injection ej with e1 e2
      subst e1 e2
      exact hL
    · intro d hd
      obtain ⟨i, hi, rfl⟩ := List.mem_iff_getElem.1 hd
      obtain ⟨_, _, _, _, _, hw⟩ := hall i (by omega)
      rwa [show ls.getD i default = ls[i] by simp [hi]] at hw
/-- the cells of what lies at an address -/
theorem cells_at {a : Addr} {n : Nat} {cs : List Value} (h : W.cells? 0 a n = some cs) (hn : 0 < n) : ∃ b off, a = ⟨b, off, none⟩ ∧ b < W.heap.size ∧ cs.length = n ∧ ∀ i v, cs[i]? = some v → W.cell? ⟨b, off + i, none⟩ = some v := by
  obtain ⟨_, hcl, hcc⟩ := World.cells?_some h
  have h0 := hcc 0 (by omega)
  rw [List.getElem?_eq_getElem (by omega)] at h0
  obtain ⟨b, off, spot⟩ := a
  have hspot : spot = none := by simpa [Addr.add] using World.cell?_spot h0
  subst hspot
  refine ⟨b, off, rfl, ?_, hcl, fun i v hv => ?_⟩
  · rw [Go.WideShapes.add_plain] at h0
    exact block_lt_of_cell h0
  · have hi : i < n := by rw [← hcl]; exact (List.getElem?_eq_some_iff.1 hv).1
    have := hcc i hi
    rw [Go.WideShapes.add_plain] at this
    rw [this, hv]
def WfE (d : ElemD) : Prop := (-9223372036854775808 ≤ d.p ∧ d.p ≤ 9223372036854775807) ∧ (-9223372036854775808 ≤ d.s ∧ d.s ≤ 9223372036854775807) ∧ (-9223372036854775808 ≤ d.t ∧ d.t ≤ 9223372036854775807)
set_option maxRecDepth 100000 in
theorem trod_elem {fuel : Nat} {cs : List Value} {x : DataW H × List MemPlace} (hx : DataW.trod enc Tryd.prog W 0 (fun _ => true) true fuel 33 cs = some x) :
    ∃ d : ElemD, cs = [.int .i64 d.p, .int .i64 d.s, .int .i64 d.t, .bool d.v] ∧ WfE d := by
  have c1 : Tryd.prog.cellsOf 3 = 1 := by kernel_rfl
  have c2 : Tryd.prog.cellsOf 4 = 1 := by kernel_rfl
  have c4 : Tryd.prog.cellsOf 33 = 4 := by kernel_rfl
  obtain ⟨xs, n, _, _, hl, hlen, hf⟩ := DataW.trod_struct Tryd.underlying33 hx
  rw [c4] at hl
  match xs, hlen with
  | [y0, y1, y2, y3], _ =>
    have f0 : DataW.trod enc Tryd.prog W 0 (fun _ => true) true n 3 ((cs.drop 0).take (Tryd.prog.cellsOf 3)) = some y0 := hf 0 _ rfl
    have f1 : DataW.trod enc Tryd.prog W 0 (fun _ => true) true n 3 ((cs.drop 1).take (Tryd.prog.cellsOf 3)) = some y1 := hf 1 _ rfl
    have f2 : DataW.trod enc Tryd.prog W 0 (fun _ => true) true n 3 ((cs.drop 2).take (Tryd.prog.cellsOf 3)) = some y2 := hf 2 _ rfl
    have f3 : DataW.trod enc Tryd.prog W 0 (fun _ => true) true n 4 ((cs.drop 3).take (Tryd.prog.cellsOf 4)) = some y3 := hf 3 _ rfl
    clear hf
    match cs, hl with
    | [v0, v1, v2, v3], _ =>
      rw [c1] at f0 f1 f2
      rw [c2] at f3
      obtain ⟨n0, e0, _, w0⟩ := DataW.trod_int Tryd.underlying3 (x := y0) f0
      obtain ⟨n1, e1, _, w1⟩ := DataW.trod_int Tryd.underlying3 (x := y1) f1
      obtain ⟨n2, e2, _, w2⟩ := DataW.trod_int Tryd.underlying3 (x := y2) f2
      obtain ⟨n3, e3, _⟩ := DataW.trod_bool Tryd.underlying4 (x := y3) f3
      have d0 : v0 = .int .i64 n0 := by simpa using e0
      have d1 : v1 = .int .i64 n1 := by simpa using e1
      have d2 : v2 = .int .i64 n2 := by simpa using e2
      have d3 : v3 = .bool n3 := by simpa using e3
      exact ⟨⟨n0, n1, n2, n3⟩, by rw [d0, d1, d2, d3], bounds_i64 w0, bounds_i64 w1, bounds_i64 w2⟩
set_option maxRecDepth 100000 in
theorem open_elem {v : Value} {d : DataW H} {p : List MemPlace} (hv : Value.okWide Tryd.prog W .any base 33 v) (h : DataW.Trod enc Tryd.prog W 0 (fun _ => true) true 33 v d p) :
    ∃ e : ElemD, v = .agg #[.int .i64 e.p, .int .i64 e.s, .int .i64 e.t, .bool e.v] ∧ WfE e := by
  obtain ⟨cs, rfl, hsz⟩ := okWide_struct Tryd.underlying33 hv
  obtain ⟨fuel, hf⟩ := h
  obtain ⟨e, he, hw⟩ := trod_elem hf
  refine ⟨e, ?_, hw⟩
  obtain ⟨l⟩ := cs
  have he : l = _ := he
  rw [he]
def ElemCell (W : World) (b off : Nat) (d : ElemD) : Prop :=
  W.cell? ⟨b, off, none⟩ = some (.int .i64 d.p) ∧ W.cell? ⟨b, off + 1, none⟩ = some (.int .i64 d.s) ∧ W.cell? ⟨b, off + 2, none⟩ = some (.int .i64 d.t) ∧ W.cell? ⟨b, off + 3, none⟩ = some (.bool d.v)
set_option maxRecDepth 100000 in
theorem open_elem1 (fuel : Nat) (a : Addr) (x : DataW H × List MemPlace) (h : (W.cells? 0 a (Tryd.prog.cellsOf 33)).bind (DataW.trod enc Tryd.prog W 0 (fun _ => true) true fuel 33) = some x) :
    ∃ b off d, a = ⟨b, off, none⟩ ∧ b < W.heap.size ∧ ElemCell W b off d ∧ WfE d := by
  rw [Option.bind_eq_some_iff] at h
  obtain ⟨cs, hcs, hx⟩ := h
  obtain ⟨d, rfl, hw⟩ := trod_elem hx
  obtain ⟨b, off, e, hb, _, hc⟩ := cells_at hcs (by rw [show Tryd.prog.cellsOf 33 = 4 by kernel_rfl]; omega)
  exact ⟨b, off, d, e, hb, ⟨hc 0 _ rfl, hc 1 _ rfl, hc 2 _ rfl, hc 3 _ rfl⟩, hw⟩
set_option maxRecDepth 100000 in
theorem open_elems_at {fuel : Nat} {cs : List Value} {x : DataW H × List MemPlace} (h : DataW.trod enc Tryd.prog W 0 (fun _ => true) true fuel 22 cs = some x) :
    ∃ (A : Option Addr) (ls : List ElemD) (cap : Nat), cs = [.slice A ls.length cap] ∧ ElemsAt W A ls ∧ (∀ d ∈ ls, WfE d) ∧ ls.length ≤ 9223372036854775807 ∧ ls.length ≤ cap ∧ (A = none → cap = 0) :=
  open_rows Tryd.underlying22 (by kernel_rfl) (ElemCell W) WfE open_elem1 h
set_option maxRecDepth 100000 in
theorem open_elems_val {v : Value} {d : DataW H} {p : List MemPlace} (hv : Value.okWide Tryd.prog W .any base 22 v) (h : DataW.Trod enc Tryd.prog W 0 (fun _ => true) true 22 v d p) :
    ∃ (A : Option Addr) (ls : List ElemD) (cap : Nat), v = .slice A ls.length cap ∧ ElemsAt W A ls ∧ (∀ d ∈ ls, WfE d) ∧ ls.length ≤ 9223372036854775807 ∧ ls.length ≤ cap ∧ (A = none → cap = 0) := by
  obtain ⟨a0, len0, cap0, rfl⟩ := okWide_slice Tryd.underlying22 hv
  obtain ⟨fuel, hf⟩ := h
  obtain ⟨A, ls, cap, e, r⟩ := open_elems_at hf
  have e : [Value.slice a0 len0 cap0] = [.slice A ls.length cap] := e
  rw [List.cons.injEq] at e
  exact ⟨A, ls, cap, e.1, r⟩
def GroupCell (W : World) (b off : Nat) (d : GroupD) : Prop :=
  W.cell? ⟨b, off, none⟩ = some (.string ⟨d.name.toArray⟩) ∧ W.cell? ⟨b, off + 1, none⟩ = some (.int .i64 d.lo) ∧ W.cell? ⟨b, off + 2, none⟩ = some (.int .i64 d.hi)
def WfG (d : GroupD) : Prop := d.name.length ≤ 9223372036854775807 ∧ (-9223372036854775808 ≤ d.lo ∧ d.lo ≤ 9223372036854775807) ∧ (-9223372036854775808 ≤ d.hi ∧ d.hi ≤ 9223372036854775807)
set_option maxRecDepth 100000 in
theorem trod_group {fuel : Nat} {cs : List Value} {x : DataW H × List MemPlace} (hx : DataW.trod enc Tryd.prog W 0 (fun _ => true) true fuel 47 cs = some x) :
    ∃ d : GroupD, cs = [.string ⟨d.name.toArray⟩, .int .i64 d.lo, .int .i64 d.hi] ∧ WfG d := by
  have c1 : Tryd.prog.cellsOf 3 = 1 := by kernel_rfl
  have c2 : Tryd.prog.cellsOf 9 = 1 := by kernel_rfl
  have c3 : Tryd.prog.cellsOf 47 = 3 := by kernel_rfl
  obtain ⟨xs, n, _, _, hl, hlen, hf⟩ := DataW.trod_struct Tryd.underlying47 hx
  rw [c3] at hl
  match xs, hlen with
  | [y0, y1, y2], _ =>
    have f0 : DataW.trod enc Tryd.prog W 0 (fun _ => true) true n 9 ((cs.drop 0).take (Tryd.prog.cellsOf 9)) = some y0 := hf 0 _ rfl
    have f1 : DataW.trod enc Tryd.prog W 0 (fun _ => true) true n 3 ((cs.drop 1).take (Tryd.prog.cellsOf 3)) = some y1 := hf 1 _ rfl
    have f2 : DataW.trod enc Tryd.prog W 0 (fun _ => true) true n 3 ((cs.drop 2).take (Tryd.prog.cellsOf 3)) = some y2 := hf 2 _ rfl
    clear hf
    match cs, hl with
    | [v0, v1, v2], _ =>
      rw [c1] at f1 f2
      rw [c2] at f0
      obtain ⟨st, e0, _, hst⟩ := DataW.trod_string Tryd.underlying9 (x := y0) f0
      obtain ⟨n1, e1, _, w1⟩ := DataW.trod_int Tryd.underlying3 (x := y1) f1
      obtain ⟨n2, e2, _, w2⟩ := DataW.trod_int Tryd.underlying3 (x := y2) f2
      have d0 : v0 = .string st := by simpa using e0
      have d1 : v1 = .int .i64 n1 := by simpa using e1
      have d2 : v2 = .int .i64 n2 := by simpa using e2
      exact ⟨⟨st.data.toList, n1, n2⟩, by rw [d0, d1, d2], hst, bounds_i64 w1, bounds_i64 w2⟩
set_option maxRecDepth 100000 in
theorem open_group1 (fuel : Nat) (a : Addr) (x : DataW H × List MemPlace) (h : (W.cells? 0 a (Tryd.prog.cellsOf 47)).bind (DataW.trod enc Tryd.prog W 0 (fun _ => true) true fuel 47) = some x) :
    ∃ b off d, a = ⟨b, off, none⟩ ∧ b < W.heap.size ∧ GroupCell W b off d ∧ WfG d := by
  rw [Option.bind_eq_some_iff] at h
  obtain ⟨cs, hcs, hx⟩ := h
  obtain ⟨d, rfl, hw⟩ := trod_group hx
  obtain ⟨b, off, e, hb, _, hc⟩ := cells_at hcs (by rw [show Tryd.prog.cellsOf 47 = 3 by kernel_rfl]; omega)
  exact ⟨b, off, d, e, hb, ⟨hc 0 _ rfl, hc 1 _ rfl, hc 2 _ rfl⟩, hw⟩
set_option maxRecDepth 100000 in
theorem open_groups_at {fuel : Nat} {cs : List Value} {x : DataW H × List MemPlace} (h : DataW.trod enc Tryd.prog W 0 (fun _ => true) true fuel 37 cs = some x) :
    ∃ (A : Option Addr) (ls : List GroupD) (cap : Nat), cs = [.slice A ls.length cap] ∧ GroupsAt W A ls ∧ (∀ d ∈ ls, WfG d) ∧ ls.length ≤ 9223372036854775807 ∧ ls.length ≤ cap ∧ (A = none → cap = 0) :=
  open_rows Tryd.underlying37 (by kernel_rfl) (GroupCell W) WfG open_group1 h
def EntCell (W : World) (b off : Nat) (d : EntryD) : Prop :=
  (∃ B c, W.cell? ⟨b, off, none⟩ = some (.slice B d.codes.length c) ∧ IntsAt W B d.codes) ∧ (∃ B c, W.cell? ⟨b, off + 1, none⟩ = some (.slice B d.els.length c) ∧ ElemsAt W B d.els)
def WfN (d : EntryD) : Prop := d.codes.length ≤ 9223372036854775807 ∧ d.els.length ≤ 9223372036854775807 ∧ WfInts d.codes ∧ ∀ e ∈ d.els, WfE e
set_option maxRecDepth 100000 in
theorem open_entry1 (fuel : Nat) (a : Addr) (x : DataW H × List MemPlace) (h : (W.cells? 0 a (Tryd.prog.cellsOf 50)).bind (DataW.trod enc Tryd.prog W 0 (fun _ => true) true fuel 50) = some x) :
    ∃ b off d, a = ⟨b, off, none⟩ ∧ b < W.heap.size ∧ EntCell W b off d ∧ WfN d := by
  have c1 : Tryd.prog.cellsOf 48 = 1 := by kernel_rfl
  have c2 : Tryd.prog.cellsOf 22 = 1 := by kernel_rfl
  have c3 : Tryd.prog.cellsOf 50 = 2 := by kernel_rfl
  rw [Option.bind_eq_some_iff] at h
  obtain ⟨cs, hcs, hx⟩ := h
  obtain ⟨b, off, e, hb, _, hc⟩ := cells_at hcs (by rw [c3]; omega)
  obtain ⟨xs, n, _, _, hl, hlen, hf⟩ := DataW.trod_struct Tryd.underlying50 hx
  rw [c3] at hl
  match xs, hlen with
  | [y0, y1], _ =>
    have f0 : DataW.trod enc Tryd.prog W 0 (fun _ => true) true n 48 ((cs.drop 0).take (Tryd.prog.cellsOf 48)) = some y0 := hf 0 _ rfl
    have f1 : DataW.trod enc Tryd.prog W 0 (fun _ => true) true n 22 ((cs.drop 1).take (Tryd.prog.cellsOf 22)) = some y1 := hf 1 _ rfl
    clear hf
    match cs, hl with
    | [v0, v1], _ =>
      rw [c1] at f0
      rw [c2] at f1
      obtain ⟨A0, zs, cap0, e0, hI, hwf, hl0, hcp⟩ := open_ints_at (x := y0) f0
      obtain ⟨A1, ls, cap1, e1, hE, hwe, hl1, _⟩ := open_elems_at (x := y1) f1
      have d0 : v0 = .slice A0 zs.length cap0 := by simpa using e0
      have d1 : v1 = .slice A1 ls.length cap1 := by simpa using e1
      exact ⟨b, off, ⟨zs, ls⟩, e, hb, ⟨⟨A0, cap0, by rw [← d0]; exact hc 0 _ rfl, hI⟩, ⟨A1, cap1, by rw [← d1]; exact hc 1 _ rfl, hE⟩⟩, by dsimp only; omega, hl1, hwf, hwe⟩
set_option maxRecDepth 100000 in
theorem open_entries_at {fuel : Nat} {cs : List Value} {x : DataW H × List MemPlace} (h : DataW.trod enc Tryd.prog W 0 (fun _ => true) true fuel 36 cs = some x) :
    ∃ (A : Option Addr) (ls : List EntryD) (cap : Nat), cs = [.slice A ls.length cap] ∧ EntsAt W A ls ∧ (∀ d ∈ ls, WfN d) ∧ ls.length ≤ 9223372036854775807 ∧ ls.length ≤ cap ∧ (A = none → cap = 0) :=
  open_rows Tryd.underlying36 (by kernel_rfl) (EntCell W) WfN open_entry1 h
/-- what is known of a collation that comes in -/
structure WfColl (c : CollD) : Prop where
  ne : c.entries.length ≤ 9223372036854775807
  ng : c.groups.length ≤ 9223372036854775807
  e : ∀ x ∈ c.entries, WfN x
  g : ∀ x ∈ c.groups, WfG x
  b : -9223372036854775808 ≤ c.base ∧ c.base ≤ 9223372036854775807
  s : -9223372036854775808 ≤ c.second ∧ c.second ≤ 9223372036854775807
  t : -9223372036854775808 ≤ c.third ∧ c.third ≤ 9223372036854775807
set_option maxRecDepth 100000 in
theorem open_coll {v : Value} {d : DataW H} {p : List MemPlace} (hv : Value.okWide Tryd.prog W .any base 39 v) (h : DataW.Trod enc Tryd.prog W 0 (fun _ => true) true 39 v d p) :
    ∃ (c : CollD) (AE AG : Option Addr) (cE cG : Nat), v = .agg #[.slice AE c.entries.length cE, .slice AG c.groups.length cG, .int .i64 c.base, .int .i64 c.second, .int .i64 c.third] ∧ EntsAt W AE c.entries ∧ GroupsAt W AG c.groups ∧ WfColl c := by
  have c1 : Tryd.prog.cellsOf 36 = 1 := by kernel_rfl
  have c2 : Tryd.prog.cellsOf 37 = 1 := by kernel_rfl
  have c3 : Tryd.prog.cellsOf 3 = 1 := by kernel_rfl
  have c5 : Tryd.prog.cellsOf 39 = 5 := by kernel_rfl
  obtain ⟨cs, rfl, hsz⟩ := okWide_struct Tryd.underlying39 hv
  obtain ⟨fuel, hf0⟩ := h
  obtain ⟨xs, n, _, _, hl, hlen, hf⟩ := DataW.trod_struct Tryd.underlying39 hf0
  rw [c5] at hl
  obtain ⟨l⟩ := cs
  have hl : l.length = 5 := hl
  match xs, hlen with
  | [y0, y1, y2, y3, y4], _ =>
    have f0 : DataW.trod enc Tryd.prog W 0 (fun _ => true) true n 36 ((l.drop 0).take (Tryd.prog.cellsOf 36)) = some y0 := hf 0 _ rfl
    have f1 : DataW.trod enc Tryd.prog W 0 (fun _ => true) true n 37 ((l.drop 1).take (Tryd.prog.cellsOf 37)) = some y1 := hf 1 _ rfl
    have f2 : DataW.trod enc Tryd.prog W 0 (fun _ => true) true n 3 ((l.drop 2).take (Tryd.prog.cellsOf 3)) = some y2 := hf 2 _ rfl
    have f3 : DataW.trod enc Tryd.prog W 0 (fun _ => true) true n 3 ((l.drop 3).take (Tryd.prog.cellsOf 3)) = some y3 := hf 3 _ rfl
    have f4 : DataW.trod enc Tryd.prog W 0 (fun _ => true) true n 3 ((l.drop 4).take (Tryd.prog.cellsOf 3)) = some y4 := hf 4 _ rfl
    clear hf
    match l, hl with
    | [v0, v1, v2, v3, v4], _ =>
      rw [c1] at f0
      rw [c2] at f1
      rw [c3] at f2 f3 f4
      obtain ⟨A0, es, cap0, e0, hE, hwe, hl0, _⟩ := open_entries_at (x := y0) f0
      obtain ⟨A1, gs, cap1, e1, hG, hwg, hl1, _⟩ := open_groups_at (x := y1) f1
      obtain ⟨n2, e2, _, w2⟩ := DataW.trod_int Tryd.underlying3 (x := y2) f2
      obtain ⟨n3, e3, _, w3⟩ := DataW.trod_int Tryd.underlying3 (x := y3) f3
      obtain ⟨n4, e4, _, w4⟩ := DataW.trod_int Tryd.underlying3 (x := y4) f4
      have d0 : v0 = .slice A0 es.length cap0 := by simpa using e0
      have d1 : v1 = .slice A1 gs.length cap1 := by simpa using e1
      have d2 : v2 = .int .i64 n2 := by simpa using e2
      have d3 : v3 = .int .i64 n3 := by simpa using e3
      have d4 : v4 = .int .i64 n4 := by simpa using e4
      exact ⟨⟨es, gs, n2, n3, n4⟩, A0, A1, cap0, cap1, by rw [d0, d1, d2, d3, d4], hE, hG, ⟨hl0, hl1, hwe, hwg, bounds_i64 w2, bounds_i64 w3, bounds_i64 w4⟩⟩
theorem WfColl.wf {c : CollD} (h : WfColl c) : WfC c := ⟨h.b.2, h.s.2, h.t.2, fun x hx => ⟨(h.g x hx).2.1.2, (h.g x hx).2.2.2⟩⟩
end
end Go.Proofs.YthogkokifiibnaaDoor
