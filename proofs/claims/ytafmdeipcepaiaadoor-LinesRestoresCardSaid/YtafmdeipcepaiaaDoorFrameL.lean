/- Lists of lines as arguments. -/
import Derived.Test.YtafmdeipcepaiaaDoorFrame
import Derived.Test.YtafmdeipcepaiaaDoorLn5
import Derived.SliceStrings
namespace Go.Proofs.YtafmdeipcepaiaaDoor
open Go.ChangeShapes Go.WideShapes Go.ChangeAt Go.RowKit Go.Sort

section
variable {H : Type} {enc : TypeId × Value → H} {W : World} {base : Nat}
/-- a slice of strings -/
theorem open_strs_at {fuel : Nat} {cs : List Value} {x : DataW H × List MemPlace} (h : DataW.trod enc Tryd.prog W 0 (fun _ => true) true fuel 31 cs = some x) :
    ∃ (A : Option Addr) (ps : List (List UInt8)) (cap : Nat), cs = [.slice A ps.length cap] ∧ StrsAt W A ps ∧ ps.length ≤ 9223372036854775807 ∧ ∀ p ∈ ps, p.length ≤ 9223372036854775807 := by
  rcases open_strings Tryd.underlying31 Tryd.underlying9 (by kernel_rfl) h with ⟨rfl, _⟩ | ⟨a, len, cap, ss, rfl, _, hl, hm, hz, hx, hcell, hwz⟩
  · exact ⟨none, [], 0, rfl, fun h => by simp at h, by simp, fun p hp => by cases hp⟩
  · simp only [if_true] at hz
    have hlen : ((ss.take len).map fun s => s.data.toList).length = len := by simp; omega
    refine ⟨some a, (ss.take len).map fun s => s.data.toList, cap, by rw [hlen], ?_, by rw [hlen]; unfold maxLen at hm; omega, ?_⟩
    · intro h0
      rw [hlen] at h0
      have h00 := hcell 0 (by omega)
      obtain ⟨b, off, spot⟩ := a
      have hspot : spot = none := by simpa [Addr.add] using World.cell?_spot h00
      subst hspot
      refine ⟨b, off, rfl, ?_, fun j hj => ?_⟩
      · exact block_lt_of_cell h00
      · rw [hlen] at hj
        have := hcell j (by omega)
        rw [Go.WideShapes.add_plain] at this
        rw [this]
        unfold piece
        rw [List.getD_eq_getElem?_getD, List.getD_eq_getElem?_getD, List.getElem?_map, List.getElem?_take_of_lt hj, List.getElem?_eq_getElem (show j < ss.length by omega)]
        rfl
    · intro p hp
      obtain ⟨s, hs, rfl⟩ := List.mem_map.1 hp
      have := hwz s (List.mem_of_mem_take hs)
      have e : s.data.toList.length = s.size := rfl
      rw [e]
      exact this
/-- the cells of a line -/
def LineAt (W : World) (b off : Nat) (d : LineD) : Prop :=
  W.cell? ⟨b, off, none⟩ = some (.int .i64 d.num) ∧ W.cell? ⟨b, off + 1, none⟩ = some (.int .i64 d.lo) ∧ W.cell? ⟨b, off + 2, none⟩ = some (.int .i64 d.hi) ∧
    (∃ B c, W.cell? ⟨b, off + 3, none⟩ = some (.slice B d.fields.length c) ∧ StrsAt W B d.fields) ∧ W.cell? ⟨b, off + 4, none⟩ = some (.string ⟨d.com.toArray⟩)
structure WfLine (d : LineD) : Prop where
  cnt : d.fields.length ≤ 9223372036854775807
  len : ∀ f ∈ d.fields, f.length ≤ 9223372036854775807
  com : d.com.length ≤ 9223372036854775807
set_option maxRecDepth 100000 in
theorem open_line {fuel : Nat} {a : Addr} {x : DataW H × List MemPlace} (h : (W.cells? 0 a (Tryd.prog.cellsOf 35)).bind (DataW.trod enc Tryd.prog W 0 (fun _ => true) true fuel 35) = some x) :
    ∃ b off d, a = ⟨b, off, none⟩ ∧ b < W.heap.size ∧ LineAt W b off d ∧ WfLine d := by
  have hc5 : Tryd.prog.cellsOf 35 = 5 := by kernel_rfl
  have c1 : Tryd.prog.cellsOf 3 = 1 := by kernel_rfl
  have c2 : Tryd.prog.cellsOf 31 = 1 := by kernel_rfl
  have c3 : Tryd.prog.cellsOf 9 = 1 := by kernel_rfl
  rw [hc5, Option.bind_eq_some_iff] at h
  obtain ⟨cs, hcs, hx⟩ := h
  obtain ⟨xs, n, _, _, hl, hlen, hf⟩ := DataW.trod_struct Tryd.underlying35 hx
  obtain ⟨_, hcl, hcc⟩ := World.cells?_some hcs
  match xs, hlen with
  | [y0, y1, y2, y3, y4], _ =>
    have f0 : DataW.trod enc Tryd.prog W 0 (fun _ => true) true n 3 ((cs.drop 0).take (Tryd.prog.cellsOf 3)) = some y0 := hf 0 _ rfl
    have f1 : DataW.trod enc Tryd.prog W 0 (fun _ => true) true n 3 ((cs.drop 1).take (Tryd.prog.cellsOf 3)) = some y1 := hf 1 _ rfl
    have f2 : DataW.trod enc Tryd.prog W 0 (fun _ => true) true n 3 ((cs.drop 2).take (Tryd.prog.cellsOf 3)) = some y2 := hf 2 _ rfl
    have f3 : DataW.trod enc Tryd.prog W 0 (fun _ => true) true n 31 ((cs.drop 3).take (Tryd.prog.cellsOf 31)) = some y3 := hf 3 _ rfl
    have f4 : DataW.trod enc Tryd.prog W 0 (fun _ => true) true n 9 ((cs.drop 4).take (Tryd.prog.cellsOf 9)) = some y4 := hf 4 _ rfl
    clear hf
    match cs, hcl with
    | [v0, v1, v2, v3, v4], _ =>
      rw [c1] at f0 f1 f2
      rw [c2] at f3
      rw [c3] at f4
      obtain ⟨n0, e0, _, _⟩ := DataW.trod_int Tryd.underlying3 (x := y0) f0
      obtain ⟨n1, e1, _, _⟩ := DataW.trod_int Tryd.underlying3 (x := y1) f1
      obtain ⟨n2, e2, _, _⟩ := DataW.trod_int Tryd.underlying3 (x := y2) f2
      obtain ⟨B, ps, c, e3, hS, hcn, hln⟩ := open_strs_at (x := y3) f3
      obtain ⟨st, e4, _, hst⟩ := DataW.trod_string Tryd.underlying9 (x := y4) f4
      have d0 : v0 = .int .i64 n0 := by simpa using e0
      have d1 : v1 = .int .i64 n1 := by simpa using e1
      have d2 : v2 = .int .i64 n2 := by simpa using e2
      have d3 : v3 = .slice B ps.length c := by simpa using e3
      have d4 : v4 = .string st := by simpa using e4
      have k0 := hcc 0 (by omega)
      obtain ⟨b, off, spot⟩ := a
      have k0' : W.cell? ((⟨b, off, spot⟩ : Addr).add 0) = some v0 := k0
      have hspot : spot = none := by simpa [Addr.add] using World.cell?_spot k0'
      rw [hspot] at hcc k0' ⊢
      have g : ∀ i v u, i < 5 → [v0, v1, v2, v3, v4][i]? = some v → v = u → W.cell? ⟨b, off + i, none⟩ = some u := fun i v u hi hv hu => by
        have := hcc i hi
        rw [Go.WideShapes.add_plain] at this
        rw [this, hv, hu]
      have g0 := g 0 _ _ (by omega) rfl d0
      exact ⟨b, off, ⟨n0, n1, n2, ps, st.data.toList⟩, rfl, block_lt_of_cell g0, ⟨g0, g 1 _ _ (by omega) rfl d1, g 2 _ _ (by omega) rfl d2, ⟨B, c, g 3 _ _ (by omega) rfl d3, hS⟩, g 4 _ _ (by omega) rfl d4⟩, ⟨hcn, hln, hst⟩⟩
set_option maxRecDepth 100000 in
theorem open_lines_val {v : Value} {d : DataW H} {p : List MemPlace} (hv : Value.okWide Tryd.prog W .any base 23 v) (h : DataW.Trod enc Tryd.prog W 0 (fun _ => true) true 23 v d p) :
    ∃ (A : Option Addr) (ls : List LineD) (cap : Nat), v = .slice A ls.length cap ∧ LinesAt W A ls ∧ (∀ d ∈ ls, WfLine d) ∧ ls.length ≤ 9223372036854775807 := by
  obtain ⟨a0, len0, cap0, rfl⟩ := okWide_slice Tryd.underlying23 hv
  obtain ⟨fuel, hf⟩ := h
  rcases DataW.trod_slice Tryd.underlying23 hf with ⟨e, _⟩ | ⟨a, len, cap, elems, rest, n, _, e, _, _, hl, hm, hlen, hel, _, _⟩
  · have e : Value.slice a0 len0 cap0 = .slice none 0 0 := by simpa [Value.cells] using e
    exact ⟨none, [], 0, e, (fun h => by simp at h), (fun d h => by cases h), by simp⟩
  · have e : Value.slice a0 len0 cap0 = .slice (some a) len cap := by simpa [Value.cells] using e
    rw [e]
    have hc5 : Tryd.prog.cellsOf 35 = 5 := by kernel_rfl
    have each : ∀ i, i < len → ∃ d b off, a.add (i * 5) = ⟨b, off, none⟩ ∧ b < W.heap.size ∧ LineAt W b off d ∧ WfLine d := fun i hi => by
      have h1 := hel i hi
      rw [List.getElem?_eq_getElem (by omega)] at h1
      obtain ⟨b, off, d, h2⟩ := open_line h1
      rw [hc5] at h2
      exact ⟨d, b, off, h2⟩
    have key : ∀ m, m ≤ len → ∃ ls : List LineD, ls.length = m ∧ ∀ i, i < m → ∃ b off, a.add (i * 5) = ⟨b, off, none⟩ ∧ b < W.heap.size ∧ LineAt W b off (lineAt ls i) ∧ WfLine (lineAt ls i) := by
      intro m
      induction m with
      | zero => exact fun _ => ⟨[], rfl, fun i hi => by omega⟩
      | succ m ih =>
        intro hm
        obtain ⟨ls, hls, hall⟩ := ih (by omega)
        obtain ⟨d, b, off, h2⟩ := each m (by omega)
        refine ⟨ls ++ [d], by simp [hls], fun i hi => ?_⟩
        by_cases him : i < m
        · obtain ⟨b', off', h3⟩ := hall i him
          rw [show lineAt (ls ++ [d]) i = lineAt ls i by unfold lineAt; rw [List.getD_eq_getElem?_getD, List.getD_eq_getElem?_getD, List.getElem?_append_left (by omega)]]
          exact ⟨b', off', h3⟩
        · obtain rfl : i = m := by omega
          rw [show lineAt (ls ++ [d]) i = d by unfold lineAt; rw [List.getD_eq_getElem?_getD, List.getElem?_append_right (by omega), hls, Nat.sub_self]; rfl]
          exact ⟨b, off, h2⟩
    obtain ⟨ls, hls, hall⟩ := key len (Nat.le_refl _)
    refine ⟨some a, ls, cap, by rw [hls], ?_, ?_, by rw [hls]; unfold maxLen at hm; omega⟩
    · intro hz
      obtain ⟨b, off, e0, hb, _⟩ := hall 0 (by omega)
      obtain ⟨ab, aoff, asp⟩ := a
      have e0 : (⟨ab, aoff, asp⟩ : Addr) = ⟨b, off, none⟩ := by simpa [Addr.add] using e0
      injection e0 with e1 e2 e3
      subst e1 e2 e3
      refine ⟨ab, aoff, rfl, hb, fun j hj => ?_⟩
      obtain ⟨b', off', ej, _, hL, _⟩ := hall j (by omega)
      rw [Go.WideShapes.add_plain] at ej
      injection ej with e1 e2
      subst e1 e2
      exact hL
    · intro d hd
      obtain ⟨i, hi, rfl⟩ := List.mem_iff_getElem.1 hd
      obtain ⟨_, _, _, _, _, hw⟩ := hall i (by omega)
      rwa [show lineAt ls i = ls[i] by simp [lineAt, hi]] at hw
end
end Go.Proofs.YtafmdeipcepaiaaDoor
