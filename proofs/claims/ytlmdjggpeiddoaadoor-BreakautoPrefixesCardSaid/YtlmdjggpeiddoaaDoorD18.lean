/- What every law's proof shares: what the row's conditions give, how arguments are opened, the post of a law that returns true and changes nothing old, and the witness's world. Slices of ints as arguments, with what a nil one's capacity is. The environment out of the row's conditions for tables; tables as arguments; the witness's world. -/
import Derived.Test.YtlmdjggpeiddoaaDoorRows
import Derived.Test.YtlmdjggpeiddoaaDoorD1
import Derived.WalkKit
import Derived.ProofKit
import Derived.OpenShut
import Derived.Carry
import Derived.Deep.DeepHandedRow
import Derived.Lib.LaidTab
import Derived.KernelRfl
import Derived.Test.YtlmdjggpeiddoaaDoorD8
import Derived.SliceStrings
namespace Go.Proofs.YtlmdjggpeiddoaaDoor
open Go.ChangeShapes Go.WideShapes Go.ChangeAt Go.RowKit
open Go.ChangeMaps (open_string)

theorem own : ownKnob Tryd.prog.godebug = none := by kernel_rfl
theorem laidOut : laidOutB Tryd.prog = true := by kernel_rfl

section
variable {H : Type} {enc : TypeId × Value → H} {W W' : World}

theorem trodAll_below : ∀ {ts : List TypeId} {vs : List Value} {ds : List (DataW H)} {ps : List MemPlace}, (∀ t ∈ ts, Tryd.prog.readableRec t = true ∧ t < Tryd.prog.types.size) → DataW.TrodAll enc Tryd.prog W 0 (fun _ => true) true ts vs ds ps →
    Below W.heap.size W W' → (∀ x ∈ ps, x.block < W.heap.size) → DataW.TrodAll enc Tryd.prog W' 0 (fun b => decide (b < W.heap.size)) true ts vs ds ps
  | [], _, _, _, _, h, _, _ => by
    obtain ⟨rfl, rfl, rfl⟩ := trodAll_nil h
    exact trodAll_mk0
  | t :: ts, _, _, _, ht, h, hb, hlt => by
    obtain ⟨v, vs, d, ds, p, q, rfl, rfl, rfl, h0, r0⟩ := trodAll_cons h
    obtain ⟨hr, hrow⟩ := ht t (by simp)
    exact trodAll_cons_mk (Below.trod laidOut hr hrow h0 hb (fun x hx => hlt x (by simp [hx])))
      (trodAll_below (fun t' ht' => ht t' (by simp [ht'])) r0 hb (fun x hx => hlt x (by simp [hx])))

/-- A law that returns true and changes nothing that was there. -/
theorem law_post {f : Func} {s : ChangeSpec} {args : Array Value} {ds gs : List (DataW H)} {before : List MemPlace} (hres : f.resultTypes = #[4])
    (hts : ∀ t ∈ f.params.toList, Tryd.prog.readableRec t = true ∧ t < Tryd.prog.types.size) (hvars : s.vars = [])
    (hW : DataW.Whole enc Tryd.prog f.params.toList s.vars false W args.toList ds gs before) (h1 : (s.fn H (ds ++ gs)).results = [.lit (.bool true)]) (h2 : (s.fn H (ds ++ gs)).args = ds) (h3 : (s.fn H (ds ++ gs)).vars = [])
    (hb : Below W.heap.size W W') : s.post enc Tryd.prog f false true false false W args (.bool true) W' := by
  have hW0 := hW
  have hlt := hW.lt
  obtain ⟨p, q, hA, hV, rfl, hfz, hnd⟩ := hW
  rw [hvars] at hV
  obtain ⟨rfl, rfl⟩ := trodVars_none hV
  refine ⟨ds, [], p ++ [], [], p, [], hW0, ?_, ?_, ?_, hb.frame _, fun h => by cases h⟩
  · rw [h1, hres]
    exact trodAll_cons_mk (shut_bool Tryd.underlying4 true) trodAll_mk0
  · rw [h2]
    exact trodAll_below hts hA hb (fun x hx => hlt x (by simp [hx]))
  · rw [h3, hvars]
    rfl
end

/-- the rest of a list of laid variables -/
theorem laidMet_tail {P : Program} {x : String × DataW Unit} {rest : List (String × DataW Unit)} {W : World} (h : laidMet P (x :: rest) W) : laidMet P rest W := by
  obtain ⟨ps, ⟨g, t, cs, fuel, p, q, _, _, _, _, hq, rfl⟩, hnd, hc⟩ := h
  exact ⟨q, hq, (List.nodup_append.1 hnd).2.1, fun b off hm => hc b off (by simp [hm])⟩

theorem lits_take (k : IntKind) (zs : List Int) : ∀ n, lits (H := Unit) k (zs.take n) = (lits k zs).take n := by
  intro n; simp [lits, List.map_take]

section
variable {H : Type} {enc : TypeId × Value → H} {W : World} {base : Nat}
/-- a slice of ints -/
theorem open_ints_at {fuel : Nat} {cs : List Value} {x : DataW H × List MemPlace} (h : DataW.trod enc Tryd.prog W 0 (fun _ => true) true fuel 23 cs = some x) :
    ∃ (A : Option Addr) (zs : List Int) (cap : Nat), cs = [.slice A zs.length cap] ∧ IntsAt W A zs ∧ WfInts zs ∧ zs.length ≤ cap ∧ cap ≤ 9223372036854775807 := by
  rcases open_ints Tryd.underlying23 Tryd.underlying3 (by kernel_rfl) h with ⟨rfl, _⟩ | ⟨a, len, cap, zs, rfl, _, hl, hm, hz, hx, hcell, hwz⟩
  · exact ⟨none, [], 0, rfl, IntsAt.nil, fun z hz => by simp at hz, Nat.le_refl _, by omega⟩
  · simp only [if_true] at hz
    have hlen : (zs.take len).length = len := by simp; omega
    refine ⟨some a, zs.take len, cap, by rw [hlen], ?_, ?_, by omega, by unfold maxLen at hm; omega⟩
    · intro h0
      rw [hlen] at h0
      obtain ⟨b, off, rfl, hc⟩ := ints_at hcell (by omega)
      refine ⟨b, off, rfl, ?_, fun j hj => ?_⟩
      · have := hc 0 (by omega)
        exact block_lt_of_cell this
      · rw [hlen] at hj
        rw [hc j (by omega)]
        unfold nth
        rw [List.getD_eq_getElem?_getD, List.getD_eq_getElem?_getD, List.getElem?_take_of_lt hj]
    · intro z hz'
      have := hwz z (List.mem_of_mem_take hz')
      exact bounds_i64 this
set_option maxRecDepth 100000 in
theorem open_ints_val {v : Value} {d : DataW H} {p : List MemPlace} (hv : Value.okWide Tryd.prog W .any base 23 v) (h : DataW.Trod enc Tryd.prog W 0 (fun _ => true) true 23 v d p) :
    ∃ (A : Option Addr) (zs : List Int) (cap : Nat), v = .slice A zs.length cap ∧ IntsAt W A zs ∧ WfInts zs ∧ zs.length ≤ cap ∧ cap ≤ 9223372036854775807 := by
  obtain ⟨a0, len, cap, rfl⟩ := okWide_slice Tryd.underlying23 hv
  obtain ⟨fuel, hf⟩ := h
  obtain ⟨A, zs, c, e, h1, h2, h3, h4⟩ := open_ints_at hf
  have e' : [Value.slice a0 len cap] = [.slice A zs.length c] := e
  rw [List.cons.injEq] at e'
  exact ⟨A, zs, c, e'.1, h1, h2, h3, h4⟩
end

section
variable {H : Type} {enc : TypeId × Value → H} {W : World} {base : Nat}
set_option maxRecDepth 100000 in
theorem open_str {v : Value} {d : DataW H} {p : List MemPlace} (hv : Value.okWide Tryd.prog W .any base 9 v) (h : DataW.Trod enc Tryd.prog W 0 (fun _ => true) true 9 v d p) :
    ∃ l : List UInt8, v = .string ⟨l.toArray⟩ ∧ l.length ≤ 9223372036854775807 := by
  obtain ⟨s, rfl, _, _, hs⟩ := open_string Tryd.underlying9 hv h
  obtain ⟨⟨l⟩⟩ := s
  exact ⟨l, rfl, hs⟩
end

/-- the cells of a datum that is laid flat -/
def flatCells : Nat → DataW Unit → List Value
  | _, .lit (.int k n) => [.int k n]
  | n + 1, .agg l => l.flatMap (flatCells n)
  | _, _ => []
/-- a world whose blocks hold given cells -/
def layCells (w : World) (b : Nat) (cs : Array Value) : World :=
  { w with heap := w.heap.modify b fun | .cells _ t frozen => .cells cs t frozen | o => o }
end Go.Proofs.YtlmdjggpeiddoaaDoor
namespace Go.Proofs.YtlmdjggpeiddoaaDoor
open Go.ChangeShapes Go.WideShapes Go.ChangeAt Go.RowKit
section
variable {H : Type} {enc : TypeId × Value → H} {W : World} {base : Nat}
/-- a slice of ints -/
theorem open_ints_atN {fuel : Nat} {cs : List Value} {x : DataW H × List MemPlace} (h : DataW.trod enc Tryd.prog W 0 (fun _ => true) true fuel 23 cs = some x) :
    ∃ (A : Option Addr) (zs : List Int) (cap : Nat), cs = [.slice A zs.length cap] ∧ IntsAt W A zs ∧ WfInts zs ∧ zs.length ≤ cap ∧ cap ≤ 9223372036854775807 ∧ (A = none → cap = 0) := by
  rcases open_ints Tryd.underlying23 Tryd.underlying3 (by kernel_rfl) h with ⟨rfl, _⟩ | ⟨a, len, cap, zs, rfl, _, hl, hm, hz, hx, hcell, hwz⟩
  · exact ⟨none, [], 0, rfl, IntsAt.nil, fun z hz => by simp at hz, Nat.le_refl _, by omega, fun _ => rfl⟩
  · simp only [if_true] at hz
    have hlen : (zs.take len).length = len := by simp; omega
    refine ⟨some a, zs.take len, cap, by rw [hlen], ?_, ?_, by omega, by unfold maxLen at hm; omega, fun h => by cases h⟩
    · intro h0
      rw [hlen] at h0
      obtain ⟨b, off, rfl, hc⟩ := ints_at hcell (by omega)
      refine ⟨b, off, rfl, ?_, fun j hj => ?_⟩
      · have := hc 0 (by omega)
        exact block_lt_of_cell this
      · rw [hlen] at hj
        rw [hc j (by omega)]
        unfold nth
        rw [List.getD_eq_getElem?_getD, List.getD_eq_getElem?_getD, List.getElem?_take_of_lt hj]
    · intro z hz'
      have := hwz z (List.mem_of_mem_take hz')
      exact bounds_i64 this
set_option maxRecDepth 100000 in
theorem open_ints_valN {v : Value} {d : DataW H} {p : List MemPlace} (hv : Value.okWide Tryd.prog W .any base 23 v) (h : DataW.Trod enc Tryd.prog W 0 (fun _ => true) true 23 v d p) :
    ∃ (A : Option Addr) (zs : List Int) (cap : Nat), v = .slice A zs.length cap ∧ IntsAt W A zs ∧ WfInts zs ∧ zs.length ≤ cap ∧ cap ≤ 9223372036854775807 ∧ (A = none → cap = 0) := by
  obtain ⟨a0, len, cap, rfl⟩ := okWide_slice Tryd.underlying23 hv
  obtain ⟨fuel, hf⟩ := h
  obtain ⟨A, zs, c, e, h1, h2, h3, h4, h5⟩ := open_ints_atN hf
  have e' : [Value.slice a0 len cap] = [.slice A zs.length c] := e
  rw [List.cons.injEq] at e'
  exact ⟨A, zs, c, e'.1, h1, h2, h3, h4, h5⟩
end
end Go.Proofs.YtlmdjggpeiddoaaDoor
namespace Go.Proofs.YtlmdjggpeiddoaaDoor
open Go.ChangeShapes Go.WideShapes Go.ChangeAt Go.RowKit Go.Sort

def laidB : List (String × DataW Unit) := [("math/bits.deBruijn32tab", Rows.laid_math_bits_deBruijn32tab), ("math/bits.deBruijn64tab", Rows.laid_math_bits_deBruijn64tab), ("internal/strconv.uint64pow10", Rows.laid_internal_strconv_uint64pow10)]
theorem gPow : Tryd.prog.globalNamed "internal/strconv.uint64pow10" = some 0 := by kernel_rfl
theorem gPowType : (Tryd.prog.globals[0]?).map (·.type) = some 158 := by kernel_rfl
theorem cells20 : Tryd.prog.cellsOf 158 = 20 := by kernel_rfl
theorem cellsU64 : Tryd.prog.cellsOf 132 = 1 := by kernel_rfl
theorem noHandles : laidB.filter (fun x => x.2.handleName?.isSome) = [] := by kernel_rfl
theorem powData : (Rows.laid_internal_strconv_uint64pow10 : DataW Unit) = Lib.tabData .u64 Lib.pow10Tab := by kernel_rfl
theorem env_of {W : World} (hL : laidMetH Tryd.prog laidB W) (_hS : W.ShapedOpen Tryd.prog) : EnvB W := by
  have hL' : laidMet Tryd.prog laidB W := by
    unfold laidMetH at hL
    rw [noHandles] at hL
    exact hL
  have h2 := laidMet_tail (laidMet_tail hL')
  rw [powData] at h2
  exact Lib.tabIs_of_head gPow gPowType Tryd.underlying158 Tryd.underlying132 cellsU64 cells20 h2
/-- a world for the witness: the settled one, the listed variables holding what their initialisers lay -/
noncomputable def laidWorld (os : Os) : World :=
  layCells (layCells (layCells (World.holding Tryd.prog os ⟨#[], #[], []⟩)
    1 (flatCells 8 Rows.laid_math_bits_deBruijn32tab).toArray)
    2 (flatCells 8 Rows.laid_math_bits_deBruijn64tab).toArray)
    0 (flatCells 8 Rows.laid_internal_strconv_uint64pow10).toArray

section
variable {H : Type} {enc : TypeId × Value → H} {W : World} {base : Nat}
/-- a slice whose elements are opened one by one -/
theorem open_rows {D : Type} [Inhabited D] {T E : TypeId} {m : Nat} (hT : Tryd.prog.underlying T = some (.slice E)) (hm : Tryd.prog.cellsOf E = m) (P : Nat → Nat → D → Prop) (Wf : D → Prop)
    (hone : ∀ (fuel : Nat) (a : Addr) (x : DataW H × List MemPlace), (W.cells? 0 a (Tryd.prog.cellsOf E)).bind (DataW.trod enc Tryd.prog W 0 (fun _ => true) true fuel E) = some x → ∃ b off d, a = ⟨b, off, none⟩ ∧ b < W.heap.size ∧ P b off d ∧ Wf d)
    {fuel : Nat} {cs : List Value} {x : DataW H × List MemPlace} (h : DataW.trod enc Tryd.prog W 0 (fun _ => true) true fuel T cs = some x) :
    ∃ (A : Option Addr) (ls : List D) (cap : Nat), cs = [.slice A ls.length cap] ∧ (0 < ls.length → ∃ b off, A = some ⟨b, off, none⟩ ∧ b < W.heap.size ∧ ∀ j, j < ls.length → P b (off + j * m) (ls.getD j default)) ∧ (∀ d ∈ ls, Wf d) ∧ ls.length ≤ 9223372036854775807 ∧ ls.length ≤ cap ∧ (A = none → cap = 0) := by
  rcases DataW.trod_slice hT h with ⟨e, _⟩ | ⟨a, len, cap, elems, rest, n, _, e, _, _, hl, hmx, hlen, hel, _, _⟩
  · exact ⟨none, [], 0, e, (fun h => by simp at h), (fun d h => by cases h), by simp, by simp, fun _ => rfl⟩
  · have each : ∀ i, i < len → ∃ d b off, a.add (i * m) = ⟨b, off, none⟩ ∧ b < W.heap.size ∧ P b off d ∧ Wf d := fun i hi => by
      have h1 := hel i hi
      rw [List.getElem?_eq_getElem (by omega)] at h1
      obtain ⟨b, off, d, h2⟩ := hone _ _ _ h1
      rw [hm] at h2
      exact ⟨d, b, off, h2⟩
    have key : ∀ k, k ≤ len → ∃ ls : List D, ls.length = k ∧ ∀ i, i < k → ∃ b off, a.add (i * m) = ⟨b, off, none⟩ ∧ b < W.heap.size ∧ P b off (ls.getD i default) ∧ Wf (ls.getD i default) := by
      intro k
      induction k with
      | zero => exact fun _ => ⟨[], rfl, fun i hi => by omega⟩
      | succ k ih =>
        intro hk
        obtain ⟨ls, hls, hall⟩ := ih (by omega)
        obtain ⟨d, b, off, h2⟩ := each k (by omega)
        refine ⟨ls ++ [d], by simp [hls], fun i hi => ?_⟩
        by_cases him : i < k
        · obtain ⟨b', off', h3⟩ := hall i him
          rw [show (ls ++ [d]).getD i default = ls.getD i default by rw [List.getD_eq_getElem?_getD, List.getD_eq_getElem?_getD, List.getElem?_append_left (by omega)]]
          exact ⟨b', off', h3⟩
        · obtain rfl : i = k := by omega
          rw [show (ls ++ [d]).getD i default = d by rw [List.getD_eq_getElem?_getD, List.getElem?_append_right (by omega), hls, Nat.sub_self]; rfl]
          exact ⟨b, off, h2⟩
    obtain ⟨ls, hls, hall⟩ := key len (Nat.le_refl _)
    refine ⟨some a, ls, cap, by rw [hls]; exact e, ?_, ?_, by rw [hls]; unfold maxLen at hmx; omega, by omega, fun h => by cases h⟩
    · intro hz
      obtain ⟨b, off, e0, hb, _⟩ := hall 0 (by omega)
      obtain ⟨ab, aoff, asp⟩ := a
      have e0 : (⟨ab, aoff, asp⟩ : Addr) = ⟨b, off, none⟩ := by simpa [Addr.add] using e0
      injection e0 with e1 e2 e3
      subst e1 e2 e3
      refine ⟨ab, aoff, rfl, hb, fun j hj => ?_⟩
      obtain ⟨b', off', ej, _, hL, _⟩ := hall j (by omega)
      rw [Go.WideShapes.add_plain] at ej
      injection ej with e1 e2
      subst e1 e2
      exact hL
    · intro d hd
      obtain ⟨i, hi, rfl⟩ := List.mem_iff_getElem.1 hd
      obtain ⟨_, _, _, _, _, hw⟩ := hall i (by omega)
      rwa [show ls.getD i default = ls[i] by simp [hi]] at hw
/-- the cells of what lies at an address -/
theorem cells_at {a : Addr} {n : Nat} {cs : List Value} (h : W.cells? 0 a n = some cs) (hn : 0 < n) : ∃ b off, a = ⟨b, off, none⟩ ∧ b < W.heap.size ∧ cs.length = n ∧ ∀ i v, cs[i]? = some v → W.cell? ⟨b, off + i, none⟩ = some v := by
  obtain ⟨_, hcl, hcc⟩ := World.cells?_some h
  have h0 := hcc 0 (by omega)
  rw [List.getElem?_eq_getElem (by omega)] at h0
  obtain ⟨b, off, spot⟩ := a
  have hspot : spot = none := by simpa [Addr.add] using World.cell?_spot h0
  subst hspot
  refine ⟨b, off, rfl, ?_, hcl, fun i v hv => ?_⟩
  · rw [Go.WideShapes.add_plain] at h0
    exact block_lt_of_cell h0
  · have hi : i < n := by rw [← hcl]; exact (List.getElem?_eq_some_iff.1 hv).1
    have := hcc i hi
    rw [Go.WideShapes.add_plain] at this
    rw [this, hv]
/-- rows of ints -/
def RowCell (W : World) (b off : Nat) (r : List Int) : Prop := ∃ B c, W.cell? ⟨b, off, none⟩ = some (.slice B r.length c) ∧ IntsAt W B r ∧ r.length ≤ c ∧ (B = none → c = 0)
def WfRow (r : List Int) : Prop := WfInts r ∧ r.length ≤ 9223372036854775807
set_option maxRecDepth 100000 in
theorem open_row1 (fuel : Nat) (a : Addr) (x : DataW H × List MemPlace) (h : (W.cells? 0 a (Tryd.prog.cellsOf 23)).bind (DataW.trod enc Tryd.prog W 0 (fun _ => true) true fuel 23) = some x) :
    ∃ b off d, a = ⟨b, off, none⟩ ∧ b < W.heap.size ∧ RowCell W b off d ∧ WfRow d := by
  rw [Option.bind_eq_some_iff] at h
  obtain ⟨cs, hcs, hx⟩ := h
  obtain ⟨A, zs, cap, rfl, hI, hw, hl, hc, hn⟩ := open_ints_atN hx
  obtain ⟨b, off, e, hb, _, hcc⟩ := cells_at hcs (by rw [show Tryd.prog.cellsOf 23 = 1 by kernel_rfl]; omega)
  exact ⟨b, off, zs, e, hb, ⟨A, cap, hcc 0 _ rfl, hI, hl, hn⟩, hw, by omega⟩
set_option maxRecDepth 100000 in
theorem open_rows_at {fuel : Nat} {cs : List Value} {x : DataW H × List MemPlace} (h : DataW.trod enc Tryd.prog W 0 (fun _ => true) true fuel 24 cs = some x) :
    ∃ (A : Option Addr) (rs : List (List Int)) (cap : Nat), cs = [.slice A rs.length cap] ∧ RowsAt W A rs ∧ (∀ r ∈ rs, WfRow r) := by
  obtain ⟨A, ls, cap, e, h1, h2, _⟩ := open_rows Tryd.underlying24 (m := 1) (by kernel_rfl) (RowCell W) WfRow open_row1 h
  refine ⟨A, ls, cap, e, fun hz => ?_, h2⟩
  obtain ⟨b, off, e1, hb, hc⟩ := h1 hz
  refine ⟨b, off, e1, hb, fun j hj => ?_⟩
  obtain ⟨B, c, h3⟩ := hc j hj
  rw [Nat.mul_one] at h3
  exact ⟨B, c, h3⟩
def StrCell (W : World) (b off : Nat) (p : List UInt8) : Prop := W.cell? ⟨b, off, none⟩ = some (.string ⟨p.toArray⟩)
set_option maxRecDepth 100000 in
theorem open_str1 (fuel : Nat) (a : Addr) (x : DataW H × List MemPlace) (h : (W.cells? 0 a (Tryd.prog.cellsOf 9)).bind (DataW.trod enc Tryd.prog W 0 (fun _ => true) true fuel 9) = some x) :
    ∃ b off d, a = ⟨b, off, none⟩ ∧ b < W.heap.size ∧ StrCell W b off d ∧ d.length ≤ 9223372036854775807 := by
  rw [Option.bind_eq_some_iff] at h
  obtain ⟨cs, hcs, hx⟩ := h
  obtain ⟨st, rfl, _, hst⟩ := DataW.trod_string Tryd.underlying9 hx
  obtain ⟨b, off, e, hb, _, hcc⟩ := cells_at hcs (by rw [show Tryd.prog.cellsOf 9 = 1 by kernel_rfl]; omega)
  exact ⟨b, off, st.data.toList, e, hb, hcc 0 _ rfl, hst⟩
set_option maxRecDepth 100000 in
theorem open_names_at {fuel : Nat} {cs : List Value} {x : DataW H × List MemPlace} (h : DataW.trod enc Tryd.prog W 0 (fun _ => true) true fuel 22 cs = some x) :
    ∃ (A : Option Addr) (ps : List (List UInt8)) (cap : Nat), cs = [.slice A ps.length cap] ∧ StrsAt W A ps ∧ (∀ p ∈ ps, p.length ≤ 9223372036854775807) := by
  obtain ⟨A, ls, cap, e, h1, h2, _⟩ := open_rows Tryd.underlying22 (m := 1) (by kernel_rfl) (StrCell W) (fun p => p.length ≤ 9223372036854775807) open_str1 h
  refine ⟨A, ls, cap, e, fun hz => ?_, h2⟩
  obtain ⟨b, off, e1, hb, hc⟩ := h1 hz
  refine ⟨b, off, e1, hb, fun j hj => ?_⟩
  have h3 := hc j hj
  rw [Nat.mul_one] at h3
  exact h3
set_option maxRecDepth 100000 in
theorem trod_auto {fuel : Nat} {cs : List Value} {x : DataW H × List MemPlace} (hx : DataW.trod enc Tryd.prog W 0 (fun _ => true) true fuel 26 cs = some x) :
    ∃ (a : AutoD) (A B : Option Addr) (c d : Nat), cs = [.slice A a.next.length c, .slice B a.marks.length d] ∧ RowsAt W A a.next ∧ RowsAt W B a.marks ∧ (∀ r ∈ a.next, WfRow r) ∧ (∀ r ∈ a.marks, WfRow r) := by
  have c1 : Tryd.prog.cellsOf 24 = 1 := by kernel_rfl
  have c2 : Tryd.prog.cellsOf 26 = 2 := by kernel_rfl
  obtain ⟨xs, n, _, _, hl, hlen, hf⟩ := DataW.trod_struct Tryd.underlying26 hx
  rw [c2] at hl
  match xs, hlen with
  | [y0, y1], _ =>
    have f0 : DataW.trod enc Tryd.prog W 0 (fun _ => true) true n 24 ((cs.drop 0).take (Tryd.prog.cellsOf 24)) = some y0 := hf 0 _ rfl
    have f1 : DataW.trod enc Tryd.prog W 0 (fun _ => true) true n 24 ((cs.drop 1).take (Tryd.prog.cellsOf 24)) = some y1 := hf 1 _ rfl
    clear hf
    match cs, hl with
    | [v0, v1], _ =>
      rw [c1] at f0 f1
      obtain ⟨A0, r0, cap0, e0, h0, w0⟩ := open_rows_at (x := y0) f0
      obtain ⟨A1, r1, cap1, e1, h1, w1⟩ := open_rows_at (x := y1) f1
      have d0 : v0 = .slice A0 r0.length cap0 := by simpa using e0
      have d1 : v1 = .slice A1 r1.length cap1 := by simpa using e1
      exact ⟨⟨r0, r1⟩, A0, A1, cap0, cap1, by rw [d0, d1], h0, h1, w0, w1⟩
structure WfTab (t : TabD) : Prop where
  names : ∀ p ∈ t.classes, p.length ≤ 9223372036854775807
  acts : WfInts t.actions
  ln : ∀ r ∈ t.left.next, WfRow r
  lm : ∀ r ∈ t.left.marks, WfRow r
  rn : ∀ r ∈ t.right.next, WfRow r
  rm : ∀ r ∈ t.right.marks, WfRow r
set_option maxRecDepth 100000 in
theorem open_table {v : Value} {d : DataW H} {p : List MemPlace} (hv : Value.okWide Tryd.prog W .any base 28 v) (h : DataW.Trod enc Tryd.prog W 0 (fun _ => true) true 28 v d p) :
    ∃ (t : TabD) (u : TabV), v = .agg (tabCells t u) ∧ TabAt W t u ∧ WfTab t := by
  have c1 : Tryd.prog.cellsOf 22 = 1 := by kernel_rfl
  have c2 : Tryd.prog.cellsOf 23 = 1 := by kernel_rfl
  have c3 : Tryd.prog.cellsOf 26 = 2 := by kernel_rfl
  have c6 : Tryd.prog.cellsOf 28 = 6 := by kernel_rfl
  obtain ⟨cs, rfl, hsz⟩ := okWide_struct Tryd.underlying28 hv
  obtain ⟨fuel, hf0⟩ := h
  obtain ⟨xs, n, _, _, hl, hlen, hf⟩ := DataW.trod_struct Tryd.underlying28 hf0
  rw [c6] at hl
  obtain ⟨l⟩ := cs
  have hl : l.length = 6 := hl
  match xs, hlen with
  | [y0, y1, y2, y3], _ =>
    have f0 : DataW.trod enc Tryd.prog W 0 (fun _ => true) true n 22 ((l.drop 0).take (Tryd.prog.cellsOf 22)) = some y0 := hf 0 _ rfl
    have f1 : DataW.trod enc Tryd.prog W 0 (fun _ => true) true n 23 ((l.drop 1).take (Tryd.prog.cellsOf 23)) = some y1 := hf 1 _ rfl
    have f2 : DataW.trod enc Tryd.prog W 0 (fun _ => true) true n 26 ((l.drop 2).take (Tryd.prog.cellsOf 26)) = some y2 := hf 2 _ rfl
    have f3 : DataW.trod enc Tryd.prog W 0 (fun _ => true) true n 26 ((l.drop 4).take (Tryd.prog.cellsOf 26)) = some y3 := hf 3 _ rfl
    clear hf
    match l, hl with
    | [v0, v1, v2, v3, v4, v5], _ =>
      rw [c1] at f0
      rw [c2] at f1
      rw [c3] at f2 f3
      obtain ⟨A0, ps, cap0, e0, h0, w0⟩ := open_names_at (x := y0) f0
      obtain ⟨A1, zs, cap1, e1, h1, w1, _⟩ := open_ints_atN (x := y1) f1
      obtain ⟨a2, A2, B2, k2, m2, e2, n2, o2, p2, q2⟩ := trod_auto (x := y2) f2
      obtain ⟨a3, A3, B3, k3, m3, e3, n3, o3, p3, q3⟩ := trod_auto (x := y3) f3
      have d0 : v0 = .slice A0 ps.length cap0 := by simpa using e0
      have d1 : v1 = .slice A1 zs.length cap1 := by simpa using e1
      have d2 : v2 = .slice A2 a2.next.length k2 ∧ v3 = .slice B2 a2.marks.length m2 := by simpa using e2
      have d3 : v4 = .slice A3 a3.next.length k3 ∧ v5 = .slice B3 a3.marks.length m3 := by simpa using e3
      exact ⟨⟨ps, zs, a2, a3⟩, ⟨A0, A1, A2, B2, A3, B3, cap0, cap1, k2, m2, k3, m3⟩, by rw [d0, d1, d2.1, d2.2, d3.1, d3.2]; rfl, ⟨h0, h1, n2, o2, n3, o3⟩, ⟨w0, w1, p2, q2, p3, q3⟩⟩
end
end Go.Proofs.YtlmdjggpeiddoaaDoor
