/- What every law's proof shares: what the row's conditions give, how arguments are opened, the post of a law that returns true and changes nothing old, and the witness's world. The environment out of the row's conditions for files of elements; the witness's world. Elements, lists of them, and collations as arguments. -/
import Derived.Test.YthogkokifiibnaaGreatDoorRows
import Derived.Test.YthogkokifiibnaaGreatDoorA1
import Derived.WalkKit
import Derived.ProofKit
import Derived.OpenShut
import Derived.Carry
import Derived.Deep.DeepHandedRow
import Derived.Lib.LaidTab
import Derived.KernelRfl
import Derived.Test.YthogkokifiibnaaGreatDoorA6
import Derived.SliceStrings
namespace Go.Proofs.YthogkokifiibnaaGreatDoor
open Go.ChangeShapes Go.WideShapes Go.ChangeAt Go.RowKit
open Go.ChangeMaps (open_string)

theorem own : ownKnob Tryz.prog.godebug = none := by kernel_rfl
theorem laidOut : laidOutB Tryz.prog = true := by kernel_rfl

section
variable {H : Type} {enc : TypeId × Value → H} {W W' : World}

theorem trodAll_below : ∀ {ts : List TypeId} {vs : List Value} {ds : List (DataW H)} {ps : List MemPlace}, (∀ t ∈ ts, Tryz.prog.readableRec t = true ∧ t < Tryz.prog.types.size) → DataW.TrodAll enc Tryz.prog W 0 (fun _ => true) true ts vs ds ps →
    Below W.heap.size W W' → (∀ x ∈ ps, x.block < W.heap.size) → DataW.TrodAll enc Tryz.prog W' 0 (fun b => decide (b < W.heap.size)) true ts vs ds ps
  | [], _, _, _, _, h, _, _ => by
    obtain ⟨rfl, rfl, rfl⟩ := trodAll_nil h
    exact trodAll_mk0
  | t :: ts, _, _, _, ht, h, hb, hlt => by
    obtain ⟨v, vs, d, ds, p, q, rfl, rfl, rfl, h0, r0⟩ := trodAll_cons h
    obtain ⟨hr, hrow⟩ := ht t (by simp)
    exact trodAll_cons_mk (Below.trod laidOut hr hrow h0 hb (fun x hx => hlt x (by simp [hx])))
      (trodAll_below (fun t' ht' => ht t' (by simp [ht'])) r0 hb (fun x hx => hlt x (by simp [hx])))

/-- A law that returns true and changes nothing that was there. -/
theorem law_post {f : Func} {s : ChangeSpec} {args : Array Value} {ds gs : List (DataW H)} {before : List MemPlace} (hres : f.resultTypes = #[4])
    (hts : ∀ t ∈ f.params.toList, Tryz.prog.readableRec t = true ∧ t < Tryz.prog.types.size) (hvars : s.vars = [])
    (hW : DataW.Whole enc Tryz.prog f.params.toList s.vars false W args.toList ds gs before) (h1 : (s.fn H (ds ++ gs)).results = [.lit (.bool true)]) (h2 : (s.fn H (ds ++ gs)).args = ds) (h3 : (s.fn H (ds ++ gs)).vars = [])
    (hb : Below W.heap.size W W') : s.post enc Tryz.prog f false true false false W args (.bool true) W' := by
  have hW0 := hW
  have hlt := hW.lt
  obtain ⟨p, q, hA, hV, rfl, hfz, hnd⟩ := hW
  rw [hvars] at hV
  obtain ⟨rfl, rfl⟩ := trodVars_none hV
  refine ⟨ds, [], p ++ [], [], p, [], hW0, ?_, ?_, ?_, hb.frame _, fun h => by cases h⟩
  · rw [h1, hres]
    exact trodAll_cons_mk (shut_bool Tryz.underlying4 true) trodAll_mk0
  · rw [h2]
    exact trodAll_below hts hA hb (fun x hx => hlt x (by simp [hx]))
  · rw [h3, hvars]
    rfl
end

/-- the rest of a list of laid variables -/
theorem laidMet_tail {P : Program} {x : String × DataW Unit} {rest : List (String × DataW Unit)} {W : World} (h : laidMet P (x :: rest) W) : laidMet P rest W := by
  obtain ⟨ps, ⟨g, t, cs, fuel, p, q, _, _, _, _, hq, rfl⟩, hnd, hc⟩ := h
  exact ⟨q, hq, (List.nodup_append.1 hnd).2.1, fun b off hm => hc b off (by simp [hm])⟩

theorem lits_take (k : IntKind) (zs : List Int) : ∀ n, lits (H := Unit) k (zs.take n) = (lits k zs).take n := by
  intro n; simp [lits, List.map_take]

section
variable {H : Type} {enc : TypeId × Value → H} {W : World} {base : Nat}
/-- a slice of ints -/
theorem open_ints_at {fuel : Nat} {cs : List Value} {x : DataW H × List MemPlace} (h : DataW.trod enc Tryz.prog W 0 (fun _ => true) true fuel 48 cs = some x) :
    ∃ (A : Option Addr) (zs : List Int) (cap : Nat), cs = [.slice A zs.length cap] ∧ IntsAt W A zs ∧ WfInts zs ∧ zs.length ≤ cap ∧ cap ≤ 9223372036854775807 := by
  rcases open_ints Tryz.underlying48 Tryz.underlying3 (by kernel_rfl) h with ⟨rfl, _⟩ | ⟨a, len, cap, zs, rfl, _, hl, hm, hz, hx, hcell, hwz⟩
  · exact ⟨none, [], 0, rfl, IntsAt.nil, fun z hz => by simp at hz, Nat.le_refl _, by omega⟩
  · simp only [if_true] at hz
    have hlen : (zs.take len).length = len := by simp; omega
    refine ⟨some a, zs.take len, cap, by rw [hlen], ?_, ?_, by omega, by unfold maxLen at hm; omega⟩
    · intro h0
      rw [hlen] at h0
      obtain ⟨b, off, rfl, hc⟩ := ints_at hcell (by omega)
      refine ⟨b, off, rfl, ?_, fun j hj => ?_⟩
      · have := hc 0 (by omega)
        exact block_lt_of_cell this
      · rw [hlen] at hj
        rw [hc j (by omega)]
        unfold nth
        rw [List.getD_eq_getElem?_getD, List.getD_eq_getElem?_getD, List.getElem?_take_of_lt hj]
    · intro z hz'
      have := hwz z (List.mem_of_mem_take hz')
      exact bounds_i64 this
set_option maxRecDepth 100000 in
theorem open_ints_val {v : Value} {d : DataW H} {p : List MemPlace} (hv : Value.okWide Tryz.prog W .any base 48 v) (h : DataW.Trod enc Tryz.prog W 0 (fun _ => true) true 48 v d p) :
    ∃ (A : Option Addr) (zs : List Int) (cap : Nat), v = .slice A zs.length cap ∧ IntsAt W A zs ∧ WfInts zs ∧ zs.length ≤ cap ∧ cap ≤ 9223372036854775807 := by
  obtain ⟨a0, len, cap, rfl⟩ := okWide_slice Tryz.underlying48 hv
  obtain ⟨fuel, hf⟩ := h
  obtain ⟨A, zs, c, e, h1, h2, h3, h4⟩ := open_ints_at hf
  have e' : [Value.slice a0 len cap] = [.slice A zs.length c] := e
  rw [List.cons.injEq] at e'
  exact ⟨A, zs, c, e'.1, h1, h2, h3, h4⟩
end

section
variable {H : Type} {enc : TypeId × Value → H} {W : World} {base : Nat}
set_option maxRecDepth 100000 in
theorem open_str {v : Value} {d : DataW H} {p : List MemPlace} (hv : Value.okWide Tryz.prog W .any base 9 v) (h : DataW.Trod enc Tryz.prog W 0 (fun _ => true) true 9 v d p) :
    ∃ l : List UInt8, v = .string ⟨l.toArray⟩ ∧ l.length ≤ 9223372036854775807 := by
  obtain ⟨s, rfl, _, _, hs⟩ := open_string Tryz.underlying9 hv h
  obtain ⟨⟨l⟩⟩ := s
  exact ⟨l, rfl, hs⟩
end

/-- the cells of a datum that is laid flat -/
def flatCells : Nat → DataW Unit → List Value
  | _, .lit (.int k n) => [.int k n]
  | n + 1, .agg l => l.flatMap (flatCells n)
  | _, _ => []
/-- a world whose blocks hold given cells -/
def layCells (w : World) (b : Nat) (cs : Array Value) : World :=
  { w with heap := w.heap.modify b fun | .cells _ t frozen => .cells cs t frozen | o => o }
end Go.Proofs.YthogkokifiibnaaGreatDoor
namespace Go.Proofs.YthogkokifiibnaaGreatDoor
open Go.ChangeShapes Go.WideShapes Go.ChangeAt Go.RowKit

def laidF : List (String × DataW Unit) := [("math/bits.deBruijn32tab", Rows.laid_math_bits_deBruijn32tab), ("math/bits.deBruijn64tab", Rows.laid_math_bits_deBruijn64tab), ("internal/strconv.uint64pow10", Rows.laid_internal_strconv_uint64pow10), ("unicode/utf8.acceptRanges", Rows.laid_unicode_utf8_acceptRanges), ("unicodetext/codepoint.digits", Rows.laid_unicodetext_codepoint_digits), ("strconv.ErrRange", Rows.laid_strconv_ErrRange), ("strconv.ErrSyntax", Rows.laid_strconv_ErrSyntax), ("unicode/utf8.first", Rows.laid_unicode_utf8_first)]
theorem gDig : Tryz.prog.globalNamed "unicodetext/codepoint.digits" = some 0 := by kernel_rfl
theorem gDigType : (Tryz.prog.globals[0]?).map (·.type) = some 104 := by kernel_rfl
theorem gPow : Tryz.prog.globalNamed "internal/strconv.uint64pow10" = some 2 := by kernel_rfl
theorem gPowType : (Tryz.prog.globals[2]?).map (·.type) = some 145 := by kernel_rfl
theorem gRng : Tryz.prog.globalNamed "strconv.ErrRange" = some 4 := by kernel_rfl
theorem gRngType : (Tryz.prog.globals[4]?).map (·.type) = some 59 := by kernel_rfl
theorem gSyn : Tryz.prog.globalNamed "strconv.ErrSyntax" = some 3 := by kernel_rfl
theorem gSynType : (Tryz.prog.globals[3]?).map (·.type) = some 59 := by kernel_rfl
theorem cells16 : Tryz.prog.cellsOf 104 = 16 := by kernel_rfl
theorem cellsU8 : Tryz.prog.cellsOf 5 = 1 := by kernel_rfl
theorem cells20 : Tryz.prog.cellsOf 145 = 20 := by kernel_rfl
theorem cellsU64 : Tryz.prog.cellsOf 117 = 1 := by kernel_rfl
theorem noHandles : laidF.filter (fun x => x.2.handleName?.isSome) = [] := by kernel_rfl
theorem powData : (Rows.laid_internal_strconv_uint64pow10 : DataW Unit) = Lib.tabData .u64 Lib.pow10Tab := by kernel_rfl

theorem trod_iface_any {H : Type} {enc : TypeId × Value → H} {P : Program} {w : World} {base : Nat} {spare : Nat → Bool} {held : Bool} {fuel : Nat} {t : TypeId} {ms : Array (String × TypeId)} {cs : List Value} {x : DataW H × List MemPlace} (ht : P.underlying t = some (.interface ms)) (h : DataW.trod enc P w base spare held fuel t cs = some x) : cs = [.nilIface] ∨ ∃ u v, cs = [.iface u v] := by
  cases fuel with
  | zero => simp [DataW.trod] at h
  | succ n =>
    unfold DataW.trod at h
    rw [ht] at h
    split at h <;> simp_all
theorem err_cell {W : World} {name : String} {d : DataW Unit} {rest : List (String × DataW Unit)} {g : Nat} (hg : Tryz.prog.globalNamed name = some g) (hty : (Tryz.prog.globals[g]?).map (·.type) = some 59) (h : laidMet Tryz.prog ((name, d) :: rest) W) : ∃ ev, W.cell? ⟨g, 0, none⟩ = some ev ∧ (ev = .nilIface ∨ ∃ te pe, ev = .iface te pe) := by
  obtain ⟨ps, ⟨g', t', cs, fuel, p, q, hg', ht', hvar, hd, _, _⟩, _⟩ := h
  obtain rfl := Option.some.inj (hg.symm.trans hg')
  obtain rfl := Option.some.inj (hty.symm.trans ht')
  have hc := World.var?_cell hg hvar 0
  obtain ⟨l⟩ := cs
  rcases trod_iface_any Tryz.underlying59 hd with e | ⟨u, v, e⟩
  · have e : l = _ := e
    subst e
    exact ⟨.nilIface, hc, .inl rfl⟩
  · have e : l = _ := e
    subst e
    exact ⟨.iface u v, hc, .inr ⟨u, v, rfl⟩⟩

theorem env_of {W : World} (hL : laidMetH Tryz.prog laidF W) (hS : W.ShapedOpen Tryz.prog) : EnvF W := by
  have hL' : laidMet Tryz.prog laidF W := by
    unfold laidMetH at hL
    rw [noHandles] at hL
    exact hL
  have h2 := laidMet_tail (laidMet_tail hL')
  have h3 := laidMet_tail (laidMet_tail h2)
  have h4 := laidMet_tail h3
  have h5 := laidMet_tail h4
  rw [powData] at h2
  have hp : Lib.TabIs Tryz.prog W "internal/strconv.uint64pow10" .u64 Lib.pow10Tab :=
    Lib.tabIs_of_head gPow gPowType Tryz.underlying145 Tryz.underlying117 cellsU64 cells20 h2
  have ht : Lib.TabIs Tryz.prog W "unicodetext/codepoint.digits" .u8 [48, 49, 50, 51, 52, 53, 54, 55, 56, 57, 65, 66, 67, 68, 69, 70] :=
    Lib.tabIs_of_head gDig gDigType Tryz.underlying104 Tryz.underlying5 cellsU8 cells16 h3
  refine ⟨⟨fun j hj => ?_, Go.Proofs.cell_of_shapedOpen_int (zero := #[.int .i64 0]) (t := 3) hS (of_decide_eq_true (by kernel_rfl)) (by kernel_rfl) rfl (by kernel_rfl) (by kernel_rfl) Tryz.underlying3⟩, hp, err_cell gSyn gSynType h5, err_cell gRng gRngType h4⟩
  have := ht.cell gDig j (by simpa using hj)
  rw [this]
  obtain rfl | rfl | rfl | rfl | rfl | rfl | rfl | rfl | rfl | rfl | rfl | rfl | rfl | rfl | rfl | rfl : j = 0 ∨ j = 1 ∨ j = 2 ∨ j = 3 ∨ j = 4 ∨ j = 5 ∨ j = 6 ∨ j = 7 ∨ j = 8 ∨ j = 9 ∨ j = 10 ∨ j = 11 ∨ j = 12 ∨ j = 13 ∨ j = 14 ∨ j = 15 := by omega
  all_goals rfl

/-- a world for the witness: the settled one, the listed variables holding what their initialisers lay -/
noncomputable def baseWorld (os : Os) : World := World.holding Tryz.prog os ⟨#[], #[], []⟩
noncomputable def laidWorld (os : Os) : World :=
  layCells (layCells (layCells (layCells (layCells (layCells (layCells (layCells (((baseWorld os).alloc (.cells #[.string ⟨#[118, 97, 108, 117, 101, 32, 111, 117, 116, 32, 111, 102, 32, 114, 97, 110, 103, 101]⟩] 162)).alloc (.cells #[.string ⟨#[105, 110, 118, 97, 108, 105, 100, 32, 115, 121, 110, 116, 97, 120]⟩] 162))
    7 (flatCells 8 Rows.laid_math_bits_deBruijn32tab).toArray)
    8 (flatCells 8 Rows.laid_math_bits_deBruijn64tab).toArray)
    2 (flatCells 8 Rows.laid_internal_strconv_uint64pow10).toArray)
    6 (flatCells 8 Rows.laid_unicode_utf8_acceptRanges).toArray)
    0 (flatCells 8 Rows.laid_unicodetext_codepoint_digits).toArray)
    4 #[.iface 160 (.pointer (some ⟨(baseWorld os).heap.size, 0, none⟩))])
    3 #[.iface 160 (.pointer (some ⟨(baseWorld os).heap.size + 1, 0, none⟩))])
    5 (flatCells 8 Rows.laid_unicode_utf8_first).toArray
end Go.Proofs.YthogkokifiibnaaGreatDoor
namespace Go.Proofs.YthogkokifiibnaaGreatDoor
open Go.ChangeShapes Go.WideShapes Go.ChangeAt Go.RowKit Go.Sort

section
variable {H : Type} {enc : TypeId × Value → H} {W : World} {base : Nat}
/-- a slice whose elements are opened one by one -/
theorem open_rows {D : Type} [Inhabited D] {T E : TypeId} {m : Nat} (hT : Tryz.prog.underlying T = some (.slice E)) (hm : Tryz.prog.cellsOf E = m) (P : Nat → Nat → D → Prop) (Wf : D → Prop)
    (hone : ∀ (fuel : Nat) (a : Addr) (x : DataW H × List MemPlace), (W.cells? 0 a (Tryz.prog.cellsOf E)).bind (DataW.trod enc Tryz.prog W 0 (fun _ => true) true fuel E) = some x → ∃ b off d, a = ⟨b, off, none⟩ ∧ b < W.heap.size ∧ P b off d ∧ Wf d)
    {fuel : Nat} {cs : List Value} {x : DataW H × List MemPlace} (h : DataW.trod enc Tryz.prog W 0 (fun _ => true) true fuel T cs = some x) :
    ∃ (A : Option Addr) (ls : List D) (cap : Nat), cs = [.slice A ls.length cap] ∧ (0 < ls.length → ∃ b off, A = some ⟨b, off, none⟩ ∧ b < W.heap.size ∧ ∀ j, j < ls.length → P b (off + j * m) (ls.getD j default)) ∧ (∀ d ∈ ls, Wf d) ∧ ls.length ≤ 9223372036854775807 ∧ ls.length ≤ cap ∧ (A = none → cap = 0) := by
  rcases DataW.trod_slice hT h with ⟨e, _⟩ | ⟨a, len, cap, elems, rest, n, _, e, _, _, hl, hmx, hlen, hel, _, _⟩
  · exact ⟨none, [], 0, e, (fun h => by simp at h), (fun d h => by cases h), by simp, by simp, fun _ => rfl⟩
  · have each : ∀ i, i < len → ∃ d b off, a.add (i * m) = ⟨b, off, none⟩ ∧ b < W.heap.size ∧ P b off d ∧ Wf d := fun i hi => by
      have h1 := hel i hi
      rw [List.getElem?_eq_getElem (by omega)] at h1
      obtain ⟨b, off, d, h2⟩ := hone _ _ _ h1
      rw [hm] at h2
      exact ⟨d, b, off, h2⟩
    have key : ∀ k, k ≤ len → ∃ ls : List D, ls.length = k ∧ ∀ i, i < k → ∃ b off, a.add (i * m) = ⟨b, off, none⟩ ∧ b < W.heap.size ∧ P b off (ls.getD i default) ∧ Wf (ls.getD i default) := by
      intro k
      induction k with
      | zero => exact fun _ => ⟨[], rfl, fun i hi => by omega⟩
      | succ k ih =>
        intro hk
        obtain ⟨ls, hls, hall⟩ := ih (by omega)
        obtain ⟨d, b, off, h2⟩ := each k (by omega)
        refine ⟨ls ++ [d], by simp [hls], fun i hi => ?_⟩
        by_cases him : i < k
        · obtain ⟨b', off', h3⟩ := hall i him
          rw [show (ls ++ [d]).getD i default = ls.getD i default by rw [List.getD_eq_getElem?_getD, List.getD_eq_getElem?_getD, List.getElem?_append_left (by omega)]]
          exact ⟨b', off', h3⟩
        · obtain rfl : i = k := by omega
          rw [show (ls ++ [d]).getD i default = d by rw [List.getD_eq_getElem?_getD, List.getElem?_append_right (by omega), hls, Nat.sub_self]; rfl]
          exact ⟨b, off, h2⟩
    obtain ⟨ls, hls, hall⟩ := key len (Nat.le_refl _)
    refine ⟨some a, ls, cap, by rw [hls]; exact e, ?_, ?_, by rw [hls]; unfold maxLen at hmx; omega, by omega, fun h => by cases h⟩
    · intro hz
      obtain ⟨b, off, e0, hb, _⟩ := hall 0 (by omega)
      obtain ⟨ab, aoff, asp⟩ := a
      have e0 : (⟨ab, aoff, asp⟩ : Addr) = ⟨b, off, none⟩ := by simpa [Addr.add] using e0
      injection e0 with e1 e2 e3
      subst e1 e2 e3
      refine ⟨ab, aoff, rfl, hb, fun j hj => ?_⟩
      obtain ⟨b', off', ej, _, hL, _⟩ := hall j (by omega)
      rw [Go.WideShapes.add_plain] at ej
      injection ej with e1 e2
      subst e1 e2
      exact hL
    · intro d hd
      obtain ⟨i, hi, rfl⟩ := List.mem_iff_getElem.1 hd
      obtain ⟨_, _, _, _, _, hw⟩ := hall i (by omega)
      rwa [show ls.getD i default = ls[i] by simp [hi]] at hw
/-- the cells of what lies at an address -/
theorem cells_at {a : Addr} {n : Nat} {cs : List Value} (h : W.cells? 0 a n = some cs) (hn : 0 < n) : ∃ b off, a = ⟨b, off, none⟩ ∧ b < W.heap.size ∧ cs.length = n ∧ ∀ i v, cs[i]? = some v → W.cell? ⟨b, off + i, none⟩ = some v := by
  obtain ⟨_, hcl, hcc⟩ := World.cells?_some h
  have h0 := hcc 0 (by omega)
  rw [List.getElem?_eq_getElem (by omega)] at h0
  obtain ⟨b, off, spot⟩ := a
  have hspot : spot = none := by simpa [Addr.add] using World.cell?_spot h0
  subst hspot
  refine ⟨b, off, rfl, ?_, hcl, fun i v hv => ?_⟩
  · rw [Go.WideShapes.add_plain] at h0
    exact block_lt_of_cell h0
  · have hi : i < n := by rw [← hcl]; exact (List.getElem?_eq_some_iff.1 hv).1
    have := hcc i hi
    rw [Go.WideShapes.add_plain] at this
    rw [this, hv]
def WfE (d : ElemD) : Prop := (-9223372036854775808 ≤ d.p ∧ d.p ≤ 9223372036854775807) ∧ (-9223372036854775808 ≤ d.s ∧ d.s ≤ 9223372036854775807) ∧ (-9223372036854775808 ≤ d.t ∧ d.t ≤ 9223372036854775807)
set_option maxRecDepth 100000 in
theorem trod_elem {fuel : Nat} {cs : List Value} {x : DataW H × List MemPlace} (hx : DataW.trod enc Tryz.prog W 0 (fun _ => true) true fuel 45 cs = some x) :
    ∃ d : ElemD, cs = [.int .i64 d.p, .int .i64 d.s, .int .i64 d.t, .bool d.v] ∧ WfE d := by
  have c1 : Tryz.prog.cellsOf 3 = 1 := by kernel_rfl
  have c2 : Tryz.prog.cellsOf 4 = 1 := by kernel_rfl
  have c4 : Tryz.prog.cellsOf 45 = 4 := by kernel_rfl
  obtain ⟨xs, n, _, _, hl, hlen, hf⟩ := DataW.trod_struct Tryz.underlying45 hx
  rw [c4] at hl
  match xs, hlen with
  | [y0, y1, y2, y3], _ =>
    have f0 : DataW.trod enc Tryz.prog W 0 (fun _ => true) true n 3 ((cs.drop 0).take (Tryz.prog.cellsOf 3)) = some y0 := hf 0 _ rfl
    have f1 : DataW.trod enc Tryz.prog W 0 (fun _ => true) true n 3 ((cs.drop 1).take (Tryz.prog.cellsOf 3)) = some y1 := hf 1 _ rfl
    have f2 : DataW.trod enc Tryz.prog W 0 (fun _ => true) true n 3 ((cs.drop 2).take (Tryz.prog.cellsOf 3)) = some y2 := hf 2 _ rfl
    have f3 : DataW.trod enc Tryz.prog W 0 (fun _ => true) true n 4 ((cs.drop 3).take (Tryz.prog.cellsOf 4)) = some y3 := hf 3 _ rfl
    clear hf
    match cs, hl with
    | [v0, v1, v2, v3], _ =>
      rw [c1] at f0 f1 f2
      rw [c2] at f3
      obtain ⟨n0, e0, _, w0⟩ := DataW.trod_int Tryz.underlying3 (x := y0) f0
      obtain ⟨n1, e1, _, w1⟩ := DataW.trod_int Tryz.underlying3 (x := y1) f1
      obtain ⟨n2, e2, _, w2⟩ := DataW.trod_int Tryz.underlying3 (x := y2) f2
      obtain ⟨n3, e3, _⟩ := DataW.trod_bool Tryz.underlying4 (x := y3) f3
      have d0 : v0 = .int .i64 n0 := by simpa using e0
      have d1 : v1 = .int .i64 n1 := by simpa using e1
      have d2 : v2 = .int .i64 n2 := by simpa using e2
      have d3 : v3 = .bool n3 := by simpa using e3
      exact ⟨⟨n0, n1, n2, n3⟩, by rw [d0, d1, d2, d3], bounds_i64 w0, bounds_i64 w1, bounds_i64 w2⟩
set_option maxRecDepth 100000 in
theorem open_elem {v : Value} {d : DataW H} {p : List MemPlace} (hv : Value.okWide Tryz.prog W .any base 45 v) (h : DataW.Trod enc Tryz.prog W 0 (fun _ => true) true 45 v d p) :
    ∃ e : ElemD, v = .agg #[.int .i64 e.p, .int .i64 e.s, .int .i64 e.t, .bool e.v] ∧ WfE e := by
  obtain ⟨cs, rfl, hsz⟩ := okWide_struct Tryz.underlying45 hv
  obtain ⟨fuel, hf⟩ := h
  obtain ⟨e, he, hw⟩ := trod_elem hf
  refine ⟨e, ?_, hw⟩
  obtain ⟨l⟩ := cs
  have he : l = _ := he
  rw [he]
def ElemCell (W : World) (b off : Nat) (d : ElemD) : Prop :=
  W.cell? ⟨b, off, none⟩ = some (.int .i64 d.p) ∧ W.cell? ⟨b, off + 1, none⟩ = some (.int .i64 d.s) ∧ W.cell? ⟨b, off + 2, none⟩ = some (.int .i64 d.t) ∧ W.cell? ⟨b, off + 3, none⟩ = some (.bool d.v)
set_option maxRecDepth 100000 in
theorem open_elem1 (fuel : Nat) (a : Addr) (x : DataW H × List MemPlace) (h : (W.cells? 0 a (Tryz.prog.cellsOf 45)).bind (DataW.trod enc Tryz.prog W 0 (fun _ => true) true fuel 45) = some x) :
    ∃ b off d, a = ⟨b, off, none⟩ ∧ b < W.heap.size ∧ ElemCell W b off d ∧ WfE d := by
  rw [Option.bind_eq_some_iff] at h
  obtain ⟨cs, hcs, hx⟩ := h
  obtain ⟨d, rfl, hw⟩ := trod_elem hx
  obtain ⟨b, off, e, hb, _, hc⟩ := cells_at hcs (by rw [show Tryz.prog.cellsOf 45 = 4 by kernel_rfl]; omega)
  exact ⟨b, off, d, e, hb, ⟨hc 0 _ rfl, hc 1 _ rfl, hc 2 _ rfl, hc 3 _ rfl⟩, hw⟩
set_option maxRecDepth 100000 in
theorem open_elems_at {fuel : Nat} {cs : List Value} {x : DataW H × List MemPlace} (h : DataW.trod enc Tryz.prog W 0 (fun _ => true) true fuel 23 cs = some x) :
    ∃ (A : Option Addr) (ls : List ElemD) (cap : Nat), cs = [.slice A ls.length cap] ∧ ElemsAt W A ls ∧ (∀ d ∈ ls, WfE d) ∧ ls.length ≤ 9223372036854775807 ∧ ls.length ≤ cap ∧ (A = none → cap = 0) :=
  open_rows Tryz.underlying23 (by kernel_rfl) (ElemCell W) WfE open_elem1 h
set_option maxRecDepth 100000 in
theorem open_elems_val {v : Value} {d : DataW H} {p : List MemPlace} (hv : Value.okWide Tryz.prog W .any base 23 v) (h : DataW.Trod enc Tryz.prog W 0 (fun _ => true) true 23 v d p) :
    ∃ (A : Option Addr) (ls : List ElemD) (cap : Nat), v = .slice A ls.length cap ∧ ElemsAt W A ls ∧ (∀ d ∈ ls, WfE d) ∧ ls.length ≤ 9223372036854775807 ∧ ls.length ≤ cap ∧ (A = none → cap = 0) := by
  obtain ⟨a0, len0, cap0, rfl⟩ := okWide_slice Tryz.underlying23 hv
  obtain ⟨fuel, hf⟩ := h
  obtain ⟨A, ls, cap, e, r⟩ := open_elems_at hf
  have e : [Value.slice a0 len0 cap0] = [.slice A ls.length cap] := e
  rw [List.cons.injEq] at e
  exact ⟨A, ls, cap, e.1, r⟩
def GroupCell (W : World) (b off : Nat) (d : GroupD) : Prop :=
  W.cell? ⟨b, off, none⟩ = some (.string ⟨d.name.toArray⟩) ∧ W.cell? ⟨b, off + 1, none⟩ = some (.int .i64 d.lo) ∧ W.cell? ⟨b, off + 2, none⟩ = some (.int .i64 d.hi)
def WfG (d : GroupD) : Prop := d.name.length ≤ 9223372036854775807 ∧ (-9223372036854775808 ≤ d.lo ∧ d.lo ≤ 9223372036854775807) ∧ (-9223372036854775808 ≤ d.hi ∧ d.hi ≤ 9223372036854775807)
set_option maxRecDepth 100000 in
theorem trod_group {fuel : Nat} {cs : List Value} {x : DataW H × List MemPlace} (hx : DataW.trod enc Tryz.prog W 0 (fun _ => true) true fuel 47 cs = some x) :
    ∃ d : GroupD, cs = [.string ⟨d.name.toArray⟩, .int .i64 d.lo, .int .i64 d.hi] ∧ WfG d := by
  have c1 : Tryz.prog.cellsOf 3 = 1 := by kernel_rfl
  have c2 : Tryz.prog.cellsOf 9 = 1 := by kernel_rfl
  have c3 : Tryz.prog.cellsOf 47 = 3 := by kernel_rfl
  obtain ⟨xs, n, _, _, hl, hlen, hf⟩ := DataW.trod_struct Tryz.underlying47 hx
  rw [c3] at hl
  match xs, hlen with
  | [y0, y1, y2], _ =>
    have f0 : DataW.trod enc Tryz.prog W 0 (fun _ => true) true n 9 ((cs.drop 0).take (Tryz.prog.cellsOf 9)) = some y0 := hf 0 _ rfl
    have f1 : DataW.trod enc Tryz.prog W 0 (fun _ => true) true n 3 ((cs.drop 1).take (Tryz.prog.cellsOf 3)) = some y1 := hf 1 _ rfl
    have f2 : DataW.trod enc Tryz.prog W 0 (fun _ => true) true n 3 ((cs.drop 2).take (Tryz.prog.cellsOf 3)) = some y2 := hf 2 _ rfl
    clear hf
    match cs, hl with
    | [v0, v1, v2], _ =>
      rw [c1] at f1 f2
      rw [c2] at f0
      obtain ⟨st, e0, _, hst⟩ := DataW.trod_string Tryz.underlying9 (x := y0) f0
      obtain ⟨n1, e1, _, w1⟩ := DataW.trod_int Tryz.underlying3 (x := y1) f1
      obtain ⟨n2, e2, _, w2⟩ := DataW.trod_int Tryz.underlying3 (x := y2) f2
      have d0 : v0 = .string st := by simpa using e0
      have d1 : v1 = .int .i64 n1 := by simpa using e1
      have d2 : v2 = .int .i64 n2 := by simpa using e2
      exact ⟨⟨st.data.toList, n1, n2⟩, by rw [d0, d1, d2], hst, bounds_i64 w1, bounds_i64 w2⟩
set_option maxRecDepth 100000 in
theorem open_group1 (fuel : Nat) (a : Addr) (x : DataW H × List MemPlace) (h : (W.cells? 0 a (Tryz.prog.cellsOf 47)).bind (DataW.trod enc Tryz.prog W 0 (fun _ => true) true fuel 47) = some x) :
    ∃ b off d, a = ⟨b, off, none⟩ ∧ b < W.heap.size ∧ GroupCell W b off d ∧ WfG d := by
  rw [Option.bind_eq_some_iff] at h
  obtain ⟨cs, hcs, hx⟩ := h
  obtain ⟨d, rfl, hw⟩ := trod_group hx
  obtain ⟨b, off, e, hb, _, hc⟩ := cells_at hcs (by rw [show Tryz.prog.cellsOf 47 = 3 by kernel_rfl]; omega)
  exact ⟨b, off, d, e, hb, ⟨hc 0 _ rfl, hc 1 _ rfl, hc 2 _ rfl⟩, hw⟩
set_option maxRecDepth 100000 in
theorem open_groups_at {fuel : Nat} {cs : List Value} {x : DataW H × List MemPlace} (h : DataW.trod enc Tryz.prog W 0 (fun _ => true) true fuel 33 cs = some x) :
    ∃ (A : Option Addr) (ls : List GroupD) (cap : Nat), cs = [.slice A ls.length cap] ∧ GroupsAt W A ls ∧ (∀ d ∈ ls, WfG d) ∧ ls.length ≤ 9223372036854775807 ∧ ls.length ≤ cap ∧ (A = none → cap = 0) :=
  open_rows Tryz.underlying33 (by kernel_rfl) (GroupCell W) WfG open_group1 h
def EntCell (W : World) (b off : Nat) (d : EntryD) : Prop :=
  (∃ B c, W.cell? ⟨b, off, none⟩ = some (.slice B d.codes.length c) ∧ IntsAt W B d.codes) ∧ (∃ B c, W.cell? ⟨b, off + 1, none⟩ = some (.slice B d.els.length c) ∧ ElemsAt W B d.els)
def WfN (d : EntryD) : Prop := d.codes.length ≤ 9223372036854775807 ∧ d.els.length ≤ 9223372036854775807 ∧ WfInts d.codes ∧ ∀ e ∈ d.els, WfE e
set_option maxRecDepth 100000 in
theorem open_entry1 (fuel : Nat) (a : Addr) (x : DataW H × List MemPlace) (h : (W.cells? 0 a (Tryz.prog.cellsOf 50)).bind (DataW.trod enc Tryz.prog W 0 (fun _ => true) true fuel 50) = some x) :
    ∃ b off d, a = ⟨b, off, none⟩ ∧ b < W.heap.size ∧ EntCell W b off d ∧ WfN d := by
  have c1 : Tryz.prog.cellsOf 48 = 1 := by kernel_rfl
  have c2 : Tryz.prog.cellsOf 23 = 1 := by kernel_rfl
  have c3 : Tryz.prog.cellsOf 50 = 2 := by kernel_rfl
  rw [Option.bind_eq_some_iff] at h
  obtain ⟨cs, hcs, hx⟩ := h
  obtain ⟨b, off, e, hb, _, hc⟩ := cells_at hcs (by rw [c3]; omega)
  obtain ⟨xs, n, _, _, hl, hlen, hf⟩ := DataW.trod_struct Tryz.underlying50 hx
  rw [c3] at hl
  match xs, hlen with
  | [y0, y1], _ =>
    have f0 : DataW.trod enc Tryz.prog W 0 (fun _ => true) true n 48 ((cs.drop 0).take (Tryz.prog.cellsOf 48)) = some y0 := hf 0 _ rfl
    have f1 : DataW.trod enc Tryz.prog W 0 (fun _ => true) true n 23 ((cs.drop 1).take (Tryz.prog.cellsOf 23)) = some y1 := hf 1 _ rfl
    clear hf
    match cs, hl with
    | [v0, v1], _ =>
      rw [c1] at f0
      rw [c2] at f1
      obtain ⟨A0, zs, cap0, e0, hI, hwf, hl0, hcp⟩ := open_ints_at (x := y0) f0
      obtain ⟨A1, ls, cap1, e1, hE, hwe, hl1, _⟩ := open_elems_at (x := y1) f1
      have d0 : v0 = .slice A0 zs.length cap0 := by simpa using e0
      have d1 : v1 = .slice A1 ls.length cap1 := by simpa using e1
      exact ⟨b, off, ⟨zs, ls⟩, e, hb, ⟨⟨A0, cap0, by rw [← d0]; exact hc 0 _ rfl, hI⟩, ⟨A1, cap1, by rw [← d1]; exact hc 1 _ rfl, hE⟩⟩, by dsimp only; omega, hl1, hwf, hwe⟩
set_option maxRecDepth 100000 in
theorem open_entries_at {fuel : Nat} {cs : List Value} {x : DataW H × List MemPlace} (h : DataW.trod enc Tryz.prog W 0 (fun _ => true) true fuel 32 cs = some x) :
    ∃ (A : Option Addr) (ls : List EntryD) (cap : Nat), cs = [.slice A ls.length cap] ∧ EntsAt W A ls ∧ (∀ d ∈ ls, WfN d) ∧ ls.length ≤ 9223372036854775807 ∧ ls.length ≤ cap ∧ (A = none → cap = 0) :=
  open_rows Tryz.underlying32 (by kernel_rfl) (EntCell W) WfN open_entry1 h
/-- what is known of a collation that comes in -/
structure WfColl (c : CollD) : Prop where
  ne : c.entries.length ≤ 9223372036854775807
  ng : c.groups.length ≤ 9223372036854775807
  e : ∀ x ∈ c.entries, WfN x
  g : ∀ x ∈ c.groups, WfG x
  b : -9223372036854775808 ≤ c.base ∧ c.base ≤ 9223372036854775807
  s : -9223372036854775808 ≤ c.second ∧ c.second ≤ 9223372036854775807
  t : -9223372036854775808 ≤ c.third ∧ c.third ≤ 9223372036854775807
set_option maxRecDepth 100000 in
theorem open_coll {v : Value} {d : DataW H} {p : List MemPlace} (hv : Value.okWide Tryz.prog W .any base 35 v) (h : DataW.Trod enc Tryz.prog W 0 (fun _ => true) true 35 v d p) :
    ∃ (c : CollD) (AE AG : Option Addr) (cE cG : Nat), v = .agg #[.slice AE c.entries.length cE, .slice AG c.groups.length cG, .int .i64 c.base, .int .i64 c.second, .int .i64 c.third] ∧ EntsAt W AE c.entries ∧ GroupsAt W AG c.groups ∧ WfColl c := by
  have c1 : Tryz.prog.cellsOf 32 = 1 := by kernel_rfl
  have c2 : Tryz.prog.cellsOf 33 = 1 := by kernel_rfl
  have c3 : Tryz.prog.cellsOf 3 = 1 := by kernel_rfl
  have c5 : Tryz.prog.cellsOf 35 = 5 := by kernel_rfl
  obtain ⟨cs, rfl, hsz⟩ := okWide_struct Tryz.underlying35 hv
  obtain ⟨fuel, hf0⟩ := h
  obtain ⟨xs, n, _, _, hl, hlen, hf⟩ := DataW.trod_struct Tryz.underlying35 hf0
  rw [c5] at hl
  obtain ⟨l⟩ := cs
  have hl : l.length = 5 := hl
  match xs, hlen with
  | [y0, y1, y2, y3, y4], _ =>
    have f0 : DataW.trod enc Tryz.prog W 0 (fun _ => true) true n 32 ((l.drop 0).take (Tryz.prog.cellsOf 32)) = some y0 := hf 0 _ rfl
    have f1 : DataW.trod enc Tryz.prog W 0 (fun _ => true) true n 33 ((l.drop 1).take (Tryz.prog.cellsOf 33)) = some y1 := hf 1 _ rfl
    have f2 : DataW.trod enc Tryz.prog W 0 (fun _ => true) true n 3 ((l.drop 2).take (Tryz.prog.cellsOf 3)) = some y2 := hf 2 _ rfl
    have f3 : DataW.trod enc Tryz.prog W 0 (fun _ => true) true n 3 ((l.drop 3).take (Tryz.prog.cellsOf 3)) = some y3 := hf 3 _ rfl
    have f4 : DataW.trod enc Tryz.prog W 0 (fun _ => true) true n 3 ((l.drop 4).take (Tryz.prog.cellsOf 3)) = some y4 := hf 4 _ rfl
    clear hf
    match l, hl with
    | [v0, v1, v2, v3, v4], _ =>
      rw [c1] at f0
      rw [c2] at f1
      rw [c3] at f2 f3 f4
      obtain ⟨A0, es, cap0, e0, hE, hwe, hl0, _⟩ := open_entries_at (x := y0) f0
      obtain ⟨A1, gs, cap1, e1, hG, hwg, hl1, _⟩ := open_groups_at (x := y1) f1
      obtain ⟨n2, e2, _, w2⟩ := DataW.trod_int Tryz.underlying3 (x := y2) f2
      obtain ⟨n3, e3, _, w3⟩ := DataW.trod_int Tryz.underlying3 (x := y3) f3
      obtain ⟨n4, e4, _, w4⟩ := DataW.trod_int Tryz.underlying3 (x := y4) f4
      have d0 : v0 = .slice A0 es.length cap0 := by simpa using e0
      have d1 : v1 = .slice A1 gs.length cap1 := by simpa using e1
      have d2 : v2 = .int .i64 n2 := by simpa using e2
      have d3 : v3 = .int .i64 n3 := by simpa using e3
      have d4 : v4 = .int .i64 n4 := by simpa using e4
      exact ⟨⟨es, gs, n2, n3, n4⟩, A0, A1, cap0, cap1, by rw [d0, d1, d2, d3, d4], hE, hG, ⟨hl0, hl1, hwe, hwg, bounds_i64 w2, bounds_i64 w3, bounds_i64 w4⟩⟩
theorem WfColl.wf {c : CollD} (h : WfColl c) : WfC c := ⟨h.b.2, h.s.2, h.t.2, fun x hx => ⟨(h.g x hx).2.1.2, (h.g x hx).2.2.2⟩⟩
end
end Go.Proofs.YthogkokifiibnaaGreatDoor
