/- Memory of rows of bools; flagKey (written by wip/genBm13.py) What automaton keeps in memory; its numbering of flags -/
import Derived.Test.YtlmdjggpeiddoaaDoorD11
namespace Go.Proofs.YtlmdjggpeiddoaaDoor
open Go.RowKit Go.Sort

def rowBl (rs : List (List Bool)) (k : Nat) : List Bool := rs.getD k []
/-- the slice at A reads as the bools zs; its block is one of bools, and not R -/
def BoolsT (R : Nat) (w : World) (A : Option Addr) (zs : List Bool) : Prop :=
  0 < zs.length → ∃ b off cs fr, A = some ⟨b, off, none⟩ ∧ b ≠ R ∧ w.heap[b]? = some (.cells cs 4 fr) ∧ ∀ j, j < zs.length → cs[off + j]? = some (.bool (zs.getD j false))
theorem BoolsT.kept {R : Nat} {w w' : World} {A : Option Addr} {zs : List Bool} {row : Option Nat} (h : BoolsT R w A zs) (hg : w.grownBy w' row) (hr : ∀ g, row = some g → g = R ∨ ∀ cs fr, w.heap[g]? ≠ some (.cells cs 4 fr)) : BoolsT R w' A zs := by
  intro hz
  obtain ⟨b, off, cs, fr, e, hR, hb, hc⟩ := h hz
  refine ⟨b, off, cs, fr, e, hR, ?_, hc⟩
  rw [hg.block b (Array.getElem?_eq_some_iff.1 hb).1 ?_, hb]
  intro e2
  rcases hr b e2.symm with h3 | h3
  · exact hR h3
  · exact h3 _ _ hb
theorem BoolsT.keep {R : Nat} {w w' : World} {A : Option Addr} {zs : List Bool} (h : BoolsT R w A zs) (hb : Below w.heap.size w w') : BoolsT R w' A zs := h.kept (grown_below hb none) (fun g e => by cases e)
theorem BoolsT.nil {R : Nat} {w : World} {A : Option Addr} : BoolsT R w A [] := fun h => by simp at h
/-- another block may be left out, if it is new -/
theorem BoolsT.other {R R' : Nat} {w : World} {A : Option Addr} {zs : List Bool} (h : BoolsT R w A zs) (hR : w.heap.size ≤ R') : BoolsT R' w A zs := by
  intro hz
  obtain ⟨b, off, cs, fr, e, _, hb, hc⟩ := h hz
  exact ⟨b, off, cs, fr, e, by have := (Array.getElem?_eq_some_iff.1 hb).1; omega, hb, hc⟩

/-- a value that is a slice of bools -/
def IsB (R : Nat) (w : World) (v : Value) (zs : List Bool) : Prop := ∃ A c, v = .slice A zs.length c ∧ BoolsT R w A zs ∧ zs.length ≤ c ∧ (A = none → c = 0)
/-- v is a slice of slices of bools of the call's own -/
def OwnV (R : Nat) (w : World) (base : Nat) (v : Value) (rs : List (List Bool)) : Prop :=
  ∃ vs : List Value, vs.length = rs.length ∧ w.ownsRow base 65 1 v rs.length vs ∧ ∀ j, j < rs.length → IsB R w (vs.getD j undef) (rowBl rs j)
theorem IsB.kept {R : Nat} {w w' : World} {v : Value} {zs : List Bool} {row : Option Nat} (h : IsB R w v zs) (hg : w.grownBy w' row) (hr : ∀ g, row = some g → g = R ∨ ∀ cs fr, w.heap[g]? ≠ some (.cells cs 4 fr)) : IsB R w' v zs := by
  obtain ⟨A, c, e, h1, h2⟩ := h
  exact ⟨A, c, e, h1.kept hg hr, h2⟩
theorem IsB.keep {R : Nat} {w w' : World} {v : Value} {zs : List Bool} (h : IsB R w v zs) (hb : Below w.heap.size w w') : IsB R w' v zs := h.kept (grown_below hb none) (fun g e => by cases e)
theorem OwnV.kept {R : Nat} {w w' : World} {base : Nat} {v : Value} {rs : List (List Bool)} {row : Option Nat} (h : OwnV R w base v rs) (hg : w.grownBy w' row) (hr : ∀ g, row = some g → g = R ∨ ∀ cs fr, w.heap[g]? ≠ some (.cells cs 4 fr)) (hv : v.ownBlock = none ∨ v.ownBlock ≠ row) : OwnV R w' base v rs := by
  obtain ⟨vs, hl, ho, hi⟩ := h
  exact ⟨vs, hl, ho.kept hg hv, fun j hj => (hi j hj).kept hg hr⟩
theorem OwnV.keep {R : Nat} {w w' : World} {base : Nat} {v : Value} {rs : List (List Bool)} (h : OwnV R w base v rs) (hb : Below w.heap.size w w') : OwnV R w' base v rs :=
  h.kept (grown_below hb none) (fun g e => by cases e) (by cases v.ownBlock <;> simp)
theorem OwnV.nil {R : Nat} (w : World) (base : Nat) : OwnV R w base (.slice none 0 0) [] := ⟨[], rfl, ⟨rfl, .inl ⟨rfl, rfl⟩⟩, fun j hj => by simp at hj⟩
theorem IsB.other {R R' : Nat} {w : World} {v : Value} {zs : List Bool} (h : IsB R w v zs) (hR : w.heap.size ≤ R') : IsB R' w v zs := by
  obtain ⟨A, c, e, h1, h2⟩ := h
  exact ⟨A, c, e, h1.other hR, h2⟩
theorem OwnV.other {R R' : Nat} {w : World} {base : Nat} {v : Value} {rs : List (List Bool)} (h : OwnV R w base v rs) (hR : w.heap.size ≤ R') : OwnV R' w base v rs := by
  obtain ⟨vs, hl, ho, hi⟩ := h
  exact ⟨vs, hl, ho, fun j hj => (hi j hj).other hR⟩
/-- the row's block is one of slices -/
theorem OwnV.typed {R : Nat} {w : World} {base : Nat} {v : Value} {rs : List (List Bool)} (h : OwnV R w base v rs) : ∀ g, v.ownBlock = some g → base ≤ g ∧ ∃ cs, w.heap[g]? = some (.cells cs 65 (0, 0)) := by
  intro g hg
  obtain ⟨vs, _, ho, _⟩ := h
  rcases ho.2 with ⟨rfl, _⟩ | ⟨g', cap, cur, rfl, hb, hc, _⟩
  · cases hg
  · simp only [Value.ownBlock, Option.some.injEq] at hg
    subst hg
    exact ⟨hb, cur, hc⟩
theorem OwnV.form {R : Nat} {w : World} {base : Nat} {v : Value} {rs : List (List Bool)} (h : OwnV R w base v rs) : ∃ A c, v = .slice A rs.length c ∧ rs.length ≤ c ∧ (A = none → c = 0) := by
  obtain ⟨vs, _, ho, _⟩ := h
  rcases ho.2 with ⟨hv, h0⟩ | ⟨g, cap, cur, hv, _, _, h1, _⟩
  · exact ⟨none, 0, by rw [hv, h0], by omega, fun _ => rfl⟩
  · exact ⟨_, _, hv, h1, fun h => by cases h⟩
theorem OwnV.at_ {R : Nat} {w : World} {base : Nat} {A : Option Addr} {n c : Nat} {rs : List (List Bool)} (h : OwnV R w base (.slice A n c) rs) {k : Nat} (hk : k < rs.length) :
    ∃ b v, A = some ⟨b, 0, none⟩ ∧ b < w.heap.size ∧ w.cell? ⟨b, k, none⟩ = some v ∧ IsB R w v (rowBl rs k) := by
  obtain ⟨vs, hl, ho, hi⟩ := h
  obtain ⟨g, cap, hv, _, hlt⟩ := ho.form (by omega)
  have hA : A = some ⟨g, 0, none⟩ := by injection hv
  subst hA
  refine ⟨g, vs.getD k undef, rfl, hlt, ?_, hi k hk⟩
  have hn : n = rs.length := by injection hv
  subst hn
  have := ho.cells (g := g) rfl k (vs.getD k undef) (by simp [hl, hk])
  rwa [Go.WideShapes.add_plain, Nat.zero_add] at this
theorem infoBls : (Tryd.prog.info? 65).map (fun i => (i.zero, i.size, i.bytes)) = some (some (.slice none 0 0), 1, 24) := by kernel_rfl
theorem rowBl_lt {rs : List (List Bool)} {r : List Bool} {j : Nat} (h : j < rs.length) : rowBl (rs ++ [r]) j = rowBl rs j := by
  unfold rowBl
  rw [List.getD_eq_getElem?_getD, List.getD_eq_getElem?_getD, List.getElem?_append_left h]
theorem rowBl_new {rs : List (List Bool)} {r : List Bool} : rowBl (rs ++ [r]) rs.length = r := by simp [rowBl]
/-- append(v, s), as a run: s lies in the newest block -/
theorem appendV (ty : TypeId) {R : Nat} {w : World} {base : Nat} {v : Value} {rs : List (List Bool)} (h : OwnV R w base v rs) {s : Value} {r : List Bool} (hs : IsB R w s r) (hone : s.oneCell' = true) (hl : rs.length + 1 ≤ 1000000) (hb : base ≤ w.heap.size) :
    ∃ v' w', (Builtin.append_ #[103, 103] ty #[v, .slice (some ⟨w.heap.size, 0, none⟩) 1 1]).run Tryd.prog (w.alloc (.cells #[s] 65)) = .ok v' w' ∧ OwnV R w' base v' (rs ++ [r]) ∧ (w.alloc (.cells #[s] 65)).grownBy w' v.ownBlock ∧ (v'.ownBlock = v.ownBlock ∨ ∃ g, v'.ownBlock = some g ∧ (w.alloc (.cells #[s] 65)).heap.size ≤ g) := by
  obtain ⟨i0, hi, hz0, hz1, hz2⟩ := info_parts infoBls
  have hbx := bBox w (.cells #[s] 65)
  have htyp := h.typed
  have h' := h.keep hbx
  have hs' := hs.keep hbx
  obtain ⟨vs, hvl, ho, hii⟩ := h'
  obtain ⟨v', w', hrun, hown', hg, _, hloc⟩ := run_append_own_at (P := Tryd.prog) (w.alloc (.cells #[s] 65)) base 103 ty 65 i0 (.slice none 0 0) 1 24 Tryd.underlying103 hi hz0 hz1 hz2 rfl (by decide) v rs.length vs ho ⟨w.heap.size, 0, none⟩ 1 1 [s] rfl
    (fun j u hu => by
      match j, hu with
      | 0, hu =>
        simp at hu
        subst hu
        exact cell_box w _ _ 0) (fun u hu => by simp at hu; subst hu; exact hone) (by unfold maxLen; omega) (by omega) (Nat.le_trans hb hbx.size)
  have hnotint : ∀ g, v.ownBlock = some g → g = R ∨ ∀ cs fr, (w.alloc (.cells #[s] 65)).heap[g]? ≠ some (.cells cs 4 fr) := by
    intro g e
    right
    obtain ⟨_, cs, hc⟩ := htyp g e
    intro cs' fr' hc'
    rw [hbx.block g (Array.getElem?_eq_some_iff.1 hc).1, hc] at hc'
    injection hc' with hc'
    injection hc' with _ e2
    exact absurd e2 (by decide)
  refine ⟨v', w', hrun, ⟨vs ++ [s], by simp [hvl], ?_, fun j hj => ?_⟩, hg, ?_⟩
  · rw [List.length_append]
    exact hown'
  · by_cases hlt : j < rs.length
    · rw [rowBl_lt hlt, List.getD_eq_getElem?_getD, List.getElem?_append_left (by omega), ← List.getD_eq_getElem?_getD]
      exact (hii j hlt).kept hg hnotint
    · obtain rfl : j = rs.length := by simp at hj; omega
      rw [rowBl_new, List.getD_eq_getElem?_getD, List.getElem?_append_right (by omega), hvl, Nat.sub_self]
      exact hs'.kept hg hnotint
  · rcases hloc with e | e
    · exact .inl e
    · exact .inr ⟨_, e, Nat.le_refl _⟩
/-- .. as a step of a walk -/
theorem wpV {ops : Array Oper} {rest : List Oper} {o : Oper} {a : Act} {Q : Exit → Act → World → Prop} {R : Nat} {W : World} (hgd : o.guard = none) (s x : Operand) (ho : o.op = .call { callee := .builtin .append, args := #[s, x], argTypes := #[103, 103] })
    {base : Nat} {v : Value} {rs : List (List Bool)} (hs : a.eval s = v) (h : OwnV R W base v rs) {sv : Value} {r : List Bool} (hsr : IsB R W sv r) (hone : sv.oneCell' = true) (hx : a.eval x = .slice (some ⟨W.heap.size, 0, none⟩) 1 1) (hl : rs.length + 1 ≤ 1000000) (hb : base ≤ W.heap.size)
    (hK : ∀ v' w', Hid (OwnV R w' base v' (rs ++ [r])) → Hid ((W.alloc (.cells #[sv] 65)).grownBy w' v.ownBlock) → Hid (v'.ownBlock = v.ownBlock ∨ ∃ g, v'.ownBlock = some g ∧ (W.alloc (.cells #[sv] 65)).heap.size ≤ g) → wpList Tryd.prog ops Q rest (a.put o.dst v') w') : wpList Tryd.prog ops Q (o :: rest) a (W.alloc (.cells #[sv] 65)) := by
  refine wpList_plain hgd fun K hk => ?_
  obtain ⟨v', w', hr, h2, h3, h4⟩ := appendV o.type h hsr hone hl hb
  unfold Oper.wp execOp
  simp only [ho, resolve, invoke, builtin, Sem.run_bind, Sem.run_pure, Result.andThen_ok, List.map_toArray, List.map_cons, List.map_nil, hs, hx, hr]
  exact hk _ _ (hK v' w' (Lib.hid h2) (Lib.hid h3) (Lib.hid h4))
theorem OwnV.away {R : Nat} {w w' : World} {base : Nat} {v : Value} {rs : List (List Bool)} {row : Option Nat} (h : OwnV R w base v rs) (hg : w.grownBy w' row) (h1 : row = some R ∨ Away w row 4) (h2 : Away w row 65) : OwnV R w' base v rs := by
  have htyp := h.typed
  refine h.kept hg ?_ ?_
  · intro g e
    rcases h1 with h1 | h1
    · rw [h1] at e
      injection e with e
      exact .inl e.symm
    · exact .inr (h1 g e)
  · cases hv : v.ownBlock with
    | none => exact .inl rfl
    | some g =>
      right
      intro e
      obtain ⟨_, cs, hc⟩ := htyp g hv
      exact h2 g e.symm _ _ hc
theorem IsB.away {R : Nat} {w w' : World} {v : Value} {zs : List Bool} {row : Option Nat} (h : IsB R w v zs) (hg : w.grownBy w' row) (h1 : row = some R ∨ Away w row 4) : IsB R w' v zs := by
  refine h.kept hg ?_
  intro g e
  rcases h1 with h1 | h1
  · rw [h1] at e
    injection e with e
    exact .inl e.symm
  · exact .inr (h1 g e)


theorem IsB.at_ {R : Nat} {w : World} {A : Option Addr} {n c : Nat} {zs : List Bool} (h : IsB R w (.slice A n c) zs) {k : Nat} (hk : k < zs.length) : ∃ b off, A = some ⟨b, off, none⟩ ∧ b ≠ R ∧ b < w.heap.size ∧ w.cell? ⟨b, off + k, none⟩ = some (.bool (zs.getD k false)) := by
  obtain ⟨A', c', e, h1, _⟩ := h
  injection e with e1 _ _
  subst e1
  obtain ⟨b, off, cs, fr, rfl, hR, hb, hc⟩ := h1 (by omega)
  exact ⟨b, off, rfl, hR, (Array.getElem?_eq_some_iff.1 hb).1, by simp [World.cell?, hb, hc k hk]⟩
theorem IsB.form {R : Nat} {w : World} {v : Value} {zs : List Bool} (h : IsB R w v zs) : ∃ A c, v = .slice A zs.length c := by
  obtain ⟨A, c, e, _⟩ := h
  exact ⟨A, c, e⟩
/-- a block of bools that the call writes -/
def ArrB (w : World) (g : Nat) (bs : List Bool) : Prop := Blk w g (bs.map Value.bool).toArray 4
theorem ArrB.isB {w : World} {g : Nat} {zs : List Bool} (h : ArrB w g zs) {R : Nat} (hR : g ≠ R) : IsB R w (.slice (some ⟨g, 0, none⟩) zs.length zs.length) zs :=
  ⟨_, _, rfl, fun _ => ⟨g, 0, _, _, rfl, hR, h, fun j hj => by simp [hj]⟩, Nat.le_refl _, fun e => by cases e⟩
theorem OwnBl.isB {R : Nat} {w : World} {base : Nat} {v : Value} {zs : List Bool} (h : OwnBl w base v zs) (hR : R < base) : IsB R w v zs := by
  rcases h.2 with ⟨rfl, h0⟩ | ⟨g, cap, cur, rfl, hb, hc, h1, _, _, ht⟩
  · obtain rfl : zs = [] := List.length_eq_zero_iff.1 h0
    exact ⟨none, 0, rfl, BoolsT.nil, Nat.le_refl _, fun _ => rfl⟩
  · refine ⟨_, _, rfl, fun hz => ⟨g, 0, cur, (0, 0), rfl, by omega, hc, fun j hj => ?_⟩, h1, fun e => by cases e⟩
    have e : (cur.toList.take (zs.length * 1))[j]? = (zs.map Value.bool)[j]? := by rw [ht]
    rw [List.getElem?_take_of_lt (by omega)] at e
    simpa [hj] using e

/-- the key of three flags -/
def bit (b : Bool) : UInt8 := if b then 1 else 0
def keyF (bs : List Bool) : List UInt8 := bs.map bit
theorem bit0_eq : ((bit false).toNat : Int) = 0 := rfl
theorem bit1_eq : ((bit true).toNat : Int) = 1 := rfl
theorem bit_inj {x y : Bool} (h : bit x = bit y) : x = y := by revert x y; decide
theorem keyF_inj {s t : List Bool} (h : keyF s = keyF t) : s = t := by
  unfold keyF at h
  induction s generalizing t with
  | nil => simpa using h.symm
  | cons x s ih =>
    cases t with
    | nil => simp at h
    | cons y t =>
      simp only [List.map_cons, List.cons.injEq] at h
      rw [bit_inj h.1, ih h.2]

set_option maxHeartbeats 8000000 in
set_option maxRecDepth 100000 in
theorem flagKey (x y z : Bool) (v : Value) (R : Nat) (w : World) (hv : IsB R w v [x, y, z]) :
    Calls Tryd.prog 63 #[v] w fun e w' => e = .returned (.string ⟨(keyF [x, y, z]).toArray⟩) ∧ Below w.heap.size w w' := by
  obtain ⟨A, c, rfl⟩ := hv.form
  obtain ⟨b, off, rfl, -, hb, h0⟩ := hv.at_ (k := 0) (by simp)
  obtain ⟨b', off', e', -, -, h1⟩ := hv.at_ (k := 1) (by simp)
  obtain ⟨b'', off'', e'', -, -, h2⟩ := hv.at_ (k := 2) (by simp)
  injection e' with e'
  injection e' with e1 e2
  injection e'' with e''
  injection e'' with e3 e4
  subst e1 e2 e3 e4
  clear hv
  have h0 : w.cell? ⟨b, off, none⟩ = some (.bool x) := h0
  have h1 : w.cell? ⟨b, off + 1, none⟩ = some (.bool y) := h1
  have h2 : w.cell? ⟨b, off + 2, none⟩ = some (.bool z) := h2
  obtain ⟨i0, hi, hz0, hz1, hz2⟩ := info_parts infoByte
  have hmk : ∀ w, (Instr.makeSlice 116 (.int .i64 3) (.int .i64 3)).run Tryd.prog w = .ok (.slice (some ⟨w.heap.size, 0, none⟩) 3 3) (w.alloc (.cells #[.int .u8 0, .int .u8 0, .int .u8 0] 5)) := by
    intro w
    have := run_make (P := Tryd.prog) w 116 5 i0 _ Tryd.underlying116 hi hz0 .i64 .i64 3 3 (by omega) (by omega) (by rw [hz2]; omega) (by omega)
    rw [hz1] at this
    rw [this, show (Value.int .u8 0).cells = #[.int .u8 0] from rfl, made_rep]
    rfl
  clear hi hz0 hz1 hz2
  have HCv : Hid (∀ w', w'.heap = (w.alloc (.cells #[.int .u8 (bit x).toNat, .int .u8 (bit y).toNat, .int .u8 (bit z).toNat] 5)).heap → (convert 116 9 (.slice (some ⟨w.heap.size, 0, none⟩) 3 3)).run Tryd.prog w' = .ok (.string ⟨(keyF [x, y, z]).toArray⟩) w') := Lib.hid (by
    intro w' hw'
    refine run_convert_bytes_back (P := Tryd.prog) w' 116 9 5 ⟨w.heap.size, 0, none⟩ 3 (keyF [x, y, z]) Tryd.underlying116 Tryd.underlying5 Tryd.underlying9 (fun j hj => ?_)
    have hc : ∀ i, w'.cell? ⟨w.heap.size, i, none⟩ = (#[Value.int .u8 (bit x).toNat, .int .u8 (bit y).toNat, .int .u8 (bit z).toNat])[i]? := fun i => by
      rw [← cell_box w _ 5 i]
      unfold World.cell?
      rw [hw']
    match j, hj with
    | 0, _ => exact hc 0
    | 1, _ => exact hc 1
    | 2, _ => exact hc 2)
  cases x <;> cases y <;> cases z
  all_goals
    go_enter Tryd.func63, Tryd.ntmps63
    go_wp2_with fail
    refine wp_loop_rounds 4 ?_
    rw [rounds_succ]
    go_wp2_with fail
    rw [rounds_succ]
    go_wp2_with fail
    rw [rounds_succ]
    go_wp2_with fail
    have hcv := HCv.out _ rfl
    simp only [bit0_eq, bit1_eq] at hcv
    clear HCv
    rw [rounds_succ]
    go_wp2_with fail
    go_ret
    exact ⟨rfl, bBox _ _⟩
end Go.Proofs.YtlmdjggpeiddoaaDoor
namespace Go.Proofs.YtlmdjggpeiddoaaDoor
open Go.RowKit Go.Sort

structure AutA where
  bN : Nat
  bM : Nat
  bS : Nat
  bA : Nat
  bR : Nat
structure AutS (B Ri Rb : Nat) (w : World) (a : AutA) (cnt : Nat) (f : List UInt8 → Option Int) (ss : List (List Bool)) (nx mk : List (List Int)) (sv nv mv : Value) : Prop where
  numbers : Blk w a.bN #[.map (some a.bM)] 97
  sets : Blk w a.bS #[sv] 103
  auto : Blk w a.bA #[nv, mv] 26
  res : a.bA ≠ a.bR → Blk w a.bR #[.slice none 0 0, .slice none 0 0] 26
  map : IntS Tryd.prog 9 3 w a.bM cnt f
  srow : OwnV Rb w B sv ss
  nrow : OwnR Ri w B nv nx
  mrow : OwnR Ri w B mv mk
  apart : ∀ g, nv.ownBlock = some g → mv.ownBlock ≠ some g
  lM : B ≤ a.bM
  lS : B ≤ a.bS
  lA : B ≤ a.bA
  lB : B ≤ w.heap.size
theorem AutS.keep {B Ri Rb : Nat} {w w' : World} {a : AutA} {cnt : Nat} {f : List UInt8 → Option Int} {ss : List (List Bool)} {nx mk : List (List Int)} {sv nv mv : Value} (h : AutS B Ri Rb w a cnt f ss nx mk sv nv mv) (hb : Below w.heap.size w w') : AutS B Ri Rb w' a cnt f ss nx mk sv nv mv :=
  ⟨h.numbers.keep hb, h.sets.keep hb, h.auto.keep hb, fun hne => (h.res hne).keep hb, h.map.grow hb, h.srow.keep hb, h.nrow.keep hb, h.mrow.keep hb, h.apart, h.lM, h.lS, h.lA, Nat.le_trans h.lB hb.size⟩
theorem AutS.otherI {B Ri Ri' Rb : Nat} {w : World} {a : AutA} {cnt : Nat} {f : List UInt8 → Option Int} {ss : List (List Bool)} {nx mk : List (List Int)} {sv nv mv : Value} (h : AutS B Ri Rb w a cnt f ss nx mk sv nv mv) (hR : w.heap.size ≤ Ri') : AutS B Ri' Rb w a cnt f ss nx mk sv nv mv :=
  ⟨h.numbers, h.sets, h.auto, h.res, h.map, h.srow, h.nrow.other hR, h.mrow.other hR, h.apart, h.lM, h.lS, h.lA, h.lB⟩
theorem AutS.otherB {B Ri Rb Rb' : Nat} {w : World} {a : AutA} {cnt : Nat} {f : List UInt8 → Option Int} {ss : List (List Bool)} {nx mk : List (List Int)} {sv nv mv : Value} (h : AutS B Ri Rb w a cnt f ss nx mk sv nv mv) (hR : w.heap.size ≤ Rb') : AutS B Ri Rb' w a cnt f ss nx mk sv nv mv :=
  ⟨h.numbers, h.sets, h.auto, h.res, h.map, h.srow.other hR, h.nrow, h.mrow, h.apart, h.lM, h.lS, h.lA, h.lB⟩
/-- the map has turned -/
theorem AutS.mapped {B Ri Rb : Nat} {w w' : World} {a : AutA} {cnt cnt' : Nat} {f f' : List UInt8 → Option Int} {ss : List (List Bool)} {nx mk : List (List Int)} {sv nv mv : Value} (h : AutS B Ri Rb w a cnt f ss nx mk sv nv mv) (hg : w.grownBy w' (some a.bM)) (hm : IntS Tryd.prog 9 3 w' a.bM cnt' f') : AutS B Ri Rb w' a cnt' f' ss nx mk sv nv mv := by
  obtain ⟨es, c, hobj⟩ := h.map.obj
  have ha : ∀ t, Away w (some a.bM) t := fun t => Away.of_map hobj
  exact ⟨h.numbers.away hg (ha _), h.sets.away hg (ha _), h.auto.away hg (ha _), fun hne => (h.res hne).away hg (ha _), hm, h.srow.away hg (.inr (ha _)) (ha _), h.nrow.away hg (.inr (ha _)) (ha _), h.mrow.away hg (.inr (ha _)) (ha _), h.apart, h.lM, h.lS, h.lA, Nat.le_trans h.lB hg.size⟩
/-- flags have been appended, the variable holds the new slice -/
theorem AutS.setted {B Ri Rb : Nat} {w w' : World} {a : AutA} {cnt : Nat} {f : List UInt8 → Option Int} {ss ss' : List (List Bool)} {nx mk : List (List Int)} {sv sv' nv mv : Value} (h : AutS B Ri Rb w a cnt f ss nx mk sv nv mv) (hg : w.grownBy w' sv.ownBlock) (ho : OwnV Rb w' B sv' ss') : AutS B Ri Rb (w'.setCell ⟨a.bS, 0, none⟩ sv') a cnt f ss' nx mk sv' nv mv := by
  have hr : ∀ g, sv.ownBlock = some g → ∃ cs, w.heap[g]? = some (.cells cs 65 (0, 0)) := fun g e => (h.srow.typed g e).2
  have ha : ∀ t, (65 : TypeId) ≠ t → Away w sv.ownBlock t := fun t ht => Away.of_row hr ht
  have b1 := h.sets.away hg (ha _ (by decide))
  have hs2 := grown_set w' ⟨a.bS, 0, none⟩ sv'
  have hb : ∀ t, (103 : TypeId) ≠ t → Away w' (some a.bS) t := fun t ht => Away.of_cells b1 ht
  refine ⟨(h.numbers.away hg (ha _ (by decide))).away hs2 (hb _ (by decide)), b1.setAll sv', (h.auto.away hg (ha _ (by decide))).away hs2 (hb _ (by decide)), fun hne => ((h.res hne).away hg (ha _ (by decide))).away hs2 (hb _ (by decide)), ?_, ho.away hs2 (.inr (hb _ (by decide))) (hb _ (by decide)), (h.nrow.away hg (.inr (ha _ (by decide))) (ha _ (by decide))).away hs2 (.inr (hb _ (by decide))) (hb _ (by decide)), (h.mrow.away hg (.inr (ha _ (by decide))) (ha _ (by decide))).away hs2 (.inr (hb _ (by decide))) (hb _ (by decide)), h.apart, h.lM, h.lS, h.lA, ?_⟩
  · exact (h.map.away hg (h.map.neRow hr)).away hs2 ((h.map.away hg (h.map.neRow hr)).ne b1)
  · simpa using Nat.le_trans h.lB hg.size
/-- a block of bools of the call's own has been written -/
theorem AutS.rowedB {B Ri Rb : Nat} {w : World} {a : AutA} {cnt : Nat} {f : List UInt8 → Option Int} {ss : List (List Bool)} {nx mk : List (List Int)} {sv nv mv : Value} (h : AutS B Ri Rb w a cnt f ss nx mk sv nv mv) {zs : List Bool} (hr : ArrB w Rb zs) (i : Nat) (u : Value) : AutS B Ri Rb (w.setCell ⟨Rb, i, none⟩ u) a cnt f ss nx mk sv nv mv := by
  have hg := grown_set w ⟨Rb, i, none⟩ u
  have hb : ∀ t, (4 : TypeId) ≠ t → Away w (some Rb) t := fun t ht => Away.of_cells hr ht
  exact ⟨h.numbers.away hg (hb _ (by decide)), h.sets.away hg (hb _ (by decide)), h.auto.away hg (hb _ (by decide)), fun hne => (h.res hne).away hg (hb _ (by decide)), h.map.away hg (h.map.ne hr), h.srow.away hg (.inl rfl) (hb _ (by decide)), h.nrow.away hg (.inr (hb _ (by decide))) (hb _ (by decide)), h.mrow.away hg (.inr (hb _ (by decide))) (hb _ (by decide)), h.apart, h.lM, h.lS, h.lA, by simpa using h.lB⟩
/-- a block of ints of the call's own has been written -/
theorem AutS.rowedI {B Ri Rb : Nat} {w : World} {a : AutA} {cnt : Nat} {f : List UInt8 → Option Int} {ss : List (List Bool)} {nx mk : List (List Int)} {sv nv mv : Value} (h : AutS B Ri Rb w a cnt f ss nx mk sv nv mv) {zs : List Int} (hr : Arr w Ri zs) (i : Nat) (u : Value) : AutS B Ri Rb (w.setCell ⟨Ri, i, none⟩ u) a cnt f ss nx mk sv nv mv := by
  have hg := grown_set w ⟨Ri, i, none⟩ u
  have hb : ∀ t, (3 : TypeId) ≠ t → Away w (some Ri) t := fun t ht => Away.of_cells hr ht
  exact ⟨h.numbers.away hg (hb _ (by decide)), h.sets.away hg (hb _ (by decide)), h.auto.away hg (hb _ (by decide)), fun hne => (h.res hne).away hg (hb _ (by decide)), h.map.away hg (h.map.ne hr), h.srow.away hg (.inr (hb _ (by decide))) (hb _ (by decide)), h.nrow.away hg (.inl rfl) (hb _ (by decide)), h.mrow.away hg (.inl rfl) (hb _ (by decide)), h.apart, h.lM, h.lS, h.lA, by simpa using h.lB⟩
/-- a row has been appended to next -/
theorem AutS.nexted {B Ri Rb : Nat} {w w' : World} {a : AutA} {cnt : Nat} {f : List UInt8 → Option Int} {ss : List (List Bool)} {nx nx' mk : List (List Int)} {sv nv nv' mv : Value} (h : AutS B Ri Rb w a cnt f ss nx mk sv nv mv) (hg : w.grownBy w' nv.ownBlock) (ho : OwnR Ri w' B nv' nx') (hloc : nv'.ownBlock = nv.ownBlock ∨ ∃ g, nv'.ownBlock = some g ∧ w.heap.size ≤ g) : AutS B Ri Rb (w'.setCell ⟨a.bA, 0, none⟩ nv') a cnt f ss nx' mk sv nv' mv := by
  have hr : ∀ g, nv.ownBlock = some g → ∃ cs, w.heap[g]? = some (.cells cs 23 (0, 0)) := fun g e => (h.nrow.typed g e).2
  have ha : ∀ t, (23 : TypeId) ≠ t → Away w nv.ownBlock t := fun t ht => Away.of_row hr ht
  have b1 := h.auto.away hg (ha _ (by decide))
  have hs2 := grown_set w' ⟨a.bA, 0, none⟩ nv'
  have hb : ∀ t, (26 : TypeId) ≠ t → Away w' (some a.bA) t := fun t ht => Away.of_cells b1 ht
  have n1 : OwnR Ri w' B mv mk := by
    refine h.mrow.kept hg ?_ ?_
    · intro g e
      obtain ⟨cs, hc⟩ := hr g e
      exact .inr (Away.of_cells hc (by decide) g rfl)
    · cases hv' : mv.ownBlock with
      | none => exact .inl rfl
      | some g =>
        right
        intro e
        exact h.apart g e.symm hv'
  refine ⟨(h.numbers.away hg (ha _ (by decide))).away hs2 (hb _ (by decide)), (h.sets.away hg (ha _ (by decide))).away hs2 (hb _ (by decide)), b1.setAll nv', ?_, ?_, (h.srow.away hg (.inr (ha _ (by decide))) (ha _ (by decide))).away hs2 (.inr (hb _ (by decide))) (hb _ (by decide)), ho.away hs2 (.inr (hb _ (by decide))) (hb _ (by decide)), n1.away hs2 (.inr (hb _ (by decide))) (hb _ (by decide)), ?_, h.lM, h.lS, h.lA, ?_⟩
  · intro hne
    exact ((h.res hne).away hg (ha _ (by decide))).grown hs2 (fun e => by injection e with e; exact hne e.symm)
  · exact (h.map.away hg (h.map.neRow hr)).away hs2 ((h.map.away hg (h.map.neRow hr)).ne b1)
  · intro g e
    rcases hloc with e2 | ⟨g', e2, hge⟩
    · exact h.apart g (e2.symm.trans e)
    · intro e3
      obtain ⟨_, cs, hc⟩ := h.mrow.typed g e3
      have := (Array.getElem?_eq_some_iff.1 hc).1
      rw [e2] at e
      injection e with e
      omega
  · simpa using Nat.le_trans h.lB hg.size
/-- a row has been appended to marks -/
theorem AutS.marked {B Ri Rb : Nat} {w w' : World} {a : AutA} {cnt : Nat} {f : List UInt8 → Option Int} {ss : List (List Bool)} {nx mk mk' : List (List Int)} {sv nv mv mv' : Value} (h : AutS B Ri Rb w a cnt f ss nx mk sv nv mv) (hg : w.grownBy w' mv.ownBlock) (ho : OwnR Ri w' B mv' mk') (hloc : mv'.ownBlock = mv.ownBlock ∨ ∃ g, mv'.ownBlock = some g ∧ w.heap.size ≤ g) : AutS B Ri Rb (w'.setCell ⟨a.bA, 1, none⟩ mv') a cnt f ss nx mk' sv nv mv' := by
  have hr : ∀ g, mv.ownBlock = some g → ∃ cs, w.heap[g]? = some (.cells cs 23 (0, 0)) := fun g e => (h.mrow.typed g e).2
  have ha : ∀ t, (23 : TypeId) ≠ t → Away w mv.ownBlock t := fun t ht => Away.of_row hr ht
  have b1 := h.auto.away hg (ha _ (by decide))
  have hs2 := grown_set w' ⟨a.bA, 1, none⟩ mv'
  have hb : ∀ t, (26 : TypeId) ≠ t → Away w' (some a.bA) t := fun t ht => Away.of_cells b1 ht
  have n1 : OwnR Ri w' B nv nx := by
    refine h.nrow.kept hg ?_ ?_
    · intro g e
      obtain ⟨cs, hc⟩ := hr g e
      exact .inr (Away.of_cells hc (by decide) g rfl)
    · cases hv' : nv.ownBlock with
      | none => exact .inl rfl
      | some g =>
        right
        intro e
        exact h.apart g hv' e.symm
  refine ⟨(h.numbers.away hg (ha _ (by decide))).away hs2 (hb _ (by decide)), (h.sets.away hg (ha _ (by decide))).away hs2 (hb _ (by decide)), b1.setAll mv', ?_, ?_, (h.srow.away hg (.inr (ha _ (by decide))) (ha _ (by decide))).away hs2 (.inr (hb _ (by decide))) (hb _ (by decide)), n1.away hs2 (.inr (hb _ (by decide))) (hb _ (by decide)), ho.away hs2 (.inr (hb _ (by decide))) (hb _ (by decide)), ?_, h.lM, h.lS, h.lA, ?_⟩
  · intro hne
    exact ((h.res hne).away hg (ha _ (by decide))).grown hs2 (fun e => by injection e with e; exact hne e.symm)
  · exact (h.map.away hg (h.map.neRow hr)).away hs2 ((h.map.away hg (h.map.neRow hr)).ne b1)
  · intro g e
    rcases hloc with e2 | ⟨g', e2, hge⟩
    · intro e3
      exact h.apart g e (e2.symm.trans e3)
    · intro e3
      obtain ⟨_, cs, hc⟩ := h.nrow.typed g e
      have := (Array.getElem?_eq_some_iff.1 hc).1
      rw [e2] at e3
      injection e3 with e3
      omega
  · simpa using Nat.le_trans h.lB hg.size

/-- the automaton's own block has been made -/
theorem AutS.start {B Ri Rb : Nat} {w : World} {a : AutA} {cnt : Nat} {f : List UInt8 → Option Int} {ss : List (List Bool)} {sv : Value} (h : AutS B Ri Rb w a cnt f ss [] [] sv (.slice none 0 0) (.slice none 0 0)) (ha : a.bA = a.bR) : AutS B Ri Rb (w.alloc (.cells #[.slice none 0 0, .slice none 0 0] 26)) ⟨a.bN, a.bM, a.bS, w.heap.size, a.bR⟩ cnt f ss [] [] sv (.slice none 0 0) (.slice none 0 0) := by
  have hk := h.keep (bBox w (.cells #[.slice none 0 0, .slice none 0 0] 26))
  exact ⟨hk.numbers, hk.sets, Blk.new _ _ _, fun _ => by rw [← ha]; exact hk.auto, hk.map, hk.srow, hk.nrow, hk.mrow, (fun g e => by cases e), hk.lM, hk.lS, h.lB, hk.lB⟩

def numB (ss : List (List Bool)) (s : List Bool) : List (List Bool) := if s ∈ ss then ss else ss ++ [s]
def idxB (ss : List (List Bool)) (s : List Bool) : Nat := (numB ss s).idxOf s
def KeyB (f : List UInt8 → Option Int) (ss : List (List Bool)) : Prop := ∀ s, f (keyF s) = if s ∈ ss then some (ss.idxOf s : Int) else none
theorem KeyB.snoc {f : List UInt8 → Option Int} {ss : List (List Bool)} (h : KeyB f ss) {s : List Bool} (hn : s ∉ ss) : KeyB (fun y => if y = keyF s then some (ss.length : Int) else f y) (ss ++ [s]) := by
  intro t
  by_cases hts : t = s
  · subst hts
    simp [List.idxOf_append, hn]
  · have hk : keyF t ≠ keyF s := fun e => hts (keyF_inj e)
    simp only [hk, if_false]
    rw [h t]
    by_cases hm : t ∈ ss
    · simp [hm, List.idxOf_append]
    · simp [hm, hts]
def FlagOut (a : AutA) (B Ri Rb : Nat) (ss : List (List Bool)) (nx mk : List (List Int)) (nv mv : Value) (s : List Bool) (w : World) (e : Ending) (w' : World) : Prop :=
  ∃ f sv, e = .returned (.int .i64 (idxB ss s)) ∧ Hid (AutS B Ri Rb w' a (numB ss s).length f (numB ss s) nx mk sv nv mv) ∧ Hid (KeyB f (numB ss s)) ∧
    Hid (∀ w0, Below B w0 w → Below B w0 w') ∧ Hid (∀ b cs, Blk w b cs 3 → Blk w' b cs 3)

set_option maxHeartbeats 8000000 in
set_option maxRecDepth 100000 in
theorem flagOld (a : AutA) (B Ri Rb : Nat) (f : List UInt8 → Option Int) (ss : List (List Bool)) (nx mk : List (List Int)) (sv nv mv : Value) (x y z : Bool) (v : Value) (w : World) (i : Int)
    (hSt : AutS B Ri Rb w a ss.length f ss nx mk sv nv mv) (hvs : IsB Rb w v [x, y, z]) (hf : f (keyF [x, y, z]) = some i) :
    Calls Tryd.prog 62 #[v, .pointer (some ⟨a.bN, 0, none⟩), .pointer (some ⟨a.bS, 0, none⟩)] w fun e w' => e = .returned (.int .i64 i) ∧ Below w.heap.size w w' := by
  have HK := Lib.hid (flagKey x y z v Rb w hvs)
  have HLk := Lib.hid (fun w' (hb : Below w.heap.size w w') => (hSt.keep hb).map.look (t := 97) Tryd.underlying9 Tryd.underlying97 Tryd.underlying3 (zeroInt w') (x := keyF [x, y, z]) (by unfold maxLen; simp [keyF]))
  have HSt := Lib.hid hSt
  rw [hf] at HLk
  generalize keyF [x, y, z] = key at HK HLk
  clear hSt hvs hf
  go_enter Tryd.func62, Tryd.ntmps62
  go_wp2_with fail
  refine HK.out.mono ?_
  rintro e w1 ⟨rfl, hb1⟩
  have hlk := HLk.out w1 hb1
  have k0 : w1.cell? ⟨a.bN, 0, none⟩ = some (.map (some a.bM)) := (HSt.out.keep hb1).numbers.cell 0
  go_wp2_with fail
  go_ret
  exact ⟨rfl, hb1⟩

set_option maxHeartbeats 64000000 in
set_option maxRecDepth 100000 in
theorem flagNew (a : AutA) (B Ri Rb : Nat) (f : List UInt8 → Option Int) (ss : List (List Bool)) (nx mk : List (List Int)) (sv nv mv : Value) (x y z : Bool) (v : Value) (w : World)
    (hSt : AutS B Ri Rb w a ss.length f ss nx mk sv nv mv) (hvs : IsB Rb w v [x, y, z]) (hf : f (keyF [x, y, z]) = none) (hss : ss.length ≤ 1000) :
    Calls Tryd.prog 62 #[v, .pointer (some ⟨a.bN, 0, none⟩), .pointer (some ⟨a.bS, 0, none⟩)] w fun e w' => e = .returned (.int .i64 ss.length) ∧ ∃ sv', Hid (AutS B Ri Rb w' a (ss.length + 1) (fun u => if u = keyF [x, y, z] then some (ss.length : Int) else f u) (ss ++ [[x, y, z]]) nx mk sv' nv mv) ∧ Hid (∀ w0, Below B w0 w → Below B w0 w') ∧ Hid (∀ b cs, Blk w b cs 3 → Blk w' b cs 3) := by
  have HV := Lib.hid hvs
  have HK := Lib.hid (flagKey x y z v Rb w hvs)
  obtain ⟨A, cp, rfl⟩ := hvs.form
  have hkm : (keyF [x, y, z]).length ≤ maxLen := by unfold maxLen; simp [keyF]
  have HSt := Lib.hid hSt
  have HF := Lib.hid hf
  generalize hkey : keyF [x, y, z] = key at HK HF hkm
  have Hkey := Lib.hid hkey
  clear hkey
  clear hSt hvs hf
  go_enter Tryd.func62, Tryd.ntmps62
  go_wp2_with fail
  refine HK.out.mono ?_
  rintro e w1 ⟨rfl, hb1⟩
  have hS1 := HSt.out.keep hb1
  have hlk := hS1.map.look (t := 97) Tryd.underlying9 Tryd.underlying97 Tryd.underlying3 (zeroInt w1) hkm
  rw [HF.out] at hlk
  obtain ⟨w2, hupd, hm2, hg2⟩ := hS1.map.store (t := 97) Tryd.underlying9 Tryd.underlying97 Tryd.underlying3 (by unfold maxLen; omega) hkm (c := (ss.length : Int)) (wfI (by omega) (by omega))
  have hS2 := hS1.mapped hg2 hm2
  have HV2 := Lib.hid ((HV.out.keep hb1).away hg2 (.inr (by obtain ⟨es, c, ho⟩ := hS1.map.obj; exact Away.of_map ho)))
  obtain ⟨As, cs, hsv, -, -⟩ := hS2.srow.form
  have hsz1 := hb1.size
  have hsz2 := hg2.size
  have hbx2 := bBox w2 (.cells #[.slice A 3 cp] 65)
  subst hsv
  have b0 : w1.cell? ⟨a.bN, 0, none⟩ = some (.map (some a.bM)) := hS1.numbers.cell 0
  have b2 : w1.cell? ⟨a.bS, 0, none⟩ = some (.slice As ss.length cs) := hS1.sets.cell 0
  have b3 : w2.cell? ⟨a.bS, 0, none⟩ = some (.slice As ss.length cs) := hS2.sets.cell 0
  have HS2 := Lib.hid hS2
  have HG2 := Lib.hid hg2
  have hl2 : ss.length + 1 ≤ 1000000 := by omega
  have hB2 : B ≤ w2.heap.size := hS2.lB
  have hB1 : B ≤ w1.heap.size := hS1.lB
  have Hm1 := Lib.hid hS1.map.obj
  clear hS1 hS2 hm2 hg2
  go_wp2_with (at_builtin; refine wpV rfl _ _ rfl rfl HS2.out.srow HV2.out rfl rfl hl2 hB2 ?_)
  intro sv' w3 hoA hgA hlocA
  have HS4 := Lib.hid ((HS2.out.keep hbx2).setted hgA.out hoA.out)
  obtain ⟨As', cs', hsv', -, -⟩ := hoA.out.form
  rw [show (ss ++ [[x, y, z]]).length = ss.length + 1 by simp] at hsv'
  subst hsv'
  have hM3 : Blk w3 a.bS #[.slice As ss.length cs] 103 := (HS2.out.keep hbx2).sets.away hgA.out (Away.of_row (fun g e => ((HS2.out.keep hbx2).srow.typed g e).2) (by decide))
  have b4 : w3.cell? ⟨a.bS, 0, none⟩ = some (.slice As ss.length cs) := hM3.cell 0
  have b5 := hM3.frozen 0
  have HKp : Hid (∀ w0, Below B w0 w → Below B w0 (w3.setCell ⟨a.bS, 0, none⟩ (.slice As' (ss.length + 1) cs'))) := Lib.hid (by
    intro w0 h0
    have j1 := (Below.trans h0 (hb1.mono HSt.out.lB)).grown HG2.out hB1 (fun k hk => by injection hk with hk; rw [← hk]; exact HS2.out.lM)
    have j2 := (j1.alloc hB2 (.cells #[.slice A 3 cp] 65)).grown hgA.out (Nat.le_trans hB2 hbx2.size) (fun k hk => (HS2.out.srow.typed k hk).1)
    exact j2.setCell (p := ⟨a.bS, 0, none⟩) HS2.out.lS _)
  have HInt : Hid (∀ b cs, Blk w b cs 3 → Blk (w3.setCell ⟨a.bS, 0, none⟩ (.slice As' (ss.length + 1) cs')) b cs 3) := Lib.hid (by
    intro b cs hb
    have j1 := (hb.keep hb1).away HG2.out (by obtain ⟨es, c, ho⟩ := Hm1.out; exact Away.of_map ho)
    exact ((j1.keep hbx2).away hgA.out (Away.of_row (fun g e => ((HS2.out.keep hbx2).srow.typed g e).2) (by decide))).away (grown_set w3 ⟨a.bS, 0, none⟩ _) (Away.of_cells hM3 (t := 3) (by decide)))
  clear hM3
  go_wp2_with fail
  go_ret
  exact ⟨rfl, .slice As' (ss.length + 1) cs', HS4, HKp, HInt⟩
theorem flagNum (a : AutA) (B Ri Rb : Nat) (f : List UInt8 → Option Int) (ss : List (List Bool)) (nx mk : List (List Int)) (sv nv mv : Value) (x y z : Bool) (v : Value) (w : World)
    (hSt : AutS B Ri Rb w a ss.length f ss nx mk sv nv mv) (hK : KeyB f ss) (hvs : IsB Rb w v [x, y, z]) (hss : ss.length ≤ 1000) :
    Calls Tryd.prog 62 #[v, .pointer (some ⟨a.bN, 0, none⟩), .pointer (some ⟨a.bS, 0, none⟩)] w (FlagOut a B Ri Rb ss nx mk nv mv [x, y, z] w) := by
  by_cases hm : [x, y, z] ∈ ss
  · have hf := hK [x, y, z]
    rw [if_pos hm] at hf
    refine (flagOld a B Ri Rb f ss nx mk sv nv mv x y z v w _ hSt hvs hf).mono ?_
    rintro e w' ⟨rfl, hb⟩
    have e1 : numB ss [x, y, z] = ss := by unfold numB; rw [if_pos hm]
    exact ⟨f, sv, by unfold idxB; rw [e1], Lib.hid (by rw [e1]; exact hSt.keep hb), Lib.hid (by rw [e1]; exact hK), Lib.hid fun w0 h0 => Below.trans h0 (hb.mono hSt.lB), Lib.hid fun b cs h => h.keep hb⟩
  · have hf := hK [x, y, z]
    rw [if_neg hm] at hf
    refine (flagNew a B Ri Rb f ss nx mk sv nv mv x y z v w hSt hvs hf hss).mono ?_
    rintro e w' ⟨rfl, sv', h1, h2, h4⟩
    have e1 : numB ss [x, y, z] = ss ++ [[x, y, z]] := by unfold numB; rw [if_neg hm]
    refine ⟨_, sv', ?_, Lib.hid ?_, Lib.hid (by rw [e1]; exact hK.snoc hm), h2, h4⟩
    · unfold idxB
      rw [e1, List.idxOf_append, if_neg hm]
      simp
    · rw [e1, List.length_append]
      exact h1.out
end Go.Proofs.YtlmdjggpeiddoaaDoor
