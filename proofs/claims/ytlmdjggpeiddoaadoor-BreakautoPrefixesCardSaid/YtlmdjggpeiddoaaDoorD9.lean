/- What machine.add keeps in memory The numbering of sets in machine.add -/
import Derived.Test.YtlmdjggpeiddoaaDoorD8
import Derived.Deep.RegionHeld
namespace Go.Proofs.YtlmdjggpeiddoaaDoor
open Go.RowKit Go.Sort

/-- the row is no block of the type t -/
def Away (w : World) (row : Option Nat) (t : TypeId) : Prop := ∀ g, row = some g → ∀ cs fr, w.heap[g]? ≠ some (.cells cs t fr)
theorem Away.none (w : World) (t : TypeId) : Away w none t := fun g e => by cases e
theorem Away.of_cells {w : World} {g : Nat} {cs : Array Value} {t t' : TypeId} {fr : Nat × Nat} (h : w.heap[g]? = some (.cells cs t' fr)) (ht : t' ≠ t) : Away w (some g) t := by
  intro g' e cs' fr' h'
  injection e with e
  subst e
  rw [h] at h'
  injection h' with h'
  injection h' with _ e2
  exact ht e2
theorem Away.of_map {w : World} {g : Nat} {es : Array MapEntry} {c : Nat} {t : TypeId} (h : w.heap[g]? = some (.map es c)) : Away w (some g) t := by
  intro g' e cs' fr' h'
  injection e with e
  subst e
  rw [h] at h'
  cases h'
theorem Blk.away {w w' : World} {b : Nat} {cs : Array Value} {t : TypeId} {row : Option Nat} (h : Blk w b cs t) (hg : w.grownBy w' row) (ha : Away w row t) : Blk w' b cs t :=
  h.grown hg (fun e => ha b e.symm _ _ h)
/-- a cell of a block of a type -/
def CT (w : World) (b i : Nat) (t : TypeId) (v : Value) : Prop := ∃ cs fr, w.heap[b]? = some (.cells cs t fr) ∧ cs[i]? = some v
theorem CT.cell {w : World} {b i : Nat} {t : TypeId} {v : Value} (h : CT w b i t v) : w.cell? ⟨b, i, none⟩ = some v := by
  obtain ⟨cs, fr, h1, h2⟩ := h
  simp [World.cell?, h1, h2]
theorem CT.away {w w' : World} {b i : Nat} {t : TypeId} {v : Value} {row : Option Nat} (h : CT w b i t v) (hg : w.grownBy w' row) (ha : some b ≠ row) : CT w' b i t v := by
  obtain ⟨cs, fr, h1, h2⟩ := h
  exact ⟨cs, fr, (hg.block b (Array.getElem?_eq_some_iff.1 h1).1 ha).trans h1, h2⟩
theorem CT.ne {w : World} {b i : Nat} {t : TypeId} {v : Value} {row : Option Nat} (h : CT w b i t v) (ha : Away w row t) : some b ≠ row := by
  obtain ⟨cs, fr, h1, _⟩ := h
  exact fun e => ha b e.symm _ _ h1
theorem Blk.ct {w : World} {b i : Nat} {cs : Array Value} {t : TypeId} {v : Value} (h : Blk w b cs t) (hv : cs[i]? = some v) : CT w b i t v := ⟨cs, (0, 0), h, hv⟩
structure NetT (R : Nat) (w : World) (N : Nat) (k : Int) (b : NetB) : Prop where
  n0 : CT w N 0 96 (.slice (some ⟨b.nd, 0, none⟩) 2 b.c)
  n1 : CT w N 1 96 (.bool b.bk)
  d0 : CT w b.nd 0 93 (.slice none 0 0)
  d1 : CT w b.nd 1 93 (.slice none 0 0)
  d2 : CT w b.nd 2 93 (.slice (some ⟨b.cl, b.oc, none⟩) 1 b.cc)
  d3 : CT w b.nd 3 93 (.slice (some ⟨b.t, b.ot, none⟩) 1 b.ct)
  ck : CT w b.cl b.oc 3 (.int .i64 k)
  tk : CT w b.t b.ot 3 (.int .i64 0)
  rc : b.cl ≠ R
  rt : b.t ≠ R
theorem NetT.net {R : Nat} {w : World} {N : Nat} {k : Int} {b : NetB} (h : NetT R w N k b) : NetC w N k b :=
  ⟨h.n0.cell, h.n1.cell, h.d0.cell, h.d1.cell, h.d2.cell, h.d3.cell, h.ck.cell, h.tk.cell⟩
theorem NetT.away {R : Nat} {w w' : World} {N : Nat} {k : Int} {b : NetB} {row : Option Nat} (h : NetT R w N k b) (hg : w.grownBy w' row) (h1 : Away w row 96) (h2 : Away w row 93) (h3 : row = some R ∨ Away w row 3) : NetT R w' N k b := by
  have hi : ∀ {b i v}, CT w b i 3 v → b ≠ R → some b ≠ row := by
    intro b i v hc hb
    rcases h3 with h3 | h3
    · rw [h3]
      intro e
      injection e with e
      exact hb e
    · exact hc.ne h3
  exact ⟨h.n0.away hg (h.n0.ne h1), h.n1.away hg (h.n1.ne h1), h.d0.away hg (h.d0.ne h2), h.d1.away hg (h.d1.ne h2), h.d2.away hg (h.d2.ne h2), h.d3.away hg (h.d3.ne h2), h.ck.away hg (hi h.ck h.rc), h.tk.away hg (hi h.tk h.rt), h.rc, h.rt⟩
/-- a slice of bools of the call's own -/
def OwnBl (w : World) (base : Nat) (v : Value) (hs : List Bool) : Prop := w.ownsRow base 4 1 v hs.length (hs.map Value.bool)
theorem OwnBl.typed {w : World} {base : Nat} {v : Value} {hs : List Bool} (h : OwnBl w base v hs) : ∀ g, v.ownBlock = some g → base ≤ g ∧ ∃ cs, w.heap[g]? = some (.cells cs 4 (0, 0)) := by
  intro g hg
  rcases h.2 with ⟨rfl, _⟩ | ⟨g', cap, cur, rfl, hb, hc, _⟩
  · cases hg
  · simp only [Value.ownBlock, Option.some.injEq] at hg
    subst hg
    exact ⟨hb, cur, hc⟩
theorem OwnBl.away {w w' : World} {base : Nat} {v : Value} {hs : List Bool} {row : Option Nat} (h : OwnBl w base v hs) (hg : w.grownBy w' row) (ha : Away w row 4) : OwnBl w' base v hs := by
  refine World.ownsRow.kept h hg ?_
  cases hv : v.ownBlock with
  | none => exact .inl rfl
  | some g =>
    right
    intro e
    obtain ⟨_, cs, hc⟩ := h.typed g hv
    exact ha g e.symm _ _ hc
theorem OwnR.away {R : Nat} {w w' : World} {base : Nat} {v : Value} {rs : List (List Int)} {row : Option Nat} (h : OwnR R w base v rs) (hg : w.grownBy w' row) (h1 : row = some R ∨ Away w row 3) (h2 : Away w row 23) : OwnR R w' base v rs := by
  have htyp := h.typed
  refine h.kept hg ?_ ?_
  · intro g e
    rcases h1 with h1 | h1
    · rw [h1] at e
      injection e with e
      exact .inl e.symm
    · exact .inr (h1 g e)
  · cases hv : v.ownBlock with
    | none => exact .inl rfl
    | some g =>
      right
      intro e
      obtain ⟨_, cs, hc⟩ := htyp g hv
      exact h2 g e.symm _ _ hc
theorem IsI.away {R : Nat} {w w' : World} {v : Value} {zs : List Int} {row : Option Nat} (h : IsI R w v zs) (hg : w.grownBy w' row) (h1 : row = some R ∨ Away w row 3) : IsI R w' v zs := by
  refine h.kept hg ?_
  intro g e
  rcases h1 with h1 | h1
  · rw [h1] at e
    injection e with e
    exact .inl e.symm
  · exact .inr (h1 g e)

theorem OwnBl.form {w : World} {base : Nat} {v : Value} {hs : List Bool} (h : OwnBl w base v hs) : ∃ A c, v = .slice A hs.length c ∧ hs.length ≤ c ∧ (A = none → c = 0) := by
  rcases h.2 with ⟨hv, h0⟩ | ⟨g, cap, cur, hv, _, _, h1, _⟩
  · exact ⟨none, 0, by rw [hv, h0], by omega, fun _ => rfl⟩
  · exact ⟨_, _, hv, h1, fun h => by cases h⟩
theorem OwnBl.nil (w : World) (base : Nat) : OwnBl w base (.slice none 0 0) [] := ⟨rfl, .inl ⟨rfl, rfl⟩⟩
/-- append(v, b), as a step inside a region that draws its order -/
theorem stepBl {ops : Array Oper} {o : Oper} {a : Act} {K : Act → World → Prop} {Q : Exit → Act → World → Prop} {E : Prop} {W : World} (hgd : o.guard = none) (s x : Operand) (ho : o.op = .call { callee := .builtin .append, args := #[s, x], argTypes := #[65, 65] })
    {base : Nat} {v : Value} {hs : List Bool} (hv : a.eval s = v) (h : OwnBl W base v hs) (b : Bool) (hx : a.eval x = .slice (some ⟨W.heap.size, 0, none⟩) 1 1) (hl : hs.length + 1 ≤ 1000000) (hb : base ≤ W.heap.size)
    (hK : ∀ v' w', Hid (OwnBl w' base v' (hs ++ [b])) → Hid ((W.alloc (.cells #[.bool b] 4)).grownBy w' v.ownBlock) → K (a.put o.dst v') w') : if Region.wanted o (yielded ops a.tmps) = true then Oper.wp Tryd.prog o a (W.alloc (.cells #[.bool b] 4)) K Q else E := by
  rw [if_pos (by simp [Region.wanted, hgd])]
  obtain ⟨i0, hi, hz0, hz1, hz2⟩ := info_parts infoBool
  have hbx := bBox W (.cells #[.bool b] 4)
  have h' := h.away (grown_below hbx none) (Away.none _ _)
  obtain ⟨v', w', hr, hown', hg, _⟩ := run_append_own_at (P := Tryd.prog) (W.alloc (.cells #[.bool b] 4)) base 65 o.type 4 i0 (.bool false) 1 1 Tryd.underlying65 hi hz0 hz1 hz2 rfl (by decide) v hs.length (hs.map Value.bool) h' ⟨W.heap.size, 0, none⟩ 1 1 [.bool b] rfl
    (fun j u hu => by
      match j, hu with
      | 0, hu =>
        simp at hu
        subst hu
        exact cell_box W _ _ 0) (fun u hu => by simp at hu; subst hu; rfl) (by unfold maxLen; omega) (by omega) (Nat.le_trans hb hbx.size)
  unfold Oper.wp execOp
  simp only [ho, resolve, invoke, builtin, Sem.run_bind, Sem.run_pure, Result.andThen_ok, List.map_toArray, List.map_cons, List.map_nil, hv, hx, hr]
  refine hK v' w' (Lib.hid ?_) (Lib.hid hg)
  unfold OwnBl
  rw [List.length_append, List.map_append]
  exact hown'

/-- where machine.add has its variables -/
structure AddA where
  bN : Nat
  bM : Nat
  bB : Nat
  bS : Nat
  bP : Nat
  M : Nat
  N : Nat
  n : Int
  e : Int
  bk : Bool
  k : Int
  net : NetB
def machCells (a : AddA) (nv hv rv : Value) : Array Value := #[.int .i64 a.n, .int .i64 a.e, .bool a.bk, nv, hv, rv]
structure AddSt (B R : Nat) (w : World) (a : AddA) (cnt : Nat) (f : List UInt8 → Option Int) (ss : List (List Int)) (hs : List Bool) (nx : List (List Int)) (sv hv nv rv : Value) : Prop where
  numbers : Blk w a.bN #[.map (some a.bM)] 97
  base : Blk w a.bB #[.int .i64 0] 3
  sets : Blk w a.bS #[sv] 24
  mvar : Blk w a.bP #[.pointer (some ⟨a.M, 0, none⟩)] 91
  mach : Blk w a.M (machCells a nv hv rv) 67
  net : NetT R w a.N a.k a.net
  map : IntS Tryd.prog 9 3 w a.bM cnt f
  srow : OwnR R w B sv ss
  hrow : OwnBl w B hv hs
  nrow : OwnR R w B nv nx
  apart : ∀ g, sv.ownBlock = some g → nv.ownBlock ≠ some g
  lM : B ≤ a.bM
  lS : B ≤ a.bS
  rB : a.bB ≠ R
theorem IntS.obj {P : Program} {k e : TypeId} {w : World} {b n : Nat} {f : List UInt8 → Option Int} (h : IntS P k e w b n f) : ∃ es c, w.heap[b]? = some (.map es c) := by
  obtain ⟨D, ⟨es, c, h1, _⟩, _⟩ := h
  exact ⟨es, c, h1⟩
theorem AddSt.keep {B R : Nat} {w w' : World} {a : AddA} {cnt : Nat} {f : List UInt8 → Option Int} {ss : List (List Int)} {hs : List Bool} {nx : List (List Int)} {sv hv nv rv : Value} (h : AddSt B R w a cnt f ss hs nx sv hv nv rv) (hb : Below w.heap.size w w') : AddSt B R w' a cnt f ss hs nx sv hv nv rv :=
  have hg := grown_below hb none
  ⟨h.numbers.keep hb, h.base.keep hb, h.sets.keep hb, h.mvar.keep hb, h.mach.keep hb, h.net.away hg (Away.none _ _) (Away.none _ _) (.inr (Away.none _ _)), h.map.grow hb, h.srow.keep hb, h.hrow.away hg (Away.none _ _), h.nrow.keep hb, h.apart, h.lM, h.lS, h.rB⟩
/-- the map has turned -/
theorem AddSt.mapped {B R : Nat} {w w' : World} {a : AddA} {cnt cnt' : Nat} {f f' : List UInt8 → Option Int} {ss : List (List Int)} {hs : List Bool} {nx : List (List Int)} {sv hv nv rv : Value} (h : AddSt B R w a cnt f ss hs nx sv hv nv rv) (hg : w.grownBy w' (some a.bM)) (hm : IntS Tryd.prog 9 3 w' a.bM cnt' f') : AddSt B R w' a cnt' f' ss hs nx sv hv nv rv := by
  obtain ⟨es, c, hobj⟩ := h.map.obj
  have ha : ∀ t, Away w (some a.bM) t := fun t => Away.of_map hobj
  exact ⟨h.numbers.away hg (ha _), h.base.away hg (ha _), h.sets.away hg (ha _), h.mvar.away hg (ha _), h.mach.away hg (ha _), h.net.away hg (ha _) (ha _) (.inr (ha _)), hm, h.srow.away hg (.inr (ha _)) (ha _), h.hrow.away hg (ha _), h.nrow.away hg (.inr (ha _)) (ha _), h.apart, h.lM, h.lS, h.rB⟩
theorem Blk.setAll {w : World} {b i : Nat} {cs : Array Value} {t : TypeId} (h : Blk w b cs t) (u : Value) : Blk (w.setCell ⟨b, i, none⟩ u) b (cs.setIfInBounds i u) t := by
  unfold Blk at *
  simp only [World.setCell, Array.getElem?_modify, h, Option.map_some]
  rfl
theorem IntS.away {P : Program} {k e : TypeId} {w w' : World} {b n : Nat} {f : List UInt8 → Option Int} {row : Option Nat} (h : IntS P k e w b n f) (hg : w.grownBy w' row) (hne : some b ≠ row) : IntS P k e w' b n f := h.keep (hg.block b h.lt hne)
theorem IntS.ne {P : Program} {k e : TypeId} {w : World} {b n : Nat} {f : List UInt8 → Option Int} {g : Nat} {cs : Array Value} {t : TypeId} {fr : Nat × Nat} (h : IntS P k e w b n f) (hc : w.heap[g]? = some (.cells cs t fr)) : some b ≠ some g := by
  obtain ⟨es, c, hobj⟩ := h.obj
  intro e
  injection e with e
  subst e
  rw [hobj] at hc
  cases hc
theorem IntS.neRow {P : Program} {k e : TypeId} {w : World} {b n : Nat} {f : List UInt8 → Option Int} {row : Option Nat} {t : TypeId} (h : IntS P k e w b n f) (hr : ∀ g, row = some g → ∃ cs, w.heap[g]? = some (.cells cs t (0, 0))) : some b ≠ row := by
  cases row with
  | none => simp
  | some g =>
    obtain ⟨cs, hc⟩ := hr g rfl
    exact h.ne hc
theorem Away.of_row {w : World} {row : Option Nat} {t t' : TypeId} (hr : ∀ g, row = some g → ∃ cs, w.heap[g]? = some (.cells cs t' (0, 0))) (ht : t' ≠ t) : Away w row t := by
  intro g e cs fr h
  obtain ⟨cs', hc⟩ := hr g e
  exact Away.of_cells hc ht g rfl cs fr h
/-- a set has been appended, the variable holds the new slice -/
theorem AddSt.setted {B R : Nat} {w w' : World} {a : AddA} {cnt : Nat} {f : List UInt8 → Option Int} {ss ss' : List (List Int)} {hs : List Bool} {nx : List (List Int)} {sv sv' hv nv rv : Value} (h : AddSt B R w a cnt f ss hs nx sv hv nv rv) (hg : w.grownBy w' sv.ownBlock) (ho : OwnR R w' B sv' ss') (hloc : sv'.ownBlock = sv.ownBlock ∨ ∃ g, sv'.ownBlock = some g ∧ w.heap.size ≤ g) : AddSt B R (w'.setCell ⟨a.bS, 0, none⟩ sv') a cnt f ss' hs nx sv' hv nv rv := by
  have hr : ∀ g, sv.ownBlock = some g → ∃ cs, w.heap[g]? = some (.cells cs 23 (0, 0)) := fun g e => (h.srow.typed g e).2
  have ha : ∀ t, (23 : TypeId) ≠ t → Away w sv.ownBlock t := fun t ht => Away.of_row hr ht
  have b1 := h.sets.away hg (ha _ (by decide))
  have hs2 := grown_set w' ⟨a.bS, 0, none⟩ sv'
  have hb : ∀ t, (24 : TypeId) ≠ t → Away w' (some a.bS) t := fun t ht => Away.of_cells b1 ht
  have n1 : OwnR R w' B nv nx := by
    refine h.nrow.kept hg ?_ ?_
    · intro g e
      obtain ⟨cs, hc⟩ := hr g e
      exact .inr (Away.of_cells hc (by decide) g rfl)
    · cases hv' : nv.ownBlock with
      | none => exact .inl rfl
      | some g =>
        right
        intro e
        exact h.apart g e.symm hv'
  refine ⟨(h.numbers.away hg (ha _ (by decide))).away hs2 (hb _ (by decide)), (h.base.away hg (ha _ (by decide))).away hs2 (hb _ (by decide)), b1.setAll sv', (h.mvar.away hg (ha _ (by decide))).away hs2 (hb _ (by decide)), (h.mach.away hg (ha _ (by decide))).away hs2 (hb _ (by decide)),
    (h.net.away hg (ha _ (by decide)) (ha _ (by decide)) (.inr (ha _ (by decide)))).away hs2 (hb _ (by decide)) (hb _ (by decide)) (.inr (hb _ (by decide))), ?_, ho.away hs2 (.inr (hb _ (by decide))) (hb _ (by decide)), (h.hrow.away hg (ha _ (by decide))).away hs2 (hb _ (by decide)), n1.away hs2 (.inr (hb _ (by decide))) (hb _ (by decide)), ?_, h.lM, h.lS, h.rB⟩
  · exact (h.map.away hg (h.map.neRow hr)).away hs2 ((h.map.away hg (h.map.neRow hr)).ne b1)
  · intro g e
    rcases hloc with e2 | ⟨g', e2, hge⟩
    · exact h.apart g (e2.symm.trans e)
    · intro e3
      obtain ⟨_, cs, hc⟩ := h.nrow.typed g e3
      have := (Array.getElem?_eq_some_iff.1 hc).1
      rw [e2] at e
      injection e with e
      omega
/-- a hit has been appended, the machine holds the new slice -/
theorem AddSt.hitted {B R : Nat} {w w' : World} {a : AddA} {cnt : Nat} {f : List UInt8 → Option Int} {ss : List (List Int)} {hs hs' : List Bool} {nx : List (List Int)} {sv hv hv' nv rv : Value} (h : AddSt B R w a cnt f ss hs nx sv hv nv rv) (hg : w.grownBy w' hv.ownBlock) (ho : OwnBl w' B hv' hs') : AddSt B R (w'.setCell ⟨a.M, 4, none⟩ hv') a cnt f ss hs' nx sv hv' nv rv := by
  have hr : ∀ g, hv.ownBlock = some g → ∃ cs, w.heap[g]? = some (.cells cs 4 (0, 0)) := fun g e => (h.hrow.typed g e).2
  have ha : ∀ t, (4 : TypeId) ≠ t → Away w hv.ownBlock t := fun t ht => Away.of_row hr ht
  have b1 := h.mach.away hg (ha _ (by decide))
  have hs2 := grown_set w' ⟨a.M, 4, none⟩ hv'
  have hb : ∀ t, (67 : TypeId) ≠ t → Away w' (some a.M) t := fun t ht => Away.of_cells b1 ht
  refine ⟨(h.numbers.away hg (ha _ (by decide))).away hs2 (hb _ (by decide)), (h.base.away hg (ha _ (by decide))).away hs2 (hb _ (by decide)), (h.sets.away hg (ha _ (by decide))).away hs2 (hb _ (by decide)), (h.mvar.away hg (ha _ (by decide))).away hs2 (hb _ (by decide)), b1.setAll hv',
    (h.net.away hg (ha _ (by decide)) (ha _ (by decide)) (.inr (ha _ (by decide)))).away hs2 (hb _ (by decide)) (hb _ (by decide)) (.inr (hb _ (by decide))), ?_, (h.srow.away hg (.inr (ha _ (by decide))) (ha _ (by decide))).away hs2 (.inr (hb _ (by decide))) (hb _ (by decide)), ho.away hs2 (hb _ (by decide)), (h.nrow.away hg (.inr (ha _ (by decide))) (ha _ (by decide))).away hs2 (.inr (hb _ (by decide))) (hb _ (by decide)), h.apart, h.lM, h.lS, h.rB⟩
  exact (h.map.away hg (h.map.neRow hr)).away hs2 ((h.map.away hg (h.map.neRow hr)).ne b1)
end Go.Proofs.YtlmdjggpeiddoaaDoor
namespace Go.Proofs.YtlmdjggpeiddoaaDoor
open Go.RowKit Go.Sort

theorem zeroInt (w : World) : (zeroValue 3).run Tryd.prog w = .ok (.int .i64 0) w := by kernel_rfl
theorem three_wf {s : List Int} (h : Three s) : WfInts s ∧ s.length ≤ 1 := by
  rcases h with rfl | rfl | rfl
  · exact ⟨fun z hz => by simp at hz; subst hz; exact ⟨by decide, by decide⟩, by simp⟩
  · exact ⟨fun z hz => by simp at hz; subst hz; exact ⟨by decide, by decide⟩, by simp⟩
  · exact ⟨fun z hz => by simp at hz, by simp⟩

set_option maxHeartbeats 8000000 in
set_option maxRecDepth 100000 in
theorem num1old (a : AddA) (B R cnt : Nat) (f : List UInt8 → Option Int) (ss : List (List Int)) (hs : List Bool) (nx : List (List Int)) (sv hv nv rv : Value) (s : List Int) (v : Value) (w : World) (i : Int)
    (hSt : AddSt B R w a cnt f ss hs nx sv hv nv rv) (h3 : Three s) (hvs : IsI R w v s) (hE : EnvB w) (hf : f (keyS s) = some i) :
    Calls Tryd.prog 56 #[v, .pointer (some ⟨a.bN, 0, none⟩), .pointer (some ⟨a.bB, 0, none⟩), .pointer (some ⟨a.bS, 0, none⟩), .pointer (some ⟨a.bP, 0, none⟩), .pointer (some ⟨a.N, 0, none⟩)] w fun e w' => e = .returned (.int .i64 i) ∧ Below w.heap.size w w' := by
  obtain ⟨hwf, hl1⟩ := three_wf h3
  obtain ⟨A, cp, rfl, hA, _, _⟩ := hvs
  have HK := Lib.hid (setKey s A cp w hA.ints hwf (by omega) hE)
  have hkl := keyS_len hwf s.length (Nat.le_refl _)
  rw [List.take_length] at hkl
  have HLk := Lib.hid (fun w' (hb : Below w.heap.size w w') => (hSt.keep hb).map.look (t := 97) Tryd.underlying9 Tryd.underlying97 Tryd.underlying3 (zeroInt w') (x := keyS s) (by unfold maxLen; omega))
  have HSt := Lib.hid hSt
  rw [hf] at HLk
  generalize keyS s = key at HK HLk
  clear hSt hwf hA hE hf h3 hkl
  go_enter Tryd.func56, Tryd.ntmps56
  go_wp2_with fail
  refine HK.out.mono ?_
  rintro e w1 ⟨rfl, hb1⟩
  have hlk := HLk.out w1 hb1
  have k0 : w1.cell? ⟨a.bN, 0, none⟩ = some (.map (some a.bM)) := (HSt.out.keep hb1).numbers.cell 0
  go_wp2_with fail
  go_ret
  exact ⟨rfl, hb1⟩

/-- a set has got a number -/
def NumOut (a : AddA) (B R cnt : Nat) (f : List UInt8 → Option Int) (ss : List (List Int)) (hs : List Bool) (nx : List (List Int)) (nv rv : Value) (s : List Int) (w : World) (e : Ending) (w' : World) : Prop :=
  ∃ sv' hv', e = .returned (.int .i64 ss.length) ∧ AddSt B R w' a (cnt + 1) (fun y => if y = keyS s then some (ss.length : Int) else f y) (ss ++ [s]) (hs ++ [decide (stepF a.k s a.e = [0])]) nx sv' hv' nv rv ∧
    (∀ w0, KeptM B a.M w0 w → KeptM B a.M w0 w') ∧ (∀ b cs, Blk w b cs 3 → Blk w' b cs 3) ∧ ∀ v zs, IsI R w v zs → IsI R w' v zs

set_option maxHeartbeats 64000000 in
set_option maxRecDepth 100000 in
theorem num1new (a : AddA) (B R cnt : Nat) (f : List UInt8 → Option Int) (ss : List (List Int)) (hs : List Bool) (nx : List (List Int)) (sv hv nv rv : Value) (s : List Int) (v : Value) (w : World)
    (hSt : AddSt B R w a cnt f ss hs nx sv hv nv rv) (h3 : Three s) (hvs : IsI R w v s) (hE : EnvB w) (hf : f (keyS s) = none) (hR : R < w.heap.size) (hB : B ≤ w.heap.size) (hcnt : cnt ≤ 1000) (hss : ss.length ≤ 1000) (hhs : hs.length ≤ 1000) :
    Calls Tryd.prog 56 #[v, .pointer (some ⟨a.bN, 0, none⟩), .pointer (some ⟨a.bB, 0, none⟩), .pointer (some ⟨a.bS, 0, none⟩), .pointer (some ⟨a.bP, 0, none⟩), .pointer (some ⟨a.N, 0, none⟩)] w (NumOut a B R cnt f ss hs nx nv rv s w) := by
  obtain ⟨hwf, hl1⟩ := three_wf h3
  have HV := Lib.hid hvs
  obtain ⟨A, cp, rfl, hA, _, _⟩ := hvs
  have HK := Lib.hid (setKey s A cp w hA.ints hwf (by omega) hE)
  have hkl := keyS_len hwf s.length (Nat.le_refl _)
  rw [List.take_length] at hkl
  have hkm : (keyS s).length ≤ maxLen := by unfold maxLen; omega
  have HSt := Lib.hid hSt
  have HF := Lib.hid hf
  generalize hkey : keyS s = key at HK HF hkm
  have Hkey := Lib.hid hkey
  clear hkey
  clear hSt hwf hA hE hf hkl
  go_enter Tryd.func56, Tryd.ntmps56
  go_wp2_with fail
  refine HK.out.mono ?_
  rintro e w1 ⟨rfl, hb1⟩
  have hS1 := HSt.out.keep hb1
  have hlk := hS1.map.look (t := 97) Tryd.underlying9 Tryd.underlying97 Tryd.underlying3 (zeroInt w1) hkm
  rw [HF.out] at hlk
  obtain ⟨w2, hupd, hm2, hg2⟩ := hS1.map.store (t := 97) Tryd.underlying9 Tryd.underlying97 Tryd.underlying3 (by unfold maxLen; omega) hkm (c := (ss.length : Int)) (wfI (by omega) (by omega))
  have hS2 := hS1.mapped hg2 hm2
  have HV2 := Lib.hid ((HV.out.keep hb1).away hg2 (.inr (by obtain ⟨es, c, ho⟩ := hS1.map.obj; exact Away.of_map ho)))
  obtain ⟨As, cs, hsv, -, -⟩ := hS2.srow.form
  have hsz1 := hb1.size
  have hsz2 := hg2.size
  have hbx2 := bBox w2 (.cells #[.slice A s.length cp] 23)
  subst hsv
  have b0 : w1.cell? ⟨a.bN, 0, none⟩ = some (.map (some a.bM)) := hS1.numbers.cell 0
  have b1 : w1.cell? ⟨a.bB, 0, none⟩ = some (.int .i64 0) := hS1.base.cell 0
  have b2 : w1.cell? ⟨a.bS, 0, none⟩ = some (.slice As ss.length cs) := hS1.sets.cell 0
  have b3 : w2.cell? ⟨a.bS, 0, none⟩ = some (.slice As ss.length cs) := hS2.sets.cell 0
  have HS2 := Lib.hid hS2
  have HG2 := Lib.hid hg2
  have hl2 : ss.length + 1 ≤ 1000000 := by omega
  have hB2 : B ≤ w2.heap.size := by omega
  have Hm1 := Lib.hid hS1.map.obj
  clear hS1 hS2 hm2 hg2
  go_wp2_with (at_builtin; refine wpR rfl _ _ rfl rfl HS2.out.srow HV2.out rfl rfl hl2 hB2 ?_)
  intro sv' w3 hoA hgA hlocA
  have hS4 := (HS2.out.keep hbx2).setted hgA.out hoA.out (by rcases hlocA.out with h | ⟨g, h1, h2⟩; exact .inl h; exact .inr ⟨g, h1, by simpa using h2⟩)
  obtain ⟨As', cs', hsv', -, -⟩ := hoA.out.form
  rw [show (ss ++ [s]).length = ss.length + 1 by simp] at hsv'
  subst hsv'
  have hM3 : Blk w3 a.bS #[.slice As ss.length cs] 24 := (HS2.out.keep hbx2).sets.away hgA.out (Away.of_row (fun g e => ((HS2.out.keep hbx2).srow.typed g e).2) (by decide))
  have b4 : w3.cell? ⟨a.bS, 0, none⟩ = some (.slice As ss.length cs) := hM3.cell 0
  have b5 := hM3.frozen 0
  have c0 : (w3.setCell ⟨a.bS, 0, none⟩ (.slice As' (ss.length + 1) cs')).cell? ⟨a.bP, 0, none⟩ = some (.pointer (some ⟨a.M, 0, none⟩)) := hS4.mvar.cell 0
  have c1 : (w3.setCell ⟨a.bS, 0, none⟩ (.slice As' (ss.length + 1) cs')).cell? ⟨a.M, 1, none⟩ = some (.int .i64 a.e) := hS4.mach.cell 1
  have c4 : (w3.setCell ⟨a.bS, 0, none⟩ (.slice As' (ss.length + 1) cs')).cell? ⟨a.M, 4, none⟩ = some hv := hS4.mach.cell 4
  have HS4 := Lib.hid hS4
  have Hb4 := Lib.hid (show w3.heap[a.bS]? = some (.cells #[.slice As ss.length cs] 24 (0, 0)) from hM3)
  clear hS4 hM3
  go_wp2_with fail
  clear hupd hlk b0 b1 b2 b3 b4 b5
  have hsz4 : w2.heap.size ≤ (w3.setCell ⟨a.bS, 0, none⟩ (.slice As' (ss.length + 1) cs')).heap.size := by have := hgA.out.size; simp at this ⊢; omega
  generalize hw4 : w3.setCell ⟨a.bS, 0, none⟩ (.slice As' (ss.length + 1) cs') = w4 at c0 c1 c4 HS4 hsz4 ⊢
  have Hw4 := Lib.hid hw4
  clear hw4
  have HV4 := Lib.hid (show IsI R w4 (.slice A s.length cp) s by
    rw [← Hw4.out]
    exact ((HV2.out.keep hbx2).away hgA.out (.inr (Away.of_row (fun g e => ((HS2.out.keep hbx2).srow.typed g e).2) (by decide)))).away (grown_set w3 ⟨a.bS, 0, none⟩ (.slice As' (ss.length + 1) cs')) (.inr (Away.of_cells Hb4.out (t := 3) (by decide))))
  have hR4 : R < w4.drew.heap.size := by show R < w4.heap.size; omega
  have hl5 : (stepF a.k s a.e).length ≤ 1 := (three_wf (stepF_three a.k s a.e)).2
  have HStep := Lib.hid (fun w' (hb : Below w4.heap.size w4 w') hR => step a.N a.k a.e a.net s (.slice A s.length cp) R w' h3 (HS4.out.keep hb).net.net (HV4.out.keep hb) hR)
  have HKM : Hid (∀ (w0 : World) (u : Value) (w5 w7 : World) (hit : Bool), Below w4.heap.size w4 w5 → (w5.alloc (.cells #[.bool hit] 4)).grownBy w7 hv.ownBlock → (∀ g, hv.ownBlock = some g → B ≤ g) → KeptM B a.M w0 w → KeptM B a.M w0 (w7.setCell ⟨a.M, 4, none⟩ u)) := Lib.hid (by
    intro w0 u w5 w7 hit h5 h7 hg h0
    rw [← Hw4.out] at h5
    have j1 := (h0.below hb1).grown HG2.out (fun g e => .inl (by injection e with e; rw [← e]; exact HS2.out.lM))
    have j2 := (j1.below hbx2).grown hgA.out (fun g e => .inl (HS2.out.srow.typed g e).1)
    have j3 := j2.set ⟨a.bS, 0, none⟩ (.slice As' (ss.length + 1) cs') (.inl HS2.out.lS)
    have j4 := ((j3.below h5).below (bBox w5 _)).grown h7 (fun g e => .inl (hg g e))
    exact j4.set ⟨a.M, 4, none⟩ u (.inr rfl))
  have HInt : Hid (∀ (u : Value) (w5 w7 : World) (hit : Bool), Below w4.heap.size w4 w5 → (w5.alloc (.cells #[.bool hit] 4)).grownBy w7 hv.ownBlock → (∀ g, hv.ownBlock = some g → ∃ cs, (w5.alloc (.cells #[.bool hit] 4)).heap[g]? = some (.cells cs 4 (0, 0))) → Blk w7 a.M (machCells a nv hv rv) 67 → ∀ b cs, Blk w b cs 3 → Blk (w7.setCell ⟨a.M, 4, none⟩ u) b cs 3) := Lib.hid (by
    intro u w5 w7 hit h5 h7 hr hM b cs hb
    rw [← Hw4.out] at h5
    have j1 := (hb.keep hb1).away HG2.out (by obtain ⟨es, c, ho⟩ := Hm1.out; exact Away.of_map ho)
    have j2 := ((j1.keep hbx2).away hgA.out (Away.of_row (fun g e => ((HS2.out.keep hbx2).srow.typed g e).2) (by decide))).away (grown_set w3 ⟨a.bS, 0, none⟩ (.slice As' (ss.length + 1) cs')) (Away.of_cells Hb4.out (t := 3) (by decide))
    exact (((j2.keep h5).alloc _).away h7 (Away.of_row hr (by decide))).away (grown_set w7 ⟨a.M, 4, none⟩ u) (Away.of_cells hM (t := 3) (by decide)))
  have HIs : Hid (∀ (u : Value) (w5 w7 : World) (hit : Bool), Below w4.heap.size w4 w5 → (w5.alloc (.cells #[.bool hit] 4)).grownBy w7 hv.ownBlock → (∀ g, hv.ownBlock = some g → ∃ cs, (w5.alloc (.cells #[.bool hit] 4)).heap[g]? = some (.cells cs 4 (0, 0))) → Blk w7 a.M (machCells a nv hv rv) 67 → ∀ v zs, IsI R w v zs → IsI R (w7.setCell ⟨a.M, 4, none⟩ u) v zs) := Lib.hid (by
    intro u w5 w7 hit h5 h7 hr hM v zs hv
    rw [← Hw4.out] at h5
    have j1 := (hv.keep hb1).away HG2.out (.inr (by obtain ⟨es, c, ho⟩ := Hm1.out; exact Away.of_map ho))
    have j2 := ((j1.keep hbx2).away hgA.out (.inr (Away.of_row (fun g e => ((HS2.out.keep hbx2).srow.typed g e).2) (by decide)))).away (grown_set w3 ⟨a.bS, 0, none⟩ (.slice As' (ss.length + 1) cs')) (.inr (Away.of_cells Hb4.out (t := 3) (by decide)))
    exact (((j2.keep h5).keep (bBox w5 _)).away h7 (.inr (Away.of_row hr (by decide)))).away (grown_set w7 ⟨a.M, 4, none⟩ u) (.inr (Away.of_cells hM (t := 3) (by decide))))
  generalize hs5 : stepF a.k s a.e = s5 at HStep hl5
  have Hs5 := Lib.hid hs5
  clear hs5
  refine wp_region_held_drew (S := fun (w' : World) => w'.cell? ⟨a.bP, 0, none⟩ = some (.pointer (some ⟨a.M, 0, none⟩)) ∧ w'.cell? ⟨a.M, 1, none⟩ = some (.int .i64 a.e)) (by kernel_rfl) ⟨c0, c1⟩ ?_
  intro hHeld
  refine wpAnyH_take (i := 0) (v := ?_) rfl (by kernel_rfl) (by kernel_rfl) (by kernel_rfl) (fun _ _ _ h => h) (Or.inl ⟨by rfl, ?_⟩) (by assumption) ?_
  rotate_left 1
  · intro w hSw
    (try dsimp only at hSw)
    go_simp
    (try with_reducible rfl)
  refine wpAnyH_take (i := 1) (v := ?_) rfl (by kernel_rfl) (by kernel_rfl) (by kernel_rfl) (fun _ _ _ h => h) (Or.inl ⟨by rfl, ?_⟩) (by assumption) ?_
  rotate_left 1
  · intro w hSw
    (try dsimp only at hSw)
    go_simp
    (try with_reducible rfl)
  refine wpAnyH_take (i := 2) (v := ?_) rfl (by kernel_rfl) (by kernel_rfl) (by kernel_rfl) (fun _ _ _ h => h) (Or.inl ⟨by rfl, ?_⟩) (by assumption) ?_
  rotate_left 1
  · intro w hSw
    (try dsimp only at hSw)
    go_simp
    (try with_reducible rfl)
  refine wpAnyH_take (i := 3) (v := ?_) rfl (by kernel_rfl) (by kernel_rfl) (by kernel_rfl) (fun _ _ _ h => h) (Or.inl ⟨by rfl, ?_⟩) (by assumption) ?_
  rotate_left 1
  · intro w hSw
    (try dsimp only at hSw)
    go_simp
    (try with_reducible rfl)
  refine wpAnyH_take (i := 5) (v := ?_) rfl (by kernel_rfl) (by kernel_rfl) (by kernel_rfl) (fun _ _ _ h => h) (Or.inl ⟨by rfl, ?_⟩) (by assumption) ?_
  rotate_left 1
  · intro w hSw
    (try dsimp only at hSw)
    go_simp
    (try with_reducible rfl)
  refine wpAnyH_take (i := 6) (v := ?_) rfl (by kernel_rfl) (by kernel_rfl) (by kernel_rfl) (fun _ _ _ h => h) (Or.inl ⟨by rfl, ?_⟩) (by assumption) ?_
  rotate_left 1
  · intro w hSw
    (try dsimp only at hSw)
    go_simp
    (try with_reducible rfl)
  refine wpAnyH_take (i := 7) (v := ?_) rfl (by kernel_rfl) (by kernel_rfl) (by kernel_rfl) (fun _ _ _ h => h) (Or.inl ⟨by rfl, ?_⟩) (by assumption) ?_
  rotate_left 1
  · intro w hSw
    (try dsimp only at hSw)
    go_simp
    (try with_reducible rfl)
  refine wpAnyH_take (i := 8) (v := ?_) rfl (by kernel_rfl) (by kernel_rfl) (by kernel_rfl) (fun _ _ _ h => h) (Or.inl ⟨by rfl, ?_⟩) (by assumption) ?_
  rotate_left 1
  · intro w hSw
    (try dsimp only at hSw)
    go_simp
    (try with_reducible rfl)
  refine wpAnyH_take (i := 9) (v := ?_) rfl (by kernel_rfl) (by kernel_rfl) (by kernel_rfl) (fun _ _ _ h => h) (Or.inl ⟨by rfl, ?_⟩) (by assumption) ?_
  rotate_left 1
  · intro w hSw
    (try dsimp only at hSw)
    go_simp
    (try with_reducible rfl)
  clear hHeld
  refine wpAnyH_ready (rs := [4, 10]) (by kernel_rfl) (by simp) ?_
  refine AllReadyH.cons rfl (fun K hK => ?_) (AllReadyH.cons rfl (fun K hK => ?_) AllReadyH.nil)
  · skip
    go_simp
    refine hK.out _ _ ⟨c0, c1⟩ (fun _ => ?_)
    clear hK K
    refine wpAnyH_ready (rs := [10]) (by kernel_rfl) (by simp) ?_
    refine AllReadyH.cons rfl (fun K hK => ?_) AllReadyH.nil
    go_simp
    refine (HStep.out _ (Below.refl _ _).drew hR4).mono ?_
    rintro e w5 ⟨v5, rfl, hI5, hb5⟩
    obtain ⟨A5, c5, rfl, hi5, -, -⟩ := hI5.out
    have HE5 := Lib.hid (ended s5 A5 c5 w5 hi5.ints (by omega))
    have HS5 := Lib.hid ((HS4.out.keep (Below.refl _ _).drew).keep hb5)
    have hw45 := bUp (Below.refl w4.heap.size w4).drew hb5
    clear hb5 hI5 hi5
    replace c0 : w5.cell? ⟨a.bP, 0, none⟩ = some (.pointer (some ⟨a.M, 0, none⟩)) := HS5.out.mvar.cell 0
    replace c1 : w5.cell? ⟨a.M, 1, none⟩ = some (.int .i64 a.e) := HS5.out.mach.cell 1
    replace c4 : w5.cell? ⟨a.M, 4, none⟩ = some hv := HS5.out.mach.cell 4
    refine hK.out _ _ ⟨c0, c1⟩ (fun _ => ?_)
    clear hK K
    refine wpAnyH_ready (rs := [11]) (by kernel_rfl) (by simp) ?_
    refine AllReadyH.cons rfl (fun K hK => ?_) AllReadyH.nil
    go_simp
    refine HE5.out.mono ?_
    rintro e w6 ⟨rfl, rfl⟩
    refine hK.out _ _ ⟨c0, c1⟩ (fun _ => ?_)
    clear hK K
    refine wpAnyH_ready (rs := [12]) (by kernel_rfl) (by simp) ?_
    refine AllReadyH.cons rfl (fun K hK => ?_) AllReadyH.nil
    go_simp
    have HS6 := Lib.hid (HS5.out.keep (bBox w5 (.cells #[.bool (decide (s5 = [0]))] 4)))
    replace c0 : (w5.alloc (.cells #[.bool (decide (s5 = [0]))] 4)).cell? ⟨a.bP, 0, none⟩ = some (.pointer (some ⟨a.M, 0, none⟩)) := HS6.out.mvar.cell 0
    replace c1 : (w5.alloc (.cells #[.bool (decide (s5 = [0]))] 4)).cell? ⟨a.M, 1, none⟩ = some (.int .i64 a.e) := HS6.out.mach.cell 1
    replace c4 : (w5.alloc (.cells #[.bool (decide (s5 = [0]))] 4)).cell? ⟨a.M, 4, none⟩ = some hv := HS6.out.mach.cell 4
    refine hK.out _ _ ⟨c0, c1⟩ (fun _ => ?_)
    clear hK K
    refine wpAnyH_ready (rs := [13]) (by kernel_rfl) (by simp) ?_
    refine AllReadyH.cons rfl (fun K hK => ?_) AllReadyH.nil
    refine stepBl rfl _ _ rfl rfl HS5.out.hrow (decide (s5 = [0])) rfl (by omega) (by have := hw45.size; omega) ?_
    intro hv' w7 hO7 hg7
    obtain ⟨A7, c7, hv7, -, -⟩ := hO7.out.form
    rw [show (hs ++ [decide (s5 = [0])]).length = hs.length + 1 by simp] at hv7
    subst hv7
    have hr7 : ∀ g, hv.ownBlock = some g → ∃ cs, (w5.alloc (.cells #[.bool (decide (s5 = [0]))] 4)).heap[g]? = some (.cells cs 4 (0, 0)) := fun g e => (HS6.out.hrow.typed g e).2
    have hM7 : Blk w7 a.M (machCells a nv hv rv) 67 := HS6.out.mach.away hg7.out (Away.of_row hr7 (by decide))
    have hP7 := HS6.out.mvar.away hg7.out (Away.of_row hr7 (by decide))
    have e0 : w7.cell? ⟨a.bP, 0, none⟩ = some (.pointer (some ⟨a.M, 0, none⟩)) := hP7.cell 0
    have e1 : w7.cell? ⟨a.M, 1, none⟩ = some (.int .i64 a.e) := hM7.cell 1
    have e4 : w7.cell? ⟨a.M, 4, none⟩ = some hv := hM7.cell 4
    have e5 := hM7.frozen 4
    refine hK.out _ _ ⟨e0, e1⟩ (fun hHeld => ?_)
    clear hK K
    refine wpAnyH_take (i := 14) (v := ?_) rfl (by kernel_rfl) (by kernel_rfl) (by kernel_rfl) (fun _ _ _ h => h) (Or.inl ⟨by rfl, ?_⟩) (by assumption) ?_
    rotate_left 1
    · intro w hSw
      (try dsimp only at hSw)
      go_simp
      (try with_reducible rfl)
    refine wpAnyH_take (i := 15) (v := ?_) rfl (by kernel_rfl) (by kernel_rfl) (by kernel_rfl) (fun _ _ _ h => h) (Or.inl ⟨by rfl, ?_⟩) (by assumption) ?_
    rotate_left 1
    · intro w hSw
      (try dsimp only at hSw)
      go_simp
      (try with_reducible rfl)
    clear hHeld
    have hS8 := HS6.out.hitted hg7.out hO7.out
    have e6 : (w7.setCell ⟨a.M, 4, none⟩ (.slice A7 (hs.length + 1) c7)).cell? ⟨a.bP, 0, none⟩ = some (.pointer (some ⟨a.M, 0, none⟩)) := hS8.mvar.cell 0
    have e7 : (w7.setCell ⟨a.M, 4, none⟩ (.slice A7 (hs.length + 1) c7)).cell? ⟨a.M, 1, none⟩ = some (.int .i64 a.e) := hS8.mach.cell 1
    have HS8 := Lib.hid hS8
    clear hS8
    refine wpAnyH_ready (rs := [16]) (by kernel_rfl) (by simp) ?_
    refine AllReadyH.cons rfl (fun K hK => ?_) AllReadyH.nil
    go_simp
    refine hK.out _ _ ⟨e6, e7⟩ (fun _ => ?_)
    clear hK K
    refine wpAnyH_done (by kernel_rfl) ?_ _
    have hKM := fun w0 h0 => HKM.out w0 (.slice A7 (hs.length + 1) c7) w5 w7 _ hw45 hg7.out (fun g e => (HS6.out.hrow.typed g e).1) h0
    have hInt := HInt.out (.slice A7 (hs.length + 1) c7) w5 w7 _ hw45 hg7.out hr7 hM7
    have hIs := HIs.out (.slice A7 (hs.length + 1) c7) w5 w7 _ hw45 hg7.out hr7 hM7
    clear e0 e1 e4 e5 e6 e7 c0 c1 c4
    go_wp2_with fail
    go_ret
    refine ⟨.slice As' (ss.length + 1) cs', .slice A7 (hs.length + 1) c7, rfl, ?_, hKM, hInt, hIs⟩
    rw [Hs5.out, Hkey.out]
    exact HS8.out
  · skip
    go_simp
    refine (HStep.out _ (Below.refl _ _).drew hR4).mono ?_
    rintro e w5 ⟨v5, rfl, hI5, hb5⟩
    obtain ⟨A5, c5, rfl, hi5, -, -⟩ := hI5.out
    have HE5 := Lib.hid (ended s5 A5 c5 w5 hi5.ints (by omega))
    have HS5 := Lib.hid ((HS4.out.keep (Below.refl _ _).drew).keep hb5)
    have hw45 := bUp (Below.refl w4.heap.size w4).drew hb5
    clear hb5 hI5 hi5
    replace c0 : w5.cell? ⟨a.bP, 0, none⟩ = some (.pointer (some ⟨a.M, 0, none⟩)) := HS5.out.mvar.cell 0
    replace c1 : w5.cell? ⟨a.M, 1, none⟩ = some (.int .i64 a.e) := HS5.out.mach.cell 1
    replace c4 : w5.cell? ⟨a.M, 4, none⟩ = some hv := HS5.out.mach.cell 4
    refine hK.out _ _ ⟨c0, c1⟩ (fun _ => ?_)
    clear hK K
    refine wpAnyH_ready (rs := [4, 11]) (by kernel_rfl) (by simp) ?_
    refine AllReadyH.cons rfl (fun K hK => ?_) (AllReadyH.cons rfl (fun K hK => ?_) AllReadyH.nil)
    · skip
      go_simp
      refine hK.out _ _ ⟨c0, c1⟩ (fun _ => ?_)
      clear hK K
      refine wpAnyH_ready (rs := [11]) (by kernel_rfl) (by simp) ?_
      refine AllReadyH.cons rfl (fun K hK => ?_) AllReadyH.nil
      go_simp
      refine HE5.out.mono ?_
      rintro e w6 ⟨rfl, rfl⟩
      refine hK.out _ _ ⟨c0, c1⟩ (fun _ => ?_)
      clear hK K
      refine wpAnyH_ready (rs := [12]) (by kernel_rfl) (by simp) ?_
      refine AllReadyH.cons rfl (fun K hK => ?_) AllReadyH.nil
      go_simp
      have HS6 := Lib.hid (HS5.out.keep (bBox w5 (.cells #[.bool (decide (s5 = [0]))] 4)))
      replace c0 : (w5.alloc (.cells #[.bool (decide (s5 = [0]))] 4)).cell? ⟨a.bP, 0, none⟩ = some (.pointer (some ⟨a.M, 0, none⟩)) := HS6.out.mvar.cell 0
      replace c1 : (w5.alloc (.cells #[.bool (decide (s5 = [0]))] 4)).cell? ⟨a.M, 1, none⟩ = some (.int .i64 a.e) := HS6.out.mach.cell 1
      replace c4 : (w5.alloc (.cells #[.bool (decide (s5 = [0]))] 4)).cell? ⟨a.M, 4, none⟩ = some hv := HS6.out.mach.cell 4
      refine hK.out _ _ ⟨c0, c1⟩ (fun _ => ?_)
      clear hK K
      refine wpAnyH_ready (rs := [13]) (by kernel_rfl) (by simp) ?_
      refine AllReadyH.cons rfl (fun K hK => ?_) AllReadyH.nil
      refine stepBl rfl _ _ rfl rfl HS5.out.hrow (decide (s5 = [0])) rfl (by omega) (by have := hw45.size; omega) ?_
      intro hv' w7 hO7 hg7
      obtain ⟨A7, c7, hv7, -, -⟩ := hO7.out.form
      rw [show (hs ++ [decide (s5 = [0])]).length = hs.length + 1 by simp] at hv7
      subst hv7
      have hr7 : ∀ g, hv.ownBlock = some g → ∃ cs, (w5.alloc (.cells #[.bool (decide (s5 = [0]))] 4)).heap[g]? = some (.cells cs 4 (0, 0)) := fun g e => (HS6.out.hrow.typed g e).2
      have hM7 : Blk w7 a.M (machCells a nv hv rv) 67 := HS6.out.mach.away hg7.out (Away.of_row hr7 (by decide))
      have hP7 := HS6.out.mvar.away hg7.out (Away.of_row hr7 (by decide))
      have e0 : w7.cell? ⟨a.bP, 0, none⟩ = some (.pointer (some ⟨a.M, 0, none⟩)) := hP7.cell 0
      have e1 : w7.cell? ⟨a.M, 1, none⟩ = some (.int .i64 a.e) := hM7.cell 1
      have e4 : w7.cell? ⟨a.M, 4, none⟩ = some hv := hM7.cell 4
      have e5 := hM7.frozen 4
      refine hK.out _ _ ⟨e0, e1⟩ (fun hHeld => ?_)
      clear hK K
      refine wpAnyH_take (i := 14) (v := ?_) rfl (by kernel_rfl) (by kernel_rfl) (by kernel_rfl) (fun _ _ _ h => h) (Or.inl ⟨by rfl, ?_⟩) (by assumption) ?_
      rotate_left 1
      · intro w hSw
        (try dsimp only at hSw)
        go_simp
        (try with_reducible rfl)
      refine wpAnyH_take (i := 15) (v := ?_) rfl (by kernel_rfl) (by kernel_rfl) (by kernel_rfl) (fun _ _ _ h => h) (Or.inl ⟨by rfl, ?_⟩) (by assumption) ?_
      rotate_left 1
      · intro w hSw
        (try dsimp only at hSw)
        go_simp
        (try with_reducible rfl)
      clear hHeld
      have hS8 := HS6.out.hitted hg7.out hO7.out
      have e6 : (w7.setCell ⟨a.M, 4, none⟩ (.slice A7 (hs.length + 1) c7)).cell? ⟨a.bP, 0, none⟩ = some (.pointer (some ⟨a.M, 0, none⟩)) := hS8.mvar.cell 0
      have e7 : (w7.setCell ⟨a.M, 4, none⟩ (.slice A7 (hs.length + 1) c7)).cell? ⟨a.M, 1, none⟩ = some (.int .i64 a.e) := hS8.mach.cell 1
      have HS8 := Lib.hid hS8
      clear hS8
      refine wpAnyH_ready (rs := [16]) (by kernel_rfl) (by simp) ?_
      refine AllReadyH.cons rfl (fun K hK => ?_) AllReadyH.nil
      go_simp
      refine hK.out _ _ ⟨e6, e7⟩ (fun _ => ?_)
      clear hK K
      refine wpAnyH_done (by kernel_rfl) ?_ _
      have hKM := fun w0 h0 => HKM.out w0 (.slice A7 (hs.length + 1) c7) w5 w7 _ hw45 hg7.out (fun g e => (HS6.out.hrow.typed g e).1) h0
      have hInt := HInt.out (.slice A7 (hs.length + 1) c7) w5 w7 _ hw45 hg7.out hr7 hM7
      have hIs := HIs.out (.slice A7 (hs.length + 1) c7) w5 w7 _ hw45 hg7.out hr7 hM7
      clear e0 e1 e4 e5 e6 e7 c0 c1 c4
      go_wp2_with fail
      go_ret
      refine ⟨.slice As' (ss.length + 1) cs', .slice A7 (hs.length + 1) c7, rfl, ?_, hKM, hInt, hIs⟩
      rw [Hs5.out, Hkey.out]
      exact HS8.out
    · skip
      go_simp
      refine HE5.out.mono ?_
      rintro e w6 ⟨rfl, rfl⟩
      refine hK.out _ _ ⟨c0, c1⟩ (fun _ => ?_)
      clear hK K
      refine wpAnyH_ready (rs := [4, 12]) (by kernel_rfl) (by simp) ?_
      refine AllReadyH.cons rfl (fun K hK => ?_) (AllReadyH.cons rfl (fun K hK => ?_) AllReadyH.nil)
      · skip
        go_simp
        refine hK.out _ _ ⟨c0, c1⟩ (fun _ => ?_)
        clear hK K
        refine wpAnyH_ready (rs := [12]) (by kernel_rfl) (by simp) ?_
        refine AllReadyH.cons rfl (fun K hK => ?_) AllReadyH.nil
        go_simp
        have HS6 := Lib.hid (HS5.out.keep (bBox w5 (.cells #[.bool (decide (s5 = [0]))] 4)))
        replace c0 : (w5.alloc (.cells #[.bool (decide (s5 = [0]))] 4)).cell? ⟨a.bP, 0, none⟩ = some (.pointer (some ⟨a.M, 0, none⟩)) := HS6.out.mvar.cell 0
        replace c1 : (w5.alloc (.cells #[.bool (decide (s5 = [0]))] 4)).cell? ⟨a.M, 1, none⟩ = some (.int .i64 a.e) := HS6.out.mach.cell 1
        replace c4 : (w5.alloc (.cells #[.bool (decide (s5 = [0]))] 4)).cell? ⟨a.M, 4, none⟩ = some hv := HS6.out.mach.cell 4
        refine hK.out _ _ ⟨c0, c1⟩ (fun _ => ?_)
        clear hK K
        refine wpAnyH_ready (rs := [13]) (by kernel_rfl) (by simp) ?_
        refine AllReadyH.cons rfl (fun K hK => ?_) AllReadyH.nil
        refine stepBl rfl _ _ rfl rfl HS5.out.hrow (decide (s5 = [0])) rfl (by omega) (by have := hw45.size; omega) ?_
        intro hv' w7 hO7 hg7
        obtain ⟨A7, c7, hv7, -, -⟩ := hO7.out.form
        rw [show (hs ++ [decide (s5 = [0])]).length = hs.length + 1 by simp] at hv7
        subst hv7
        have hr7 : ∀ g, hv.ownBlock = some g → ∃ cs, (w5.alloc (.cells #[.bool (decide (s5 = [0]))] 4)).heap[g]? = some (.cells cs 4 (0, 0)) := fun g e => (HS6.out.hrow.typed g e).2
        have hM7 : Blk w7 a.M (machCells a nv hv rv) 67 := HS6.out.mach.away hg7.out (Away.of_row hr7 (by decide))
        have hP7 := HS6.out.mvar.away hg7.out (Away.of_row hr7 (by decide))
        have e0 : w7.cell? ⟨a.bP, 0, none⟩ = some (.pointer (some ⟨a.M, 0, none⟩)) := hP7.cell 0
        have e1 : w7.cell? ⟨a.M, 1, none⟩ = some (.int .i64 a.e) := hM7.cell 1
        have e4 : w7.cell? ⟨a.M, 4, none⟩ = some hv := hM7.cell 4
        have e5 := hM7.frozen 4
        refine hK.out _ _ ⟨e0, e1⟩ (fun hHeld => ?_)
        clear hK K
        refine wpAnyH_take (i := 14) (v := ?_) rfl (by kernel_rfl) (by kernel_rfl) (by kernel_rfl) (fun _ _ _ h => h) (Or.inl ⟨by rfl, ?_⟩) (by assumption) ?_
        rotate_left 1
        · intro w hSw
          (try dsimp only at hSw)
          go_simp
          (try with_reducible rfl)
        refine wpAnyH_take (i := 15) (v := ?_) rfl (by kernel_rfl) (by kernel_rfl) (by kernel_rfl) (fun _ _ _ h => h) (Or.inl ⟨by rfl, ?_⟩) (by assumption) ?_
        rotate_left 1
        · intro w hSw
          (try dsimp only at hSw)
          go_simp
          (try with_reducible rfl)
        clear hHeld
        have hS8 := HS6.out.hitted hg7.out hO7.out
        have e6 : (w7.setCell ⟨a.M, 4, none⟩ (.slice A7 (hs.length + 1) c7)).cell? ⟨a.bP, 0, none⟩ = some (.pointer (some ⟨a.M, 0, none⟩)) := hS8.mvar.cell 0
        have e7 : (w7.setCell ⟨a.M, 4, none⟩ (.slice A7 (hs.length + 1) c7)).cell? ⟨a.M, 1, none⟩ = some (.int .i64 a.e) := hS8.mach.cell 1
        have HS8 := Lib.hid hS8
        clear hS8
        refine wpAnyH_ready (rs := [16]) (by kernel_rfl) (by simp) ?_
        refine AllReadyH.cons rfl (fun K hK => ?_) AllReadyH.nil
        go_simp
        refine hK.out _ _ ⟨e6, e7⟩ (fun _ => ?_)
        clear hK K
        refine wpAnyH_done (by kernel_rfl) ?_ _
        have hKM := fun w0 h0 => HKM.out w0 (.slice A7 (hs.length + 1) c7) w5 w7 _ hw45 hg7.out (fun g e => (HS6.out.hrow.typed g e).1) h0
        have hInt := HInt.out (.slice A7 (hs.length + 1) c7) w5 w7 _ hw45 hg7.out hr7 hM7
        have hIs := HIs.out (.slice A7 (hs.length + 1) c7) w5 w7 _ hw45 hg7.out hr7 hM7
        clear e0 e1 e4 e5 e6 e7 c0 c1 c4
        go_wp2_with fail
        go_ret
        refine ⟨.slice As' (ss.length + 1) cs', .slice A7 (hs.length + 1) c7, rfl, ?_, hKM, hInt, hIs⟩
        rw [Hs5.out, Hkey.out]
        exact HS8.out
      · skip
        go_simp
        have HS6 := Lib.hid (HS5.out.keep (bBox w5 (.cells #[.bool (decide (s5 = [0]))] 4)))
        replace c0 : (w5.alloc (.cells #[.bool (decide (s5 = [0]))] 4)).cell? ⟨a.bP, 0, none⟩ = some (.pointer (some ⟨a.M, 0, none⟩)) := HS6.out.mvar.cell 0
        replace c1 : (w5.alloc (.cells #[.bool (decide (s5 = [0]))] 4)).cell? ⟨a.M, 1, none⟩ = some (.int .i64 a.e) := HS6.out.mach.cell 1
        replace c4 : (w5.alloc (.cells #[.bool (decide (s5 = [0]))] 4)).cell? ⟨a.M, 4, none⟩ = some hv := HS6.out.mach.cell 4
        refine hK.out _ _ ⟨c0, c1⟩ (fun _ => ?_)
        clear hK K
        refine wpAnyH_ready (rs := [4]) (by kernel_rfl) (by simp) ?_
        refine AllReadyH.cons rfl (fun K hK => ?_) AllReadyH.nil
        go_simp
        refine hK.out _ _ ⟨c0, c1⟩ (fun _ => ?_)
        clear hK K
        refine wpAnyH_ready (rs := [13]) (by kernel_rfl) (by simp) ?_
        refine AllReadyH.cons rfl (fun K hK => ?_) AllReadyH.nil
        refine stepBl rfl _ _ rfl rfl HS5.out.hrow (decide (s5 = [0])) rfl (by omega) (by have := hw45.size; omega) ?_
        intro hv' w7 hO7 hg7
        obtain ⟨A7, c7, hv7, -, -⟩ := hO7.out.form
        rw [show (hs ++ [decide (s5 = [0])]).length = hs.length + 1 by simp] at hv7
        subst hv7
        have hr7 : ∀ g, hv.ownBlock = some g → ∃ cs, (w5.alloc (.cells #[.bool (decide (s5 = [0]))] 4)).heap[g]? = some (.cells cs 4 (0, 0)) := fun g e => (HS6.out.hrow.typed g e).2
        have hM7 : Blk w7 a.M (machCells a nv hv rv) 67 := HS6.out.mach.away hg7.out (Away.of_row hr7 (by decide))
        have hP7 := HS6.out.mvar.away hg7.out (Away.of_row hr7 (by decide))
        have e0 : w7.cell? ⟨a.bP, 0, none⟩ = some (.pointer (some ⟨a.M, 0, none⟩)) := hP7.cell 0
        have e1 : w7.cell? ⟨a.M, 1, none⟩ = some (.int .i64 a.e) := hM7.cell 1
        have e4 : w7.cell? ⟨a.M, 4, none⟩ = some hv := hM7.cell 4
        have e5 := hM7.frozen 4
        refine hK.out _ _ ⟨e0, e1⟩ (fun hHeld => ?_)
        clear hK K
        refine wpAnyH_take (i := 14) (v := ?_) rfl (by kernel_rfl) (by kernel_rfl) (by kernel_rfl) (fun _ _ _ h => h) (Or.inl ⟨by rfl, ?_⟩) (by assumption) ?_
        rotate_left 1
        · intro w hSw
          (try dsimp only at hSw)
          go_simp
          (try with_reducible rfl)
        refine wpAnyH_take (i := 15) (v := ?_) rfl (by kernel_rfl) (by kernel_rfl) (by kernel_rfl) (fun _ _ _ h => h) (Or.inl ⟨by rfl, ?_⟩) (by assumption) ?_
        rotate_left 1
        · intro w hSw
          (try dsimp only at hSw)
          go_simp
          (try with_reducible rfl)
        clear hHeld
        have hS8 := HS6.out.hitted hg7.out hO7.out
        have e6 : (w7.setCell ⟨a.M, 4, none⟩ (.slice A7 (hs.length + 1) c7)).cell? ⟨a.bP, 0, none⟩ = some (.pointer (some ⟨a.M, 0, none⟩)) := hS8.mvar.cell 0
        have e7 : (w7.setCell ⟨a.M, 4, none⟩ (.slice A7 (hs.length + 1) c7)).cell? ⟨a.M, 1, none⟩ = some (.int .i64 a.e) := hS8.mach.cell 1
        have HS8 := Lib.hid hS8
        clear hS8
        refine wpAnyH_ready (rs := [16]) (by kernel_rfl) (by simp) ?_
        refine AllReadyH.cons rfl (fun K hK => ?_) AllReadyH.nil
        go_simp
        refine hK.out _ _ ⟨e6, e7⟩ (fun _ => ?_)
        clear hK K
        refine wpAnyH_done (by kernel_rfl) ?_ _
        have hKM := fun w0 h0 => HKM.out w0 (.slice A7 (hs.length + 1) c7) w5 w7 _ hw45 hg7.out (fun g e => (HS6.out.hrow.typed g e).1) h0
        have hInt := HInt.out (.slice A7 (hs.length + 1) c7) w5 w7 _ hw45 hg7.out hr7 hM7
        have hIs := HIs.out (.slice A7 (hs.length + 1) c7) w5 w7 _ hw45 hg7.out hr7 hM7
        clear e0 e1 e4 e5 e6 e7 c0 c1 c4
        go_wp2_with fail
        go_ret
        refine ⟨.slice As' (ss.length + 1) cs', .slice A7 (hs.length + 1) c7, rfl, ?_, hKM, hInt, hIs⟩
        rw [Hs5.out, Hkey.out]
        exact HS8.out
end Go.Proofs.YtlmdjggpeiddoaaDoor
