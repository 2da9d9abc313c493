/- Compile at one rule of two patterns of one class: memory Compile at one rule of two patterns of one class -/
import Derived.Test.YtlmdjggpeiddoaaDoorD14
import Derived.Test.YtlmdjggpeiddoaaDoorD15
namespace Go.Proofs.YtlmdjggpeiddoaaDoor
open Go.RowKit Go.Sort

/-- append(nil, names...) -/
theorem wpSs {ops : Array Oper} {rest : List Oper} {o : Oper} {a : Act} {Q : Exit → Act → World → Prop} {W : World} (hgd : o.guard = none) (s x : Operand) (ho : o.op = .call { callee := .builtin .append, args := #[s, x], argTypes := #[22, 22] })
    (hs : a.eval s = .slice none 0 0) {ps : List (List UInt8)} {A : Option Addr} {c : Nat} (hA : StrsAt W A ps) (hp : 0 < ps.length) (hx : a.eval x = .slice A ps.length c) (hl : ps.length ≤ 1000000)
    (hK : ∀ v' w', Hid (OwnS w' W.heap.size v' ps) → Hid (Below W.heap.size W w') → wpList Tryd.prog ops Q rest (a.put o.dst v') w') : wpList Tryd.prog ops Q (o :: rest) a W := by
  obtain ⟨i0, hi, hz0, hz1, hz2⟩ := info_parts infoStr
  obtain ⟨b, off, rfl, hb, hc⟩ := hA hp
  refine wpList_append_own W hgd s x 22 ho W.heap.size 9 i0 (.string ByteArray.empty) 1 16 Tryd.underlying22 hi hz0 hz1 hz2 rfl (by decide) (.slice none 0 0) 0 [] hs (OwnS.nil _ _) ⟨b, off, none⟩ ps.length c (strVals ps) hx (by simp [strVals])
    (fun i u hj => ?_) (fun u hu => by simp only [strVals, List.mem_map] at hu; obtain ⟨p, _, rfl⟩ := hu; rfl) (by unfold maxLen; omega) (by omega) (Nat.le_refl _) ?_
  · have hi : i < ps.length := by simpa [strVals] using (List.getElem?_eq_some_iff.1 hj).1
    rw [Go.WideShapes.add_plain, hc i hi]
    simpa [strVals, piece, hi] using hj
  · intro v' w' hown' hg _
    refine hK v' w' (Lib.hid ?_) (Lib.hid ⟨hg.os, hg.tape, hg.output, hg.size, fun k hk => hg.block k hk (by simp [Value.ownBlock])⟩)
    unfold OwnS
    simpa using hown'

theorem OwnR.rows {R : Nat} {w : World} {base : Nat} {A : Option Addr} {n c : Nat} {rs : List (List Int)} (h : OwnR R w base (.slice A n c) rs) : RowsAt w A rs := by
  intro hz
  obtain ⟨b, _, hA, hb, _⟩ := h.at_ (k := 0) hz
  refine ⟨b, 0, hA, hb, fun j hj => ?_⟩
  obtain ⟨b', v, hA', _, hc, B, cc, rfl, hI, h1, h2⟩ := h.at_ hj
  rw [hA] at hA'
  injection hA' with e
  injection e with e
  subst e
  exact ⟨B, cc, by rw [Nat.zero_add]; exact hc, hI.ints, h1, h2⟩
theorem own_away {w w' : World} {base m c : Nat} {t : TypeId} {v : Value} {xs : List Value} {row : Option Nat} (h : w.ownsRow base t m v c xs) (hg : w.grownBy w' row) (ha : Away w row t) : w'.ownsRow base t m v c xs := by
  refine World.ownsRow.kept h hg ?_
  rcases h.2 with ⟨rfl, _⟩ | ⟨g, cap, cur, rfl, hb, hc, _⟩
  · exact .inl rfl
  · right
    intro e
    exact ha g e.symm _ _ hc
theorem KeptM.grownBy {M : Nat} {w w' : World} (h : KeptM w.heap.size M w w') : w.grownBy w' (some M) := ⟨h.os, h.tape, h.output, h.size, fun k hk hr => h.block k hk (fun e => hr (by rw [e]))⟩
theorem CT.keepB {w w' : World} {b i : Nat} {t : TypeId} {v : Value} (h : CT w b i t v) (hb : Below w.heap.size w w') : CT w' b i t v := h.away (grown_below hb none) (by simp)
/-- the types whose blocks keep what they hold while a machine, a table, a result turns -/
def dataT (t : TypeId) : Bool := t == 3 || t == 9 || t == 23 || t == 4
/-- what holds data is kept -/
def KeepT (w w' : World) : Prop := ∀ (b : Nat) cs t fr, dataT t = true → w.heap[b]? = some (.cells cs t fr) → w'.heap[b]? = some (.cells cs t fr)
theorem KeepT.refl (w : World) : KeepT w w := fun _ _ _ _ _ h => h
theorem KeepT.trans {a b c : World} (h : KeepT a b) (k : KeepT b c) : KeepT a c := fun x cs t fr ht hx => k x cs t fr ht (h x cs t fr ht hx)
theorem KeepT.below {w w' : World} (hb : Below w.heap.size w w') : KeepT w w' := fun x _ _ _ _ hx => (hb.block x (Array.getElem?_eq_some_iff.1 hx).1).trans hx
theorem KeepT.grown {w w' : World} {M : Nat} {cs : Array Value} {t : TypeId} (hM : Blk w M cs t) (ht : dataT t = false) (hg : w.grownBy w' (some M)) : KeepT w w' := by
  intro x cs' t' fr ht' hx
  refine (hg.block x (Array.getElem?_eq_some_iff.1 hx).1 ?_).trans hx
  intro e
  injection e with e
  subst e
  rw [show w.heap[x]? = some (.cells cs t (0, 0)) from hM] at hx
  injection hx with hx
  injection hx with _ e2
  subst e2
  rw [ht] at ht'
  cases ht'
theorem KeepT.set {w : World} {M : Nat} {cs : Array Value} {t : TypeId} (hM : Blk w M cs t) (ht : dataT t = false) (i : Nat) (u : Value) : KeepT w (w.setCell ⟨M, i, none⟩ u) := KeepT.grown hM ht (grown_set w ⟨M, i, none⟩ u)
theorem KeepT.own {w w' : World} (hk : KeepT w w') {base m c : Nat} {t : TypeId} {v : Value} {xs : List Value} (ht : dataT t = true) (h : w.ownsRow base t m v c xs) : w'.ownsRow base t m v c xs := by
  refine ⟨h.1, ?_⟩
  rcases h.2 with h | ⟨g, cap, cur, hv, hg, hc, r⟩
  · exact .inl h
  · exact .inr ⟨g, cap, cur, hv, hg, hk _ _ _ _ ht hc, r⟩
theorem KeepT.ints {w w' : World} (hk : KeepT w w') {R : Nat} {A : Option Addr} {zs : List Int} (h : IntsT R w A zs) : IntsT R w' A zs := by
  intro hz
  obtain ⟨b, off, cs, fr, e, hR, hb, hc⟩ := h hz
  exact ⟨b, off, cs, fr, e, hR, hk _ _ _ _ (by decide) hb, hc⟩
theorem KeepT.isI {w w' : World} (hk : KeepT w w') {R : Nat} {v : Value} {zs : List Int} (h : IsI R w v zs) : IsI R w' v zs := by
  obtain ⟨A, c, e, h1, h2⟩ := h
  exact ⟨A, c, e, hk.ints h1, h2⟩
theorem KeepT.rows {w w' : World} (hk : KeepT w w') {R base : Nat} {v : Value} {rs : List (List Int)} (h : OwnR R w base v rs) : OwnR R w' base v rs := by
  obtain ⟨vs, hl, ho, hi⟩ := h
  exact ⟨vs, hl, hk.own (by decide) ho, fun j hj => hk.isI (hi j hj)⟩
theorem KeepT.bools {w w' : World} (hk : KeepT w w') {base : Nat} {v : Value} {hs : List Bool} (h : OwnBl w base v hs) : OwnBl w' base v hs := hk.own (by decide) h
theorem KeepT.strs {w w' : World} (hk : KeepT w w') {base : Nat} {v : Value} {ps : List (List UInt8)} (h : OwnS w base v ps) : OwnS w' base v ps := hk.own (by decide) h
theorem KeepT.own1 {w w' : World} (hk : KeepT w w') {base : Nat} {v : Value} {zs : List Int} (h : OwnI w base v zs) : OwnI w' base v zs := hk.own (by decide) h
theorem KeepT.ct {w w' : World} (hk : KeepT w w') {b i : Nat} {v : Value} (h : CT w b i 3 v) : CT w' b i 3 v := by
  obtain ⟨cs, fr, h1, h2⟩ := h
  exact ⟨cs, fr, hk _ _ _ _ (by decide) h1, h2⟩
/-- block M has turned, nothing else that is old -/
theorem below_turned {B : Nat} {w0 w w' : World} (h : Below B w0 w) {M : Nat} (hg : w.grownBy w' (some M)) (hM : B ≤ M) (hB : B ≤ w.heap.size) : Below B w0 w' := h.grown hg hB (fun k e => by injection e with e; omega)
theorem OwnI.pair {w : World} {base : Nat} {v : Value} {zs : List Int} (h : OwnI w base v zs) : ∃ A c, v = .slice A zs.length c := h.form
/-- a block of six cells is written whole -/
theorem six_set {w : World} {b : Nat} {x0 x1 x2 x3 x4 x5 : Value} {t : TypeId} (h : Blk w b #[x0, x1, x2, x3, x4, x5] t) (ht : dataT t = false) (a0 a1 a2 a3 a4 a5 : Value) :
    (fun w' : World => Blk w' b #[a0, a1, a2, a3, a4, a5] t ∧ KeepT w w' ∧ ∀ B w0, Below B w0 w → B ≤ b → Below B w0 w')
      ((((((w.setCell ⟨b, 0, none⟩ a0).setCell ⟨b, 1, none⟩ a1).setCell ⟨b, 2, none⟩ a2).setCell ⟨b, 3, none⟩ a3).setCell ⟨b, 4, none⟩ a4).setCell ⟨b, 5, none⟩ a5) := by
  have h0 : Blk _ b #[a0, x1, x2, x3, x4, x5] t := h.setAll (i := 0) a0
  have h1 : Blk _ b #[a0, a1, x2, x3, x4, x5] t := h0.setAll (i := 1) a1
  have h2 : Blk _ b #[a0, a1, a2, x3, x4, x5] t := h1.setAll (i := 2) a2
  have h3 : Blk _ b #[a0, a1, a2, a3, x4, x5] t := h2.setAll (i := 3) a3
  have h4 : Blk _ b #[a0, a1, a2, a3, a4, x5] t := h3.setAll (i := 4) a4
  have h5 : Blk _ b #[a0, a1, a2, a3, a4, a5] t := h4.setAll (i := 5) a5
  refine ⟨h5, ?_, fun B w0 hb hB => ?_⟩
  · exact (((((KeepT.set h ht 0 a0).trans (KeepT.set h0 ht 1 a1)).trans (KeepT.set h1 ht 2 a2)).trans (KeepT.set h2 ht 3 a3)).trans (KeepT.set h3 ht 4 a4)).trans (KeepT.set h4 ht 5 a5)
  · exact (((((hb.setCell (p := ⟨b, 0, none⟩) hB a0).setCell (p := ⟨b, 1, none⟩) hB a1).setCell (p := ⟨b, 2, none⟩) hB a2).setCell (p := ⟨b, 3, none⟩) hB a3).setCell (p := ⟨b, 4, none⟩) hB a4).setCell (p := ⟨b, 5, none⟩) hB a5
def sampT : TabD := ⟨[[65], [66]], [1], ⟨[[1, 0], [1, 0]], [[], [0]]⟩, ⟨[[0, 1], [0, 1]], [[], [0]]⟩⟩
def CompOut (w : World) (e : Ending) (w' : World) : Prop := ∃ v : TabV, e = .returned (.tuple #[.agg (tabCells sampT v), .int .i64 0]) ∧ Hid (TabAt w' sampT v) ∧ Below w.heap.size w w'

end Go.Proofs.YtlmdjggpeiddoaaDoor
namespace Go.Proofs.YtlmdjggpeiddoaaDoor
open Go.RowKit Go.Sort

set_option maxHeartbeats 64000000 in
set_option maxRecDepth 100000 in
theorem compile1 (A : Option Addr) (ca cr L C0 o0 c0 C1 o1 c1 : Nat) (w : World) (hA : StrsAt w A [[65], [66]]) (hr : w.cell? ⟨L, 0, none⟩ = some (.int .i64 1)) (h1 : PatAt w L 1 0 C0 o0 c0) (h2 : PatAt w L 4 1 C1 o1 c1) (hC0 : CT w C0 o0 3 (.int .i64 0)) (hC1 : CT w C1 o1 3 (.int .i64 1)) (hE : EnvB w) :
    Calls Tryd.prog 25 #[.agg #[.slice A 2 ca, .slice (some ⟨L, 0, none⟩) 1 cr]] w (CompOut w) := by
  have HC := Lib.hid (fun w' hb => chk1 A ca cr L C0 o0 c0 C1 o1 c1 w' (hA.keep hb) (cell_keep hb hr) (h1.keep hb) (h2.keep hb))
  have hgB := hE.lt
  have HA := Lib.hid hA
  have Hr := Lib.hid hr
  have H1 := Lib.hid h1
  have H2 := Lib.hid h2
  have HC0 := Lib.hid hC0
  have HC1 := Lib.hid hC1
  have HE := Lib.hid hE
  clear hA hr h1 h2 hC0 hC1 hE
  go_enter Tryd.func25, Tryd.ntmps25
  go_wp2_with fail
  have hb0 := bUp (bBox w (.cells #[.slice A 2 ca, .slice (some ⟨L, 0, none⟩) 1 cr] 39)) (bBox _ (.cells #[.slice none 0 0, .slice none 0 0, .slice none 0 0, .slice none 0 0, .slice none 0 0, .slice none 0 0] 28))
  refine (HC.out _ hb0).mono ?_
  rintro e w1 ⟨rfl, hb1⟩
  have hb01 := bUp hb0 hb1
  have k0 : w1.cell? ⟨w.heap.size, 0, none⟩ = some (.slice A 2 ca) := cell_keep hb1 (cell_keep (bBox _ _) (cell_box w _ _ 0))
  have k1 : w1.cell? ⟨w.heap.size, 1, none⟩ = some (.slice (some ⟨L, 0, none⟩) 1 cr) := cell_keep hb1 (cell_keep (bBox _ _) (cell_box w _ _ 1))
  have hR1 : Blk w1 (w.heap.size + 1) #[.slice none 0 0, .slice none 0 0, .slice none 0 0, .slice none 0 0, .slice none 0 0, .slice none 0 0] 28 := by
    have h := Blk.new (w.alloc (.cells #[.slice A 2 ca, .slice (some ⟨L, 0, none⟩) 1 cr] 39)) #[.slice none 0 0, .slice none 0 0, .slice none 0 0, .slice none 0 0, .slice none 0 0, .slice none 0 0] 28
    have h2 := h.keep hb1
    simpa using h2
  have hlt1 : w.heap.size + 1 < w1.heap.size := hR1.lt
  clear HC hb0 hb1
  go_upto_region 7 with fail
  have hbm := bUp (bBox w1 (.cells #[.int .i64 2, .int .i64 2, .bool true, .slice none 0 0, .slice none 0 0, .slice none 0 0] 67)) (bBox _ (.cells #[.int .i64 2, .int .i64 3, .bool false, .slice none 0 0, .slice none 0 0, .slice none 0 0] 67))
  have b1 : Blk ((w1.alloc (.cells #[.int .i64 2, .int .i64 2, .bool true, .slice none 0 0, .slice none 0 0, .slice none 0 0] 67)).alloc (.cells #[.int .i64 2, .int .i64 3, .bool false, .slice none 0 0, .slice none 0 0, .slice none 0 0] 67)) w1.heap.size #[.int .i64 2, .int .i64 2, .bool true, .slice none 0 0, .slice none 0 0, .slice none 0 0] 67 := (Blk.new w1 _ _).keep (bBox _ _)
  have b2 : Blk ((w1.alloc (.cells #[.int .i64 2, .int .i64 2, .bool true, .slice none 0 0, .slice none 0 0, .slice none 0 0] 67)).alloc (.cells #[.int .i64 2, .int .i64 3, .bool false, .slice none 0 0, .slice none 0 0, .slice none 0 0] 67)) (w1.heap.size + 1) #[.int .i64 2, .int .i64 3, .bool false, .slice none 0 0, .slice none 0 0, .slice none 0 0] 67 := by
    have h := Blk.new (w1.alloc (.cells #[.int .i64 2, .int .i64 2, .bool true, .slice none 0 0, .slice none 0 0, .slice none 0 0] 67)) #[.int .i64 2, .int .i64 3, .bool false, .slice none 0 0, .slice none 0 0, .slice none 0 0] 67
    simpa using h
  replace k0 := cell_keep hbm k0
  replace k1 := cell_keep hbm k1
  replace hR1 := hR1.keep hbm
  have hb03 := bUp hb01 hbm
  generalize (w1.alloc (.cells #[.int .i64 2, .int .i64 2, .bool true, .slice none 0 0, .slice none 0 0, .slice none 0 0] 67)).alloc (.cells #[.int .i64 2, .int .i64 3, .bool false, .slice none 0 0, .slice none 0 0, .slice none 0 0] 67) = w3 at b1 b2 k0 k1 hR1 hb03 ⊢
  generalize w1.heap.size = M at b1 b2 hlt1 ⊢
  clear hbm hb01
  have HA3 := Lib.hid (HA.out.keep hb03)
  have hp : 0 < ([[65], [66]] : List (List UInt8)).length := by decide
  have hl : ([[65], [66]] : List (List UInt8)).length ≤ 1000000 := by decide
  have B1 := Lib.hid b1
  have B2 := Lib.hid b2
  have HR1 := Lib.hid hR1
  have Hb03 := Lib.hid hb03
  clear b1 b2 hR1 hb03
  go_wp2_with (at_builtin; refine wpSs rfl _ _ rfl rfl HA3.out hp rfl hl ?_)
  intro v4 w4 hO4 hb4
  obtain ⟨Av, cv, hv4, hcv, hcv0⟩ := hO4.out.form
  have hv4 : v4 = .slice Av 2 cv := hv4
  subst hv4
  go_upto_region 8 with fail
  have hbT := bBox w4 (.cells #[.slice Av 2 cv, .slice none 0 0, .slice none 0 0, .slice none 0 0, .slice none 0 0, .slice none 0 0] 28)
  have T5 := Lib.hid (Blk.new w4 #[.slice Av 2 cv, .slice none 0 0, .slice none 0 0, .slice none 0 0, .slice none 0 0, .slice none 0 0] 28)
  have hb05 := bUp (bUp Hb03.out hb4.out) hbT
  have O5 := Lib.hid (hO4.out.keep hbT)
  have M5 := Lib.hid ((B1.out.keep hb4.out).keep hbT)
  have L5 := Lib.hid ((B2.out.keep hb4.out).keep hbT)
  have R5 := Lib.hid ((HR1.out.keep hb4.out).keep hbT)
  have k1 := cell_keep hbT (cell_keep hb4.out k1)
  have hMT : M + 1 < w4.heap.size := (B2.out.keep hb4.out).lt
  clear k0 B1 B2 HR1 Hb03 hO4 hcv hcv0 HA3 hp hl
  generalize w4.alloc (.cells #[.slice Av 2 cv, .slice none 0 0, .slice none 0 0, .slice none 0 0, .slice none 0 0, .slice none 0 0] 28) = w5 at hb05 T5 O5 M5 L5 R5 k1 ⊢
  generalize w4.heap.size = T at T5 hMT ⊢
  clear hb4 hbT
  have Hb05 := Lib.hid hb05
  have r0 : w5.cell? ⟨L, 0, none⟩ = some (.int .i64 1) := cell_keep hb05 Hr.out
  have p0 : w5.cell? ⟨L, 1, none⟩ = some (.int .i64 1) := cell_keep hb05 H1.out.kind
  have p1 : w5.cell? ⟨L, 2, none⟩ = some (.slice (some ⟨C0, o0, none⟩) 1 c0) := cell_keep hb05 H1.out.cls
  have p2 : w5.cell? ⟨L, 3, none⟩ = some (.slice none 0 0) := cell_keep hb05 H1.out.subs
  have q0 : w5.cell? ⟨L, 4, none⟩ = some (.int .i64 1) := cell_keep hb05 H2.out.kind
  have q1 : w5.cell? ⟨L, 5, none⟩ = some (.slice (some ⟨C1, o1, none⟩) 1 c1) := cell_keep hb05 H2.out.cls
  have q2 : w5.cell? ⟨L, 6, none⟩ = some (.slice none 0 0) := cell_keep hb05 H2.out.subs
  clear hb05
  go_wp2_with fail
  refine wp_loop_rounds 2 ?_
  rw [rounds_succ]
  go_upto_region 11 with fail
  have hbU := bBox w5 (.cells #[.int .i64 1, .int .i64 1, .slice (some ⟨C0, o0, none⟩) 1 c0, .slice none 0 0, .int .i64 1, .slice (some ⟨C1, o1, none⟩) 1 c1, .slice none 0 0] 58)
  have U6 := Lib.hid (Blk.new w5 #[.int .i64 1, .int .i64 1, .slice (some ⟨C0, o0, none⟩) 1 c0, .slice none 0 0, .int .i64 1, .slice (some ⟨C1, o1, none⟩) 1 c1, .slice none 0 0] 58)
  have Hb06 := Lib.hid (bUp Hb05.out hbU)
  have O6 := Lib.hid (O5.out.keep hbU)
  have M6 := Lib.hid (M5.out.keep hbU)
  have L6 := Lib.hid (L5.out.keep hbU)
  have R6 := Lib.hid (R5.out.keep hbU)
  have T6 := Lib.hid (T5.out.keep hbU)
  have hTU : T < w5.heap.size := T5.out.lt
  clear r0 p0 p1 p2 q0 q1 q2 k1 O5 M5 L5 R5 T5 Hb05 hbU
  generalize w5.alloc (.cells #[.int .i64 1, .int .i64 1, .slice (some ⟨C0, o0, none⟩) 1 c0, .slice none 0 0, .int .i64 1, .slice (some ⟨C1, o1, none⟩) 1 c1, .slice none 0 0] 58) = w6 at U6 Hb06 O6 M6 L6 R6 T6 ⊢
  generalize w5.heap.size = U at U6 hTU ⊢
  have t1 : w6.cell? ⟨T, 1, none⟩ = some (.slice none 0 0) := T6.out.cell 1
  have u0 : w6.cell? ⟨U, 0, none⟩ = some (.int .i64 1) := U6.out.cell 0
  have hone : 0 < ([1] : List Int).length := by decide
  have hbase : ∀ o, w6.heap.size ≤ (w6.alloc o).heap.size := fun o => by simp
  have hlen : ([] : List Int).length + ([1] : List Int).length ≤ 1000000 := by decide
  go_wp2_with (at_builtin; refine wpI rfl _ _ rfl w6.heap.size rfl (OwnI.nil _ _) [1] rfl (ints_new _ [1] _) hone hlen (hbase _) ?_)
  intro v7 w7 hO7 hb7
  replace hb7 := hb7 w6 (bBox w6 _)
  obtain ⟨A7, c7, rfl⟩ := hO7.out.form
  have T7 := Lib.hid (T6.out.keep hb7)
  have t2 : w7.cell? ⟨T, 1, none⟩ = some (.slice none 0 0) := T7.out.cell 1
  have t3 : w7.frozen? ⟨T, 1, none⟩ = false := T7.out.frozen 1
  have Q7 := Lib.hid hb7
  clear hb7 t1 u0
  go_upto_region 12 with fail
  have g8 := grown_set w7 ⟨T, 1, none⟩ (.slice A7 1 c7)
  have K68 := Lib.hid ((KeepT.below Q7.out).trans (KeepT.set T7.out (by decide) 1 (.slice A7 1 c7)))
  have O8 := Lib.hid (K68.out.strs O6.out)
  have I8 := Lib.hid ((KeepT.set T7.out (by decide) 1 (.slice A7 1 c7)).own1 hO7.out)
  have M8 := Lib.hid ((M6.out.keep Q7.out).grown g8 (by simp; omega))
  have L8 := Lib.hid ((L6.out.keep Q7.out).grown g8 (by simp; omega))
  have R8 := Lib.hid ((R6.out.keep Q7.out).grown g8 (by simp; omega))
  have U8 := Lib.hid ((U6.out.keep Q7.out).grown g8 (by simp; omega))
  have T8 : Hid (Blk (w7.setCell ⟨T, 1, none⟩ (.slice A7 1 c7)) T #[.slice Av 2 cv, .slice A7 1 c7, .slice none 0 0, .slice none 0 0, .slice none 0 0, .slice none 0 0] 28) := Lib.hid (T7.out.setAll (.slice A7 1 c7))
  have Hb08 := Lib.hid (below_turned (bUp Hb06.out Q7.out) g8 (by show _ ≤ T; omega) (bUp Hb06.out Q7.out).size)
  clear Hb06 O6 M6 L6 R6 U6 T6 T7 hO7 g8 Q7 t2 t3 hone hlen hbase K68
  generalize w7.setCell ⟨T, 1, none⟩ (.slice A7 1 c7) = w8 at O8 I8 M8 L8 R8 U8 T8 Hb08 ⊢
  have hMg : 0 ≠ M := by omega
  have hLg : 0 ≠ M + 1 := by omega
  have HC9 := Lib.hid (machAdd M 2 true 0 C0 o0 c0 w8 M8.out (.inl rfl) (HC0.out.keepB Hb08.out) (HE.out.keep Hb08.out) hMg)
  have u1 : w8.cell? ⟨U, 1, none⟩ = some (.int .i64 1) := U8.out.cell 1
  have u2 : w8.cell? ⟨U, 2, none⟩ = some (.slice (some ⟨C0, o0, none⟩) 1 c0) := U8.out.cell 2
  have u3 : w8.cell? ⟨U, 3, none⟩ = some (.slice none 0 0) := U8.out.cell 3
  go_wp2_with fail
  refine HC9.out.mono ?_
  rintro e w9 ⟨Ra, na, ha, ra, rfl, M9, n9, h9, i9, K9⟩
  clear HC9 u1 u2 u3
  have g9 := K9.out.grownBy
  have K89 := Lib.hid (KeepT.grown M8.out (by decide) g9)
  have O9 := Lib.hid (K89.out.strs O8.out)
  have I9 := Lib.hid (K89.out.own1 I8.out)
  have L9 := Lib.hid (L8.out.grown g9 (by simp))
  have R9 := Lib.hid (R8.out.grown g9 (by simp; omega))
  have U9 := Lib.hid (U8.out.grown g9 (by simp; omega))
  have T9 := Lib.hid (T8.out.grown g9 (by simp; omega))
  have Hb09 := Lib.hid (below_turned Hb08.out g9 (by omega) Hb08.out.size)
  have hz8 : 0 < w8.heap.size := by have := M8.out.lt; omega
  have n9 : Hid (OwnR Ra w9 w8.heap.size na nxM) := n9
  have h9 : Hid (OwnBl w9 w8.heap.size ha (fl true false)) := h9
  clear O8 I8 M8 L8 R8 U8 T8 Hb08 K9 g9 K89
  generalize w8.heap.size = B8 at n9 h9 hz8
  have HC9 := Lib.hid (machAdd (M + 1) 3 false 1 C1 o1 c1 w9 L9.out (.inr rfl) (HC1.out.keepB Hb09.out) (HE.out.keep Hb09.out) hLg)
  have u1 : w9.cell? ⟨U, 4, none⟩ = some (.int .i64 1) := U9.out.cell 4
  have u2 : w9.cell? ⟨U, 5, none⟩ = some (.slice (some ⟨C1, o1, none⟩) 1 c1) := U9.out.cell 5
  have u3 : w9.cell? ⟨U, 6, none⟩ = some (.slice none 0 0) := U9.out.cell 6
  go_wp2_with fail
  refine HC9.out.mono ?_
  rintro e wA ⟨Rb, nb, hb, rb, rfl, LA, nA, hA, iA, KA⟩
  clear HC9 u1 u2 u3
  have gA := KA.out.grownBy
  have K9A := Lib.hid (KeepT.grown L9.out (by decide) gA)
  have OA := Lib.hid (K9A.out.strs O9.out)
  have IA := Lib.hid (K9A.out.own1 I9.out)
  have nAl := Lib.hid (K9A.out.rows n9.out)
  have hAl := Lib.hid (K9A.out.bools h9.out)
  have iAl := Lib.hid (K9A.out.isI i9.out)
  have MA := Lib.hid (M9.out.grown gA (by simp))
  have RA := Lib.hid (R9.out.grown gA (by simp; omega))
  have TA := Lib.hid (T9.out.grown gA (by simp; omega))
  have HbA := Lib.hid (below_turned Hb09.out gA (by omega) Hb09.out.size)
  have hz9 : 0 < w9.heap.size := by have := L9.out.lt; omega
  have nA : Hid (OwnR Rb wA w9.heap.size nb nxM) := nA
  have hA : Hid (OwnBl wA w9.heap.size hb (fl false false)) := hA
  clear O9 I9 L9 R9 U9 T9 Hb09 KA gA K9A n9 h9 i9 M9
  generalize w9.heap.size = B9 at nA hA hz9
  have HAl := Lib.hid (automaton M 2 true true na ha ra Ra Ra 0 B8 wA MA.out nAl.out (hAl.out.isB hz8) iAl.out)
  go_wp2_with fail
  rw [rounds_succ]
  go_wp2_with fail
  refine HAl.out.mono ?_
  rintro e wB ⟨Rl, nl, ml, rfl, nlB, mlB, hbB⟩
  have LB := Lib.hid (LA.out.keep hbB.out)
  have RB := Lib.hid (RA.out.keep hbB.out)
  have TB := Lib.hid (TA.out.keep hbB.out)
  have OB := Lib.hid (OA.out.keep hbB.out)
  have IB := Lib.hid (IA.out.keep hbB.out)
  have nB := Lib.hid ((KeepT.below hbB.out).rows nA.out)
  have hB := Lib.hid ((KeepT.below hbB.out).bools hA.out)
  have iB := Lib.hid ((KeepT.below hbB.out).isI iA.out)
  have HbB := Lib.hid (bUp HbA.out hbB.out)
  clear LA RA TA OA IA nA hA iA HbA hbB nAl hAl iAl MA HAl
  have nlB : Hid (OwnR Rl wB wA.heap.size nl [[1, 0], [1, 0]]) := nlB
  obtain ⟨An, cn, rfl, -, -⟩ := nlB.out.form
  obtain ⟨Am, cm, rfl, -, -⟩ := mlB.out.form
  have t2 : wB.cell? ⟨T, 2, none⟩ = some (.slice none 0 0) := TB.out.cell 2
  have t3 : wB.cell? ⟨T, 3, none⟩ = some (.slice none 0 0) := TB.out.cell 3
  have f2 : wB.frozen? ⟨T, 2, none⟩ = false := TB.out.frozen 2
  have f3 : wB.frozen? ⟨T, 3, none⟩ = false := TB.out.frozen 3
  go_upto_region 17 with fail
  have gx := grown_set wB ⟨T, 2, none⟩ (.slice An 2 cn)
  have gy := grown_set (wB.setCell ⟨T, 2, none⟩ (.slice An 2 cn)) ⟨T, 3, none⟩ (.slice Am 2 cm)
  have Tx : Hid (Blk (wB.setCell ⟨T, 2, none⟩ (.slice An 2 cn)) T #[.slice Av 2 cv, .slice A7 1 c7, .slice An 2 cn, .slice none 0 0, .slice none 0 0, .slice none 0 0] 28) := Lib.hid (TB.out.setAll (.slice An 2 cn))
  have TC : Hid (Blk ((wB.setCell ⟨T, 2, none⟩ (.slice An 2 cn)).setCell ⟨T, 3, none⟩ (.slice Am 2 cm)) T #[.slice Av 2 cv, .slice A7 1 c7, .slice An 2 cn, .slice Am 2 cm, .slice none 0 0, .slice none 0 0] 28) := Lib.hid (Tx.out.setAll (.slice Am 2 cm))
  have KC := Lib.hid ((KeepT.set TB.out (by decide) 2 (.slice An 2 cn)).trans (KeepT.set Tx.out (by decide) 3 (.slice Am 2 cm)))
  have LC := Lib.hid ((LB.out.grown gx (by simp; omega)).grown gy (by simp; omega))
  have RC := Lib.hid ((RB.out.grown gx (by simp; omega)).grown gy (by simp; omega))
  have OC := Lib.hid (KC.out.strs OB.out)
  have IC := Lib.hid (KC.out.own1 IB.out)
  have nC := Lib.hid (KC.out.rows nB.out)
  have hC := Lib.hid (KC.out.bools hB.out)
  have iC := Lib.hid (KC.out.isI iB.out)
  have nlC := Lib.hid (KC.out.rows nlB.out)
  have mlC := Lib.hid (KC.out.rows mlB.out)
  have hxs : w.heap.size ≤ (wB.setCell ⟨T, 2, none⟩ (.slice An 2 cn)).heap.size := by simpa using HbB.out.size
  have HbC := Lib.hid (below_turned (below_turned HbB.out gx (by show _ ≤ T; omega) HbB.out.size) gy (by show _ ≤ T; omega) hxs)
  clear gx gy Tx TB LB RB OB IB nB hB iB nlB mlB HbB KC t2 t3 f2 f3 hxs
  generalize (wB.setCell ⟨T, 2, none⟩ (.slice An 2 cn)).setCell ⟨T, 3, none⟩ (.slice Am 2 cm) = wC at TC LC RC OC IC nC hC iC nlC mlC HbC ⊢
  have HAl := Lib.hid (automaton (M + 1) 3 false false nb hb rb Rb Rb 0 B9 wC LC.out nC.out (hC.out.isB hz9) iC.out)
  go_wp2_with fail
  refine HAl.out.mono ?_
  rintro e wD ⟨Rr, nr, mr, rfl, nrD, mrD, hbD⟩
  have RD := Lib.hid (RC.out.keep hbD.out)
  have TD := Lib.hid (TC.out.keep hbD.out)
  have OD := Lib.hid (OC.out.keep hbD.out)
  have ID := Lib.hid (IC.out.keep hbD.out)
  have nlD := Lib.hid ((KeepT.below hbD.out).rows nlC.out)
  have mlD := Lib.hid ((KeepT.below hbD.out).rows mlC.out)
  have HbD := Lib.hid (bUp HbC.out hbD.out)
  clear LC RC TC OC IC nC hC iC HbC hbD nlC mlC HAl
  have nrD : Hid (OwnR Rr wD wC.heap.size nr [[0, 1], [0, 1]]) := nrD
  obtain ⟨Bn, dn, rfl, -, -⟩ := nrD.out.form
  obtain ⟨Bm, dm, rfl, -, -⟩ := mrD.out.form
  have t2 : wD.cell? ⟨T, 4, none⟩ = some (.slice none 0 0) := TD.out.cell 4
  have t3 : wD.cell? ⟨T, 5, none⟩ = some (.slice none 0 0) := TD.out.cell 5
  have f2 : wD.frozen? ⟨T, 4, none⟩ = false := TD.out.frozen 4
  have f3 : wD.frozen? ⟨T, 5, none⟩ = false := TD.out.frozen 5
  go_upto_region 20 with fail
  have gx := grown_set wD ⟨T, 4, none⟩ (.slice Bn 2 dn)
  have gy := grown_set (wD.setCell ⟨T, 4, none⟩ (.slice Bn 2 dn)) ⟨T, 5, none⟩ (.slice Bm 2 dm)
  have Tx : Hid (Blk (wD.setCell ⟨T, 4, none⟩ (.slice Bn 2 dn)) T #[.slice Av 2 cv, .slice A7 1 c7, .slice An 2 cn, .slice Am 2 cm, .slice Bn 2 dn, .slice none 0 0] 28) := Lib.hid (TD.out.setAll (.slice Bn 2 dn))
  have TE : Hid (Blk ((wD.setCell ⟨T, 4, none⟩ (.slice Bn 2 dn)).setCell ⟨T, 5, none⟩ (.slice Bm 2 dm)) T #[.slice Av 2 cv, .slice A7 1 c7, .slice An 2 cn, .slice Am 2 cm, .slice Bn 2 dn, .slice Bm 2 dm] 28) := Lib.hid (Tx.out.setAll (.slice Bm 2 dm))
  have KE := Lib.hid ((KeepT.set TD.out (by decide) 4 (.slice Bn 2 dn)).trans (KeepT.set Tx.out (by decide) 5 (.slice Bm 2 dm)))
  have RE := Lib.hid ((RD.out.grown gx (by simp; omega)).grown gy (by simp; omega))
  have OE := Lib.hid (KE.out.strs OD.out)
  have IE := Lib.hid (KE.out.own1 ID.out)
  have nlE := Lib.hid (KE.out.rows nlD.out)
  have mlE := Lib.hid (KE.out.rows mlD.out)
  have nrE := Lib.hid (KE.out.rows nrD.out)
  have mrE := Lib.hid (KE.out.rows mrD.out)
  have hxs : w.heap.size ≤ (wD.setCell ⟨T, 4, none⟩ (.slice Bn 2 dn)).heap.size := by simpa using HbD.out.size
  have HbE := Lib.hid (below_turned (below_turned HbD.out gx (by show _ ≤ T; omega) HbD.out.size) gy (by show _ ≤ T; omega) hxs)
  clear gx gy Tx TD RD OD ID nlD mlD nrD mrD HbD KE t2 t3 f2 f3 hxs
  generalize (wD.setCell ⟨T, 4, none⟩ (.slice Bn 2 dn)).setCell ⟨T, 5, none⟩ (.slice Bm 2 dm) = wE at TE RE OE IE nlE mlE nrE mrE HbE ⊢
  have s0 : wE.cell? ⟨T, 0, none⟩ = some (.slice Av 2 cv) := TE.out.cell 0
  have s1 : wE.cell? ⟨T, 1, none⟩ = some (.slice A7 1 c7) := TE.out.cell 1
  have s2 : wE.cell? ⟨T, 2, none⟩ = some (.slice An 2 cn) := TE.out.cell 2
  have s3 : wE.cell? ⟨T, 3, none⟩ = some (.slice Am 2 cm) := TE.out.cell 3
  have s4 : wE.cell? ⟨T, 4, none⟩ = some (.slice Bn 2 dn) := TE.out.cell 4
  have s5 : wE.cell? ⟨T, 5, none⟩ = some (.slice Bm 2 dm) := TE.out.cell 5
  have z0 : wE.cell? ⟨w.heap.size + 1, 0, none⟩ = some (.slice none 0 0) := RE.out.cell 0
  have z1 : wE.cell? ⟨w.heap.size + 1, 1, none⟩ = some (.slice none 0 0) := RE.out.cell 1
  have z2 : wE.cell? ⟨w.heap.size + 1, 2, none⟩ = some (.slice none 0 0) := RE.out.cell 2
  have z3 : wE.cell? ⟨w.heap.size + 1, 3, none⟩ = some (.slice none 0 0) := RE.out.cell 3
  have z4 : wE.cell? ⟨w.heap.size + 1, 4, none⟩ = some (.slice none 0 0) := RE.out.cell 4
  have z5 : wE.cell? ⟨w.heap.size + 1, 5, none⟩ = some (.slice none 0 0) := RE.out.cell 5
  have y0 : wE.frozen? ⟨w.heap.size + 1, 0, none⟩ = false := RE.out.frozen 0
  have y1 : wE.frozen? ⟨w.heap.size + 1, 1, none⟩ = false := RE.out.frozen 1
  have y2 : wE.frozen? ⟨w.heap.size + 1, 2, none⟩ = false := RE.out.frozen 2
  have y3 : wE.frozen? ⟨w.heap.size + 1, 3, none⟩ = false := RE.out.frozen 3
  have y4 : wE.frozen? ⟨w.heap.size + 1, 4, none⟩ = false := RE.out.frozen 4
  have y5 : wE.frozen? ⟨w.heap.size + 1, 5, none⟩ = false := RE.out.frozen 5
  go_wp2_with fail
  have hs6 := six_set RE.out (by decide) (.slice Av 2 cv) (.slice A7 1 c7) (.slice An 2 cn) (.slice Am 2 cm) (.slice Bn 2 dn) (.slice Bm 2 dm)
  clear s0 s1 s2 s3 s4 s5 z0 z1 z2 z3 z4 z5 y0 y1 y2 y3 y4 y5 TE RE
  generalize (((((wE.setCell ⟨w.heap.size + 1, 0, none⟩ (.slice Av 2 cv)).setCell ⟨w.heap.size + 1, 1, none⟩ (.slice A7 1 c7)).setCell ⟨w.heap.size + 1, 2, none⟩ (.slice An 2 cn)).setCell ⟨w.heap.size + 1, 3, none⟩ (.slice Am 2 cm)).setCell ⟨w.heap.size + 1, 4, none⟩ (.slice Bn 2 dn)).setCell ⟨w.heap.size + 1, 5, none⟩ (.slice Bm 2 dm) = wF at hs6 ⊢
  obtain ⟨hr6, hk6, hb6⟩ := hs6
  have s0 : wF.cell? ⟨w.heap.size + 1, 0, none⟩ = some (.slice Av 2 cv) := hr6.cell 0
  have s1 : wF.cell? ⟨w.heap.size + 1, 1, none⟩ = some (.slice A7 1 c7) := hr6.cell 1
  have s2 : wF.cell? ⟨w.heap.size + 1, 2, none⟩ = some (.slice An 2 cn) := hr6.cell 2
  have s3 : wF.cell? ⟨w.heap.size + 1, 3, none⟩ = some (.slice Am 2 cm) := hr6.cell 3
  have s4 : wF.cell? ⟨w.heap.size + 1, 4, none⟩ = some (.slice Bn 2 dn) := hr6.cell 4
  have s5 : wF.cell? ⟨w.heap.size + 1, 5, none⟩ = some (.slice Bm 2 dm) := hr6.cell 5
  have HFin : Hid (CompOut w (.returned (.tuple #[.agg #[.slice Av 2 cv, .slice A7 1 c7, .slice An 2 cn, .slice Am 2 cm, .slice Bn 2 dn, .slice Bm 2 dm], .int .i64 0])) wF) :=
    Lib.hid ⟨⟨Av, A7, An, Am, Bn, Bm, cv, c7, cn, cm, dn, dm⟩, rfl, Lib.hid ⟨(hk6.strs OE.out).strs, (hk6.own1 IE.out).ints, (hk6.rows nlE.out).rows, (hk6.rows mlE.out).rows, (hk6.rows nrE.out).rows, (hk6.rows mrE.out).rows⟩, hb6 _ _ HbE.out (by omega)⟩
  clear hr6 hk6 hb6 OE IE nlE mlE nrE mrE HbE
  refine bodyPost_ret (v := .tuple #[.agg #[.slice Av 2 cv, .slice A7 1 c7, .slice An 2 cn, .slice Am 2 cm, .slice Bn 2 dn, .slice Bm 2 dm], .int .i64 0]) (by simp [results, Tryd.results25, go_sem, s0, s1, s2, s3, s4, s5]) rfl HFin.out
end Go.Proofs.YtlmdjggpeiddoaaDoor
