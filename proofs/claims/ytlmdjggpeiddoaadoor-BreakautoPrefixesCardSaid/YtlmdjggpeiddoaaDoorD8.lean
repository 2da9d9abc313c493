/- Memory of the machines: blocks that a call writes, rows of slices, of bools. setKey, ended closure, step of a net with two nodes: the sample's patterns closure of a net with two nodes step of a net with two nodes -/
import Derived.Test.YtlmdjggpeiddoaaDoorD7
import Derived.Maps.AppendAt
import Derived.Lib.AppendIntMem
import Derived.Lib.ItoaLen
import Derived.Lib.ConvBytes
import Derived.Laws.IdiomStrings
import Derived.Lib.OwnBridge
import Derived.LoopN
import Derived.Shelf.Slices.In.SortNone
namespace Go.Proofs.YtlmdjggpeiddoaaDoor
open Go.RowKit Go.Sort

/-- nothing below B has turned, but for block M -/
structure KeptM (B M : Nat) (w w' : World) : Prop where
  os : w'.os = w.os
  tape : w'.tape = w.tape
  output : w'.output = w.output
  base : B ≤ w.heap.size
  size : w.heap.size ≤ w'.heap.size
  block : ∀ b, b < B → b ≠ M → w'.heap[b]? = w.heap[b]?
theorem KeptM.refl {B M : Nat} {w : World} (h : B ≤ w.heap.size) : KeptM B M w w := ⟨rfl, rfl, rfl, h, Nat.le_refl _, fun _ _ _ => rfl⟩
theorem KeptM.le {B M : Nat} {w w' : World} (h : KeptM B M w w') : B ≤ w'.heap.size := Nat.le_trans h.base h.size
theorem KeptM.below {B M : Nat} {w0 w w' : World} (h : KeptM B M w0 w) (hb : Below w.heap.size w w') : KeptM B M w0 w' :=
  ⟨hb.os.trans h.os, hb.tape.trans h.tape, hb.output.trans h.output, h.base, Nat.le_trans h.size hb.size, fun b h1 h2 => (hb.block b (Nat.lt_of_lt_of_le h1 h.le)).trans (h.block b h1 h2)⟩
theorem KeptM.grown {B M : Nat} {w0 w w' : World} {row : Option Nat} (h : KeptM B M w0 w) (hg : w.grownBy w' row) (hr : ∀ g, row = some g → B ≤ g ∨ g = M) : KeptM B M w0 w' :=
  ⟨hg.os.trans h.os, hg.tape.trans h.tape, hg.output.trans h.output, h.base, Nat.le_trans h.size hg.size, fun b h1 h2 => (hg.block b (Nat.lt_of_lt_of_le h1 h.le) (fun e => by rcases hr b e.symm with h3 | h3; omega; exact h2 h3)).trans (h.block b h1 h2)⟩
theorem KeptM.set {B M : Nat} {w0 w : World} (h : KeptM B M w0 w) (p : Addr) (u : Value) (hp : B ≤ p.block ∨ p.block = M) : KeptM B M w0 (w.setCell p u) :=
  ⟨h.os, h.tape, h.output, h.base, by simpa using h.size, fun b h1 h2 => (Below.heap_setCell w p u b (fun e => by rcases hp with h3 | h3; omega; exact h2 (e.trans h3))).trans (h.block b h1 h2)⟩
theorem KeptM.toBelow {B M : Nat} {w w' : World} (h : KeptM B M w w') (hM : B ≤ M) : Below B w w' := ⟨h.os, h.tape, h.output, h.size, fun b hb => h.block b hb (by omega)⟩
/-- what a store, an append leaves: all old blocks but one -/
theorem grown_set (w : World) (p : Addr) (u : Value) : w.grownBy (w.setCell p u) (some p.block) := ⟨rfl, rfl, rfl, by simp, fun k _ hk => Below.heap_setCell w p u k (fun e => hk (by rw [e]))⟩
theorem grown_below {w w' : World} (h : Below w.heap.size w w') (row : Option Nat) : w.grownBy w' row := ⟨h.os, h.tape, h.output, h.size, fun k hk _ => h.block k hk⟩

/-- the slice at A reads as the ints zs; its block is one of ints, and not R -/
def IntsT (R : Nat) (w : World) (A : Option Addr) (zs : List Int) : Prop :=
  0 < zs.length → ∃ b off cs fr, A = some ⟨b, off, none⟩ ∧ b ≠ R ∧ w.heap[b]? = some (.cells cs 3 fr) ∧ ∀ j, j < zs.length → cs[off + j]? = some (.int .i64 (nth zs j))
theorem IntsT.ints {R : Nat} {w : World} {A : Option Addr} {zs : List Int} (h : IntsT R w A zs) : IntsAt w A zs := by
  intro hz
  obtain ⟨b, off, cs, fr, e, _, hb, hc⟩ := h hz
  refine ⟨b, off, e, (Array.getElem?_eq_some_iff.1 hb).1, fun j hj => ?_⟩
  simp [World.cell?, hb, hc j hj]
theorem IntsT.kept {R : Nat} {w w' : World} {A : Option Addr} {zs : List Int} {row : Option Nat} (h : IntsT R w A zs) (hg : w.grownBy w' row) (hr : ∀ g, row = some g → g = R ∨ ∀ cs fr, w.heap[g]? ≠ some (.cells cs 3 fr)) : IntsT R w' A zs := by
  intro hz
  obtain ⟨b, off, cs, fr, e, hR, hb, hc⟩ := h hz
  refine ⟨b, off, cs, fr, e, hR, ?_, hc⟩
  rw [hg.block b (Array.getElem?_eq_some_iff.1 hb).1 ?_, hb]
  intro e2
  rcases hr b e2.symm with h3 | h3
  · exact hR h3
  · exact h3 _ _ hb
theorem IntsT.keep {R : Nat} {w w' : World} {A : Option Addr} {zs : List Int} (h : IntsT R w A zs) (hb : Below w.heap.size w w') : IntsT R w' A zs := h.kept (grown_below hb none) (fun g e => by cases e)
theorem IntsT.nil {R : Nat} {w : World} {A : Option Addr} : IntsT R w A [] := fun h => by simp at h
/-- another block may be left out, if it is new -/
theorem IntsT.other {R R' : Nat} {w : World} {A : Option Addr} {zs : List Int} (h : IntsT R w A zs) (hR : w.heap.size ≤ R') : IntsT R' w A zs := by
  intro hz
  obtain ⟨b, off, cs, fr, e, _, hb, hc⟩ := h hz
  exact ⟨b, off, cs, fr, e, by have := (Array.getElem?_eq_some_iff.1 hb).1; omega, hb, hc⟩

/-- a value that is a slice of ints -/
def IsI (R : Nat) (w : World) (v : Value) (zs : List Int) : Prop := ∃ A c, v = .slice A zs.length c ∧ IntsT R w A zs ∧ zs.length ≤ c ∧ (A = none → c = 0)
/-- v is a slice of slices of ints of the call's own -/
def OwnR (R : Nat) (w : World) (base : Nat) (v : Value) (rs : List (List Int)) : Prop :=
  ∃ vs : List Value, vs.length = rs.length ∧ w.ownsRow base 23 1 v rs.length vs ∧ ∀ j, j < rs.length → IsI R w (vs.getD j undef) (rowAt rs j)
theorem IsI.kept {R : Nat} {w w' : World} {v : Value} {zs : List Int} {row : Option Nat} (h : IsI R w v zs) (hg : w.grownBy w' row) (hr : ∀ g, row = some g → g = R ∨ ∀ cs fr, w.heap[g]? ≠ some (.cells cs 3 fr)) : IsI R w' v zs := by
  obtain ⟨A, c, e, h1, h2⟩ := h
  exact ⟨A, c, e, h1.kept hg hr, h2⟩
theorem IsI.keep {R : Nat} {w w' : World} {v : Value} {zs : List Int} (h : IsI R w v zs) (hb : Below w.heap.size w w') : IsI R w' v zs := h.kept (grown_below hb none) (fun g e => by cases e)
theorem OwnR.kept {R : Nat} {w w' : World} {base : Nat} {v : Value} {rs : List (List Int)} {row : Option Nat} (h : OwnR R w base v rs) (hg : w.grownBy w' row) (hr : ∀ g, row = some g → g = R ∨ ∀ cs fr, w.heap[g]? ≠ some (.cells cs 3 fr)) (hv : v.ownBlock = none ∨ v.ownBlock ≠ row) : OwnR R w' base v rs := by
  obtain ⟨vs, hl, ho, hi⟩ := h
  exact ⟨vs, hl, ho.kept hg hv, fun j hj => (hi j hj).kept hg hr⟩
theorem OwnR.keep {R : Nat} {w w' : World} {base : Nat} {v : Value} {rs : List (List Int)} (h : OwnR R w base v rs) (hb : Below w.heap.size w w') : OwnR R w' base v rs :=
  h.kept (grown_below hb none) (fun g e => by cases e) (by cases v.ownBlock <;> simp)
theorem OwnR.nil {R : Nat} (w : World) (base : Nat) : OwnR R w base (.slice none 0 0) [] := ⟨[], rfl, ⟨rfl, .inl ⟨rfl, rfl⟩⟩, fun j hj => by simp at hj⟩
theorem IsI.other {R R' : Nat} {w : World} {v : Value} {zs : List Int} (h : IsI R w v zs) (hR : w.heap.size ≤ R') : IsI R' w v zs := by
  obtain ⟨A, c, e, h1, h2⟩ := h
  exact ⟨A, c, e, h1.other hR, h2⟩
theorem OwnR.other {R R' : Nat} {w : World} {base : Nat} {v : Value} {rs : List (List Int)} (h : OwnR R w base v rs) (hR : w.heap.size ≤ R') : OwnR R' w base v rs := by
  obtain ⟨vs, hl, ho, hi⟩ := h
  exact ⟨vs, hl, ho, fun j hj => (hi j hj).other hR⟩
/-- the row's block is one of slices -/
theorem OwnR.typed {R : Nat} {w : World} {base : Nat} {v : Value} {rs : List (List Int)} (h : OwnR R w base v rs) : ∀ g, v.ownBlock = some g → base ≤ g ∧ ∃ cs, w.heap[g]? = some (.cells cs 23 (0, 0)) := by
  intro g hg
  obtain ⟨vs, _, ho, _⟩ := h
  rcases ho.2 with ⟨rfl, _⟩ | ⟨g', cap, cur, rfl, hb, hc, _⟩
  · cases hg
  · simp only [Value.ownBlock, Option.some.injEq] at hg
    subst hg
    exact ⟨hb, cur, hc⟩
theorem OwnR.form {R : Nat} {w : World} {base : Nat} {v : Value} {rs : List (List Int)} (h : OwnR R w base v rs) : ∃ A c, v = .slice A rs.length c ∧ rs.length ≤ c ∧ (A = none → c = 0) := by
  obtain ⟨vs, _, ho, _⟩ := h
  rcases ho.2 with ⟨hv, h0⟩ | ⟨g, cap, cur, hv, _, _, h1, _⟩
  · exact ⟨none, 0, by rw [hv, h0], by omega, fun _ => rfl⟩
  · exact ⟨_, _, hv, h1, fun h => by cases h⟩
theorem OwnR.at_ {R : Nat} {w : World} {base : Nat} {A : Option Addr} {n c : Nat} {rs : List (List Int)} (h : OwnR R w base (.slice A n c) rs) {k : Nat} (hk : k < rs.length) :
    ∃ b v, A = some ⟨b, 0, none⟩ ∧ b < w.heap.size ∧ w.cell? ⟨b, k, none⟩ = some v ∧ IsI R w v (rowAt rs k) := by
  obtain ⟨vs, hl, ho, hi⟩ := h
  obtain ⟨g, cap, hv, _, hlt⟩ := ho.form (by omega)
  have hA : A = some ⟨g, 0, none⟩ := by injection hv
  subst hA
  refine ⟨g, vs.getD k undef, rfl, hlt, ?_, hi k hk⟩
  have hn : n = rs.length := by injection hv
  subst hn
  have := ho.cells (g := g) rfl k (vs.getD k undef) (by simp [hl, hk])
  rwa [Go.WideShapes.add_plain, Nat.zero_add] at this
theorem infoInts : (Tryd.prog.info? 23).map (fun i => (i.zero, i.size, i.bytes)) = some (some (.slice none 0 0), 1, 24) := by kernel_rfl
theorem rowAt_lt {rs : List (List Int)} {r : List Int} {j : Nat} (h : j < rs.length) : rowAt (rs ++ [r]) j = rowAt rs j := by
  unfold rowAt
  rw [List.getD_eq_getElem?_getD, List.getD_eq_getElem?_getD, List.getElem?_append_left h]
theorem rowAt_new {rs : List (List Int)} {r : List Int} : rowAt (rs ++ [r]) rs.length = r := by simp [rowAt]
/-- append(v, s), as a run: s lies in the newest block -/
theorem appendR (ty : TypeId) {R : Nat} {w : World} {base : Nat} {v : Value} {rs : List (List Int)} (h : OwnR R w base v rs) {s : Value} {r : List Int} (hs : IsI R w s r) (hone : s.oneCell' = true) (hl : rs.length + 1 ≤ 1000000) (hb : base ≤ w.heap.size) :
    ∃ v' w', (Builtin.append_ #[24, 24] ty #[v, .slice (some ⟨w.heap.size, 0, none⟩) 1 1]).run Tryd.prog (w.alloc (.cells #[s] 23)) = .ok v' w' ∧ OwnR R w' base v' (rs ++ [r]) ∧ (w.alloc (.cells #[s] 23)).grownBy w' v.ownBlock ∧ (v'.ownBlock = v.ownBlock ∨ ∃ g, v'.ownBlock = some g ∧ (w.alloc (.cells #[s] 23)).heap.size ≤ g) := by
  obtain ⟨i0, hi, hz0, hz1, hz2⟩ := info_parts infoInts
  have hbx := bBox w (.cells #[s] 23)
  have htyp := h.typed
  have h' := h.keep hbx
  have hs' := hs.keep hbx
  obtain ⟨vs, hvl, ho, hii⟩ := h'
  obtain ⟨v', w', hrun, hown', hg, _, hloc⟩ := run_append_own_at (P := Tryd.prog) (w.alloc (.cells #[s] 23)) base 24 ty 23 i0 (.slice none 0 0) 1 24 Tryd.underlying24 hi hz0 hz1 hz2 rfl (by decide) v rs.length vs ho ⟨w.heap.size, 0, none⟩ 1 1 [s] rfl
    (fun j u hu => by
      match j, hu with
      | 0, hu =>
        simp at hu
        subst hu
        exact cell_box w _ _ 0) (fun u hu => by simp at hu; subst hu; exact hone) (by unfold maxLen; omega) (by omega) (Nat.le_trans hb hbx.size)
  have hnotint : ∀ g, v.ownBlock = some g → g = R ∨ ∀ cs fr, (w.alloc (.cells #[s] 23)).heap[g]? ≠ some (.cells cs 3 fr) := by
    intro g e
    right
    obtain ⟨_, cs, hc⟩ := htyp g e
    intro cs' fr' hc'
    rw [hbx.block g (Array.getElem?_eq_some_iff.1 hc).1, hc] at hc'
    injection hc' with hc'
    injection hc' with _ e2
    exact absurd e2 (by decide)
  refine ⟨v', w', hrun, ⟨vs ++ [s], by simp [hvl], ?_, fun j hj => ?_⟩, hg, ?_⟩
  · rw [List.length_append]
    exact hown'
  · by_cases hlt : j < rs.length
    · rw [rowAt_lt hlt, List.getD_eq_getElem?_getD, List.getElem?_append_left (by omega), ← List.getD_eq_getElem?_getD]
      exact (hii j hlt).kept hg hnotint
    · obtain rfl : j = rs.length := by simp at hj; omega
      rw [rowAt_new, List.getD_eq_getElem?_getD, List.getElem?_append_right (by omega), hvl, Nat.sub_self]
      exact hs'.kept hg hnotint
  · rcases hloc with e | e
    · exact .inl e
    · exact .inr ⟨_, e, Nat.le_refl _⟩
/-- .. as a step of a walk -/
theorem wpR {ops : Array Oper} {rest : List Oper} {o : Oper} {a : Act} {Q : Exit → Act → World → Prop} {R : Nat} {W : World} (hgd : o.guard = none) (s x : Operand) (ho : o.op = .call { callee := .builtin .append, args := #[s, x], argTypes := #[24, 24] })
    {base : Nat} {v : Value} {rs : List (List Int)} (hs : a.eval s = v) (h : OwnR R W base v rs) {sv : Value} {r : List Int} (hsr : IsI R W sv r) (hone : sv.oneCell' = true) (hx : a.eval x = .slice (some ⟨W.heap.size, 0, none⟩) 1 1) (hl : rs.length + 1 ≤ 1000000) (hb : base ≤ W.heap.size)
    (hK : ∀ v' w', Hid (OwnR R w' base v' (rs ++ [r])) → Hid ((W.alloc (.cells #[sv] 23)).grownBy w' v.ownBlock) → Hid (v'.ownBlock = v.ownBlock ∨ ∃ g, v'.ownBlock = some g ∧ (W.alloc (.cells #[sv] 23)).heap.size ≤ g) → wpList Tryd.prog ops Q rest (a.put o.dst v') w') : wpList Tryd.prog ops Q (o :: rest) a (W.alloc (.cells #[sv] 23)) := by
  refine wpList_plain hgd fun K hk => ?_
  obtain ⟨v', w', hr, h2, h3, h4⟩ := appendR o.type h hsr hone hl hb
  unfold Oper.wp execOp
  simp only [ho, resolve, invoke, builtin, Sem.run_bind, Sem.run_pure, Result.andThen_ok, List.map_toArray, List.map_cons, List.map_nil, hs, hx, hr]
  exact hk _ _ (hK v' w' (Lib.hid h2) (Lib.hid h3) (Lib.hid h4))
end Go.Proofs.YtlmdjggpeiddoaaDoor
namespace Go.Proofs.YtlmdjggpeiddoaaDoor
open Go.RowKit Go.Sort

/-- the table that AppendInt reads -/
def EnvB (w : World) : Prop := Lib.TabIs Tryd.prog w "internal/strconv.uint64pow10" .u64 Lib.pow10Tab
theorem EnvB.keep {w w' : World} (h : EnvB w) (hb : Below w.heap.size w w') : EnvB w' := Lib.tabBelow_of_tabIs h w' hb
/-- the key of a set -/
def keyS (zs : List Int) : List UInt8 := zs.flatMap fun z => Lib.itoa z ++ [32]
theorem keyS_snoc {zs : List Int} {k : Nat} (h : k < zs.length) : keyS (zs.take (k + 1)) = keyS (zs.take k) ++ Lib.itoa (nth zs k) ++ [32] := by
  rw [take_step h]
  simp [keyS]
theorem keyS_len {zs : List Int} (hz : WfInts zs) : ∀ k, k ≤ zs.length → (keyS (zs.take k)).length ≤ 22 * k
  | 0, _ => by simp [keyS]
  | k + 1, h => by
    have ih := keyS_len hz k (by omega)
    have hw := hz _ (nth_mem (zs := zs) (k := k) (by omega))
    have := Lib.itoa_length_le (nth zs k) hw.1 hw.2
    rw [keyS_snoc (by omega)]
    simp
    omega
theorem infoByte : (Tryd.prog.info? 5).map (fun i => (i.zero, i.size, i.bytes)) = some (some (.int .u8 0), 1, 1) := by kernel_rfl
theorem bytes_conv {w : World} {base : Nat} {v : Value} {l : List UInt8} (h : w.ownsRow base 5 1 v l.length (Lib.byteCells l)) : (convert 116 9 v).run Tryd.prog w = .ok (.string ⟨l.toArray⟩) w := by
  rcases h.2 with ⟨rfl, h0⟩ | ⟨g, cap, cur, rfl, _, hc, _, _, _, ht⟩
  · obtain rfl : l = [] := List.length_eq_zero_iff.1 h0
    kernel_rfl
  · refine run_convert_bytes_back (P := Tryd.prog) w 116 9 5 ⟨g, 0, none⟩ cap l Tryd.underlying116 Tryd.underlying5 Tryd.underlying9 (fun j hj => ?_)
    have := h.cells (g := g) rfl j (.int .u8 l[j].toNat) (by simp [Lib.byteCells, hj])
    rwa [Go.WideShapes.add_plain, Nat.zero_add] at this ⊢

set_option maxHeartbeats 4000000 in
set_option maxRecDepth 100000 in
theorem setKey (zs : List Int) (A : Option Addr) (c : Nat) (w : World) (hA : IntsAt w A zs) (hwf : WfInts zs) (hl : zs.length ≤ 1000) (hE : EnvB w) :
    Calls Tryd.prog 57 #[.slice A zs.length c] w fun e w' => e = .returned (.string ⟨(keyS zs).toArray⟩) ∧ Below w.heap.size w w' := by
  have HT := Lib.hid (Lib.tabBelow_of_tabIs hE)
  have HA := Lib.hid hA
  have Hwf := Lib.hid hwf
  clear hA hwf
  clear hE
  go_enter Tryd.func57, Tryd.ntmps57
  go_wp2_with fail
  go_loopw [8, 3] (fun i o' wr => ∃ (k : Nat) (o : Value), k ≤ zs.length ∧ i = .int .i64 k ∧ o = o' ∧ Hid (wr.ownsRow w.heap.size 5 1 o (keyS (zs.take k)).length (Lib.byteCells (keyS (zs.take k)))) ∧ Below w.heap.size w wr) (fun i _ _ => zs.length - (intOf i).toNat)
  case atStart => exact ⟨0, _, Nat.zero_le _, rfl, rfl, Lib.hid ⟨rfl, .inl ⟨rfl, rfl⟩⟩, Below.refl _ _⟩
  case round =>
    obtain ⟨k, o, hk, rfl, rfl, HO, hbr⟩ := hrel
    by_cases hlt : k < zs.length
    · have hki : (k : Int) < zs.length := by omega
      obtain ⟨b, off, rfl, hb, hc⟩ := (HA.out.keep hbr).at_ hlt
      obtain ⟨hw0, hw1⟩ := Hwf.out _ (nth_mem hlt)
      have hkl := keyS_len Hwf.out k hk
      have hil := Lib.itoa_length_le (nth zs k) hw0 hw1
      have HS := Lib.hid (keyS_snoc hlt)
      generalize nth zs k = z at hc hw0 hw1 hil HS
      generalize keyS (zs.take k) = q at HO hkl HS
      have HC := Lib.hid (Tryd.strconv_AppendInt_10 w.heap.size q.length z hw0 hw1 o (Lib.byteCells q) wr HO.out hbr.size (by omega) (HT.out.on hbr))
      have hsz := hbr.size
      go_wp2_with fail
      refine HC.out.mono ?_
      rintro e w2 ⟨v2, rfl, hO2, hb2, _⟩
      have HO2 := Lib.hid hO2
      have hb3 := hbr.trans hb2
      have hsz3 := hb3.size
      have H1 := Lib.hid (bBox w2 (.cells #[.int .u8 32] 5))
      clear hO2 hb2
      have hn1 : q.length + (Lib.itoa z).length + 1 ≤ maxLen := by unfold maxLen; omega
      have hn2 : (q.length + (Lib.itoa z).length + 1) * 1 ≤ 140737488355328 := by omega
      have hn3 : w.heap.size ≤ (w2.alloc (.cells #[.int .u8 32] 5)).heap.size := by simp; omega
      obtain ⟨i0, hi, hz0, hz1, hz2⟩ := info_parts infoByte
      have HO3 := Lib.hid (World.ownsRow.kept HO2.out (grown_below H1.out none) (by cases v2.ownBlock <;> simp))
      have HIh := Lib.hid hi
      have HZ0 := Lib.hid hz0
      have HZ1 := Lib.hid hz1
      have HZ2 := Lib.hid hz2
      clear hi hz0 hz1 hz2
      have hcell : ∀ (j : Nat) u, ([Value.int .u8 32])[j]? = some u → (w2.alloc (.cells #[.int .u8 32] 5)).cell? ((⟨w2.heap.size, 0, none⟩ : Addr).add j) = some u := by
        intro j u hu
        match j, hu with
        | 0, hu =>
          simp at hu
          subst hu
          exact cell_box w2 _ _ 0
      have HCe := Lib.hid hcell
      clear hcell
      go_wp2_with (at_builtin; refine wpList_append_own _ rfl _ _ 116 rfl w.heap.size 5 i0 (.int .u8 0) 1 1 Tryd.underlying116 HIh.out HZ0.out HZ1.out HZ2.out rfl (by decide) v2 _ _ rfl HO3.out ⟨w2.heap.size, 0, none⟩ 1 1 [.int .u8 32] rfl rfl HCe.out ?c1 hn1 hn2 hn3 ?_)
      case c1 => intro u hu; simp at hu; subst hu; rfl
      intro v4 w4 hown4 hg4 _
      have HO4 := Lib.hid hown4
      have hb5 : Below w.heap.size w w4 := (hb3.alloc hsz3 (.cells #[.int .u8 32] 5)).grown hg4 hn3 (fun k hk => (HO2.out.lt k hk).1)
      clear hown4 hg4
      go_wp2_with fail
      go_roundw
      case rel =>
        refine ⟨k + 1, v4, by omega, by go_num, rfl, Lib.hid ?_, hb5⟩
        rw [HS.out]
        have := HO4.out
        simpa [Lib.byteCells, Nat.add_assoc] using this
      case measure => simp [intOf]; omega
    · obtain rfl : k = zs.length := by omega
      have hki : ¬ (zs.length : Int) < zs.length := by omega
      have hcv : (convert 116 9 o).run Tryd.prog wr = .ok (.string ⟨(keyS zs).toArray⟩) wr := by
        have := bytes_conv HO.out
        rwa [List.take_length] at this
      clear HO
      go_wp2_with fail
      go_ret
      exact ⟨rfl, hbr⟩

theorem ended (zs : List Int) (A : Option Addr) (c : Nat) (w : World) (hA : IntsAt w A zs) (hl : zs.length ≤ 1000) :
    Calls Tryd.prog 58 #[.slice A zs.length c] w fun e w' => e = .returned (.bool (decide (zs = [0]))) ∧ w = w' := by
  by_cases h1 : zs.length = 1
  · obtain ⟨b, off, rfl, hb, hc⟩ := hA.at_ (k := 0) (by omega)
    match zs, h1 with
    | [z], _ =>
      have hc : w.cell? ⟨b, off, none⟩ = some (.int .i64 z) := hc
      by_cases hz : z = 0
      · subst hz
        go_enter Tryd.func58, Tryd.ntmps58
        go_wp2_with fail
        go_ret
        exact ⟨rfl, rfl⟩
      · have t1 : (z == 0) = false := by simpa using hz
        have HV := Lib.hid (show decide ([z] = [(0 : Int)]) = false by simp [hz])
        clear hz
        go_enter Tryd.func58, Tryd.ntmps58
        go_wp2_with fail
        go_ret
        exact ⟨by rw [HV.out]; rfl, rfl⟩
  · have t1 : ((zs.length : Int) == 1) = false := by simp; omega
    have t2 : (zs.length == 1) = false := by simpa using h1
    have HV := Lib.hid (show decide (zs = [(0 : Int)]) = false by
      apply decide_eq_false
      intro e
      rw [e] at h1
      exact h1 rfl)
    clear h1 hA
    go_enter Tryd.func58, Tryd.ntmps58
    go_wp2_with fail
    go_ret
    exact ⟨by rw [HV.out]; rfl, rfl⟩
end Go.Proofs.YtlmdjggpeiddoaaDoor
namespace Go.Proofs.YtlmdjggpeiddoaaDoor
open Go.RowKit Go.Sort

theorem OwnI.isI {R : Nat} {w : World} {base : Nat} {v : Value} {zs : List Int} (h : OwnI w base v zs) (hR : R < base) : IsI R w v zs := by
  rcases h.2 with ⟨rfl, h0⟩ | ⟨g, cap, cur, rfl, hb, hc, h1, _, _, ht⟩
  · obtain rfl : zs = [] := List.length_eq_zero_iff.1 h0
    exact ⟨none, 0, rfl, IntsT.nil, Nat.le_refl _, fun _ => rfl⟩
  · refine ⟨some ⟨g, 0, none⟩, cap, rfl, fun hz => ⟨g, 0, cur, (0, 0), rfl, by omega, hc, fun j hj => ?_⟩, h1, fun h => by cases h⟩
    have h2 : (cur.toList.take (zs.length * 1))[j]? = some (.int .i64 (nth zs j)) := by rw [ht]; simp [intVals, nth, hj]
    rw [List.getElem?_take_of_lt (by omega)] at h2
    simpa using h2
theorem below_put {w : World} {base g n : Nat} (os : Array Obj) (d : Array Int) (hg : base ≤ g) (hlt : base ≤ w.heap.size) : Below base w (grow (putRow (Value.int .i64) (Sort.ahead w n) g 0 d) os) := by
  refine ⟨rfl, rfl, rfl, by simp [grow, putRow, mapBlock, Sort.ahead], fun k hk => ?_⟩
  rw [heap_grow_old _ _ (by simp [putRow, mapBlock, Sort.ahead]; omega)]
  have : g ≠ k := by omega
  simp [putRow, mapBlock, Sort.ahead, Array.getElem?_modify, this]
theorem below_grow (w : World) (os : Array Obj) : Below w.heap.size w (grow w os) := ⟨rfl, rfl, rfl, by simp [grow], fun k hk => heap_grow_old w os hk⟩
/-- sorting one number -/
theorem sort1 {w : World} {base : Nat} {A : Option Addr} {c : Nat} {zs : List Int} (h : OwnI w base (.slice A zs.length c) zs) (hl : zs.length ≤ 1) (hb : base ≤ w.heap.size) :
    Calls Tryd.prog 79 #[.slice A zs.length c] w fun e w' => e = .returned (.tuple #[]) ∧ OwnI w' base (.slice A zs.length c) zs ∧ Below base w w' := by
  have h0 := h
  rcases h.2 with ⟨hv, hz⟩ | ⟨g, cap, cur, hv, hbase, hc, h1, h2, h3, h4⟩
  · obtain rfl : zs = [] := List.length_eq_zero_iff.1 hz
    refine (Any.slices_Sort_int_none Tryd.lays189 A c w).mono ?_
    rintro e w' ⟨he, rfl⟩
    exact ⟨he, h0, Below.refl _ _⟩
  · injection hv with e1 _ e3
    subst e1 e3
    have hh : Holds (Value.int .i64) w g 0 zs.toArray := by
      intro j hj
      have hj' : j < zs.length := by simpa using hj
      have hc2 := World.ownsRow.cells h0 (g := g) rfl j (.int .i64 zs[j]) (by simp [intVals, hj'])
      rw [Go.WideShapes.add_plain] at hc2
      exact ⟨by rw [hc2]; simp [hj'], by simp [World.frozen?, hc]⟩
    have hlt : g < w.heap.size := (Array.getElem?_eq_some_iff.1 hc).1
    refine (Tryd.slices_Sort_int g 0 c zs w hh hlt (by omega)).mono ?_
    rintro e w' ⟨he, n, os, rfl⟩
    have hs : (zs.mergeSort fun x y => decide (x ≤ y)) = zs := by
      match zs, hl with
      | [], _ => simp
      | [z], _ => simp
    rw [hs]
    refine ⟨he, ?_, below_put os _ hbase hb⟩
    have e2 : putRow (Value.int .i64) (Sort.ahead w n) g 0 zs.toArray = Sort.ahead w n := putRow_self _ _ _ _ _ (holds_ahead _ _ n _ _ _ hh)
    rw [e2]
    exact OwnI.keep (w := Sort.ahead w n) h0 (below_grow _ os)
end Go.Proofs.YtlmdjggpeiddoaaDoor
namespace Go.Proofs.YtlmdjggpeiddoaaDoor
open Go.RowKit Go.Sort

/-- the net of a pattern of one class k: the end, and a node that reads k and leads to the end -/
structure NetB where
  nd : Nat
  c : Nat
  bk : Bool
  cl : Nat
  oc : Nat
  cc : Nat
  t : Nat
  ot : Nat
  ct : Nat
structure NetC (w : World) (N : Nat) (k : Int) (b : NetB) : Prop where
  n0 : w.cell? ⟨N, 0, none⟩ = some (.slice (some ⟨b.nd, 0, none⟩) 2 b.c)
  n1 : w.cell? ⟨N, 1, none⟩ = some (.bool b.bk)
  d0 : w.cell? ⟨b.nd, 0, none⟩ = some (.slice none 0 0)
  d1 : w.cell? ⟨b.nd, 1, none⟩ = some (.slice none 0 0)
  d2 : w.cell? ⟨b.nd, 2, none⟩ = some (.slice (some ⟨b.cl, b.oc, none⟩) 1 b.cc)
  d3 : w.cell? ⟨b.nd, 3, none⟩ = some (.slice (some ⟨b.t, b.ot, none⟩) 1 b.ct)
  ck : w.cell? ⟨b.cl, b.oc, none⟩ = some (.int .i64 k)
  tk : w.cell? ⟨b.t, b.ot, none⟩ = some (.int .i64 0)
theorem NetC.keep {w w' : World} {N : Nat} {k : Int} {b : NetB} (h : NetC w N k b) (hb : Below w.heap.size w w') : NetC w' N k b :=
  ⟨cell_keep hb h.n0, cell_keep hb h.n1, cell_keep hb h.d0, cell_keep hb h.d1, cell_keep hb h.d2, cell_keep hb h.d3, cell_keep hb h.ck, cell_keep hb h.tk⟩
theorem infoBool : (Tryd.prog.info? 4).map (fun i => (i.zero, i.size, i.bytes)) = some (some (.bool false), 1, 1) := by kernel_rfl
theorem made_rep (z : Value) (n : Nat) : madeCells #[z] n = (List.replicate n z).toArray := by
  unfold madeCells
  apply Array.ext
  · simp
  · intro i h1 h2
    simp [Nat.mod_one]
theorem makeB2 (w : World) : (Instr.makeSlice 65 (.int .i64 2) (.int .i64 2)).run Tryd.prog w = .ok (.slice (some ⟨w.heap.size, 0, none⟩) 2 2) (w.alloc (.cells #[.bool false, .bool false] 4)) := by
  obtain ⟨i0, hi, hz0, hz1, hz2⟩ := info_parts infoBool
  have := run_make (P := Tryd.prog) w 65 4 i0 _ Tryd.underlying65 hi hz0 .i64 .i64 2 2 (by omega) (by omega) (by rw [hz2]; omega) (by omega)
  rw [hz1] at this
  rw [this, show (Value.bool false).cells = #[.bool false] from rfl, made_rep]
  rfl
/-- the ending is a slice of ints of the call's own -/
def OwnOut (zs : List Int) (w : World) (e : Ending) (w' : World) : Prop := ∃ v, e = .returned v ∧ Hid (OwnI w' w.heap.size v zs) ∧ Below w.heap.size w w'

set_option maxHeartbeats 8000000 in
set_option maxRecDepth 100000 in
theorem clos1 (N : Nat) (k : Int) (b : NetB) (A : Option Addr) (c : Nat) (w : World) (hN : NetC w N k b) (hA : IntsAt w A [1]) :
    Calls Tryd.prog 61 #[.pointer (some ⟨N, 0, none⟩), .slice A 1 c] w (OwnOut [1] w) := by
  have hmk := makeB2
  obtain ⟨n0, n1, d0, d1, d2, d3, ck, tk⟩ := hN
  obtain ⟨b0, o0, rfl, hb0, ca⟩ := hA.at_ (k := 0) (by simp)
  have HC := Lib.hid (fun w' (h : ∀ j, j < ([1] : List Int).length → w'.cell? ⟨b0, o0 + j, none⟩ = some (.int .i64 (([1] : List Int).getD j 0))) => Tryd.slices_Clone_int b0 o0 1 c [1] w' (by simp) (by omega) h)
  have HA := Lib.hid hA
  clear hA
  go_enter Tryd.func61, Tryd.ntmps61
  go_wp2_with fail
  refine (HC.out _ ?_).mono ?_
  · intro j hj
    match j, hj with
    | 0, _ => exact cell_keep (bBox w _) ca
  rintro e w2 ⟨v2, rfl, hO, _, hb2⟩
  clear HC
  have hO : OwnI w2 (w.alloc (.cells #[.bool false, .bool false] 4)).heap.size v2 [1] := hO
  obtain ⟨A2, c2, rfl⟩ := hO.form
  obtain ⟨b2, o2, rfl, hb2l, ct⟩ := hO.ints.at_ (k := 0) (by simp)
  have hc2 := hO.cap.2
  have hbx := bBox w (.cells #[.bool false, .bool false] 4)
  have hw2 := bUp hbx hb2
  have ct : w2.cell? ⟨b2, o2, none⟩ = some (.int .i64 1) := ct
  have s1 : w2.cell? ⟨w.heap.size, 1, none⟩ = some (.bool false) := cell_keep hb2 (cell_box w #[.bool false, .bool false] 4 1)
  have hk2 := Lib.hid ((Blk.new w #[.bool false, .bool false] 4).keep hb2)
  obtain ⟨A', hsl0, -, -⟩ := sliceHi (some ⟨b2, o2, none⟩) [1] c2 0 (by simp) hc2 (fun h => by cases h)
  have hsl : ∀ w, (Instr.slice 23 (.slice (some ⟨b2, o2, none⟩) 1 c2) none (some (.int .i64 0)) none).run Tryd.prog w = .ok (.slice A' 0 c2) w := hsl0
  clear hsl0
  have e2 : w2.cell? ⟨b.nd, 2, none⟩ = some (.slice (some ⟨b.cl, b.oc, none⟩) 1 b.cc) := cell_keep hw2 d2
  have e0 : w2.cell? ⟨N, 0, none⟩ = some (.slice (some ⟨b.nd, 0, none⟩) 2 b.c) := cell_keep hw2 n0
  have f1 := hk2.out.frozen 1
  have hsz := hw2.size
  have hlN := block_lt_of_cell e0
  have hlD := block_lt_of_cell e2
  have hls := block_lt_of_cell s1
  clear hO
  go_wp2_with fail
  have hbase : ∀ u o, w.heap.size ≤ ((w2.setCell ⟨w.heap.size, 1, none⟩ u).alloc o).heap.size := fun u o => by simp; omega
  have hone : 0 < ([1] : List Int).length := by simp
  have hlen : ([] : List Int).length + ([1] : List Int).length ≤ 1000000 := by simp
  have hI : IntsAt ((w2.setCell ⟨w.heap.size, 1, none⟩ (.bool true)).alloc (.cells #[.int .i64 1] 3)) (some ⟨w2.heap.size, 0, none⟩) [1] := by
    have := ints_new (w2.setCell ⟨w.heap.size, 1, none⟩ (.bool true)) [1] 3
    rw [show (w2.setCell ⟨w.heap.size, 1, none⟩ (.bool true)).heap.size = w2.heap.size by simp] at this
    exact this
  have HI := Lib.hid hI
  clear hI
  refine wp_loop_rounds 2 ?_
  rw [rounds_succ]
  go_wp2_with (at_builtin; refine wpI rfl _ _ rfl w.heap.size rfl (OwnI.nil _ _) [1] rfl HI.out hone hlen (hbase _ _) ?_)
  intro v3 w3 hO3 hb3
  have hb4 := hb3 w (((hw2.setCell (p := ⟨w.heap.size, 1, none⟩) (Nat.le_refl _) (.bool true))).alloc (by simpa using hw2.size) _)
  clear hb3
  obtain ⟨A3, c3, rfl⟩ := hO3.out.form
  have HSo := Lib.hid (sort1 hO3.out (by simp) hb4.size)
  go_wp2_with fail
  rw [rounds_succ]
  go_wp2_with fail
  refine HSo.out.mono ?_
  rintro e w5 ⟨rfl, hO5, hb5⟩
  go_wp2_with fail
  go_ret
  exact ⟨_, rfl, Lib.hid hO5, hb4.trans hb5⟩

set_option maxHeartbeats 8000000 in
set_option maxRecDepth 100000 in
theorem clos0 (N : Nat) (k : Int) (b : NetB) (A : Option Addr) (c : Nat) (w : World) (hN : NetC w N k b) (hA : IntsAt w A [0]) :
    Calls Tryd.prog 61 #[.pointer (some ⟨N, 0, none⟩), .slice A 1 c] w (OwnOut [0] w) := by
  have hmk := makeB2
  obtain ⟨n0, n1, d0, d1, d2, d3, ck, tk⟩ := hN
  obtain ⟨b0, o0, rfl, hb0, ca⟩ := hA.at_ (k := 0) (by simp)
  have HC := Lib.hid (fun w' (h : ∀ j, j < ([0] : List Int).length → w'.cell? ⟨b0, o0 + j, none⟩ = some (.int .i64 (([0] : List Int).getD j 0))) => Tryd.slices_Clone_int b0 o0 1 c [0] w' (by simp) (by omega) h)
  have HA := Lib.hid hA
  clear hA
  go_enter Tryd.func61, Tryd.ntmps61
  go_wp2_with fail
  refine (HC.out _ ?_).mono ?_
  · intro j hj
    match j, hj with
    | 0, _ => exact cell_keep (bBox w _) ca
  rintro e w2 ⟨v2, rfl, hO, _, hb2⟩
  clear HC
  have hO : OwnI w2 (w.alloc (.cells #[.bool false, .bool false] 4)).heap.size v2 [0] := hO
  obtain ⟨A2, c2, rfl⟩ := hO.form
  obtain ⟨b2, o2, rfl, hb2l, ct⟩ := hO.ints.at_ (k := 0) (by simp)
  have hc2 := hO.cap.2
  have hbx := bBox w (.cells #[.bool false, .bool false] 4)
  have hw2 := bUp hbx hb2
  have ct : w2.cell? ⟨b2, o2, none⟩ = some (.int .i64 0) := ct
  have s1 : w2.cell? ⟨w.heap.size, 0, none⟩ = some (.bool false) := cell_keep hb2 (cell_box w #[.bool false, .bool false] 4 0)
  have hk2 := Lib.hid ((Blk.new w #[.bool false, .bool false] 4).keep hb2)
  obtain ⟨A', hsl0, -, -⟩ := sliceHi (some ⟨b2, o2, none⟩) [0] c2 0 (by simp) hc2 (fun h => by cases h)
  have hsl : ∀ w, (Instr.slice 23 (.slice (some ⟨b2, o2, none⟩) 1 c2) none (some (.int .i64 0)) none).run Tryd.prog w = .ok (.slice A' 0 c2) w := hsl0
  clear hsl0
  have f1 := hk2.out.frozen 0
  have hls := block_lt_of_cell s1
  clear hO
  go_wp2_with fail
  refine wp_loop_rounds 2 ?_
  rw [rounds_succ]
  go_wp2_with fail
  go_ret
  refine ⟨_, rfl, Lib.hid ?_, (hw2.setCell (p := ⟨w.heap.size, 0, none⟩) (Nat.le_refl _) (.bool true)).alloc (by simpa using hw2.size) _⟩
  have := OwnI.lit (w2.setCell ⟨w.heap.size, 0, none⟩ (.bool true)) w.heap.size [0] (by simpa using hw2.size) (by decide)
  rw [show (w2.setCell ⟨w.heap.size, 0, none⟩ (.bool true)).heap.size = w2.heap.size by simp] at this
  exact this

set_option maxHeartbeats 8000000 in
set_option maxRecDepth 100000 in
theorem closN (N : Nat) (k : Int) (b : NetB) (w : World) (hN : NetC w N k b) :
    Calls Tryd.prog 61 #[.pointer (some ⟨N, 0, none⟩), .slice none 0 0] w (OwnOut [] w) := by
  have hmk := makeB2
  obtain ⟨n0, n1, d0, d1, d2, d3, ck, tk⟩ := hN
  have HC := Lib.hid (fun w' => Tryd.slices_Clone_int_nil 0 0 w')
  have HS := Lib.hid (fun w' => Tryd.slices_Sort_int_none none 0 w')
  go_enter Tryd.func61, Tryd.ntmps61
  go_wp2_with fail
  refine (HC.out _).mono ?_
  rintro e w2 ⟨rfl, rfl⟩
  go_wp2_with fail
  refine wp_loop_rounds 1 ?_
  rw [rounds_succ]
  go_wp2_with fail
  refine (HS.out _).mono ?_
  rintro e w5 ⟨rfl, rfl⟩
  go_wp2_with fail
  go_ret
  exact ⟨_, rfl, Lib.hid (OwnI.nil _ _), bBox _ _⟩
end Go.Proofs.YtlmdjggpeiddoaaDoor
namespace Go.Proofs.YtlmdjggpeiddoaaDoor
open Go.RowKit Go.Sort

/-- where a set of nodes leads by reading c -/
def stepF (k : Int) (s : List Int) (c : Int) : List Int := if s = [0] then [0] else if s = [1] ∧ c = k then [0] else []
/-- the ending is a slice of ints -/
def IsOut (R : Nat) (zs : List Int) (w : World) (e : Ending) (w' : World) : Prop := ∃ v, e = .returned v ∧ Hid (IsI R w' v zs) ∧ Below w.heap.size w w'
theorem OwnOut.isOut {R : Nat} {zs : List Int} {w0 w : World} {e : Ending} {w' : World} (h : OwnOut zs w e w') (hR : R < w0.heap.size) (hb : Below w0.heap.size w0 w) : IsOut R zs w0 e w' := by
  obtain ⟨v, he, hO, hb2⟩ := h
  exact ⟨v, he, Lib.hid (hO.out.isI (Nat.lt_of_lt_of_le hR hb.size)), bUp hb hb2⟩

set_option maxHeartbeats 8000000 in
set_option maxRecDepth 100000 in
theorem step0 (N : Nat) (c : Int) (v : Value) (R : Nat) (w : World) (hv : IsI R w v [0]) :
    Calls Tryd.prog 59 #[.pointer (some ⟨N, 0, none⟩), v, .int .i64 c] w (IsOut R [0] w) := by
  have hv0 := hv
  obtain ⟨A, cp, rfl, hA, _, _⟩ := hv
  have HE := Lib.hid (ended [0] A cp w hA.ints (by simp))
  rw [show decide ([(0 : Int)] = [0]) = true from rfl] at HE
  have HA := Lib.hid hA
  have Hv0 := Lib.hid hv0
  clear hA hv0
  go_enter Tryd.func59, Tryd.ntmps59
  go_wp2_with fail
  refine HE.out.mono ?_
  rintro e w1 ⟨rfl, rfl⟩
  go_wp2_with fail
  go_ret
  exact ⟨_, rfl, Hv0, Below.refl _ _⟩

set_option maxHeartbeats 8000000 in
set_option maxRecDepth 100000 in
theorem stepN (N : Nat) (k c : Int) (b : NetB) (A : Option Addr) (cp : Nat) (R : Nat) (w : World) (hN : NetC w N k b) (hR : R < w.heap.size) :
    Calls Tryd.prog 59 #[.pointer (some ⟨N, 0, none⟩), .slice A 0 cp, .int .i64 c] w (IsOut R [] w) := by
  have HE := Lib.hid (ended [] A cp w IntsAt.nil (by simp))
  rw [show decide (([] : List Int) = [0]) = false from rfl] at HE
  have HC := Lib.hid (closN N k b w hN)
  clear hN
  go_enter Tryd.func59, Tryd.ntmps59
  go_wp2_with fail
  refine HE.out.mono ?_
  rintro e w1 ⟨rfl, rfl⟩
  go_wp2_with fail
  refine wp_loop_rounds 1 ?_
  rw [rounds_succ]
  go_wp2_with fail
  refine HC.out.mono ?_
  intro e w1 h
  have hh := h.isOut hR (Below.refl _ _)
  obtain ⟨v, rfl, hO, hb⟩ := hh
  clear h
  go_wp2_with fail
  go_ret
  exact ⟨v, rfl, hO, hb⟩

set_option maxHeartbeats 8000000 in
set_option maxRecDepth 100000 in
theorem step1 (N : Nat) (k c : Int) (b : NetB) (v : Value) (R : Nat) (w : World) (hN : NetC w N k b) (hv : IsI R w v [1]) (hR : R < w.heap.size) :
    Calls Tryd.prog 59 #[.pointer (some ⟨N, 0, none⟩), v, .int .i64 c] w (IsOut R (stepF k [1] c) w) := by
  obtain ⟨A, cp, rfl, hA, _, _⟩ := hv
  have HE := Lib.hid (ended [1] A cp w hA.ints (by simp))
  rw [show decide ([(1 : Int)] = [0]) = false from rfl] at HE
  obtain ⟨b0, o0, rfl, hb0, ca⟩ := hA.ints.at_ (k := 0) (by simp)
  have ca : w.cell? ⟨b0, o0, none⟩ = some (.int .i64 1) := ca
  have HCn := Lib.hid (closN N k b w hN)
  have HC0 := Lib.hid (fun A' c' w' (hb : Below w.heap.size w w') h => clos0 N k b A' c' w' (hN.keep hb) h)
  obtain ⟨n0, n1, d0, d1, d2, d3, ck, tk⟩ := hN
  have HK := Lib.hid (Tryd.slices_Contains_int b.cl b.oc 1 b.cc [k] c w (by simp) (by omega) (by
    intro j hj
    match j, hj with
    | 0, _ => exact ck))
  have ht : IntsAt w (some ⟨b.t, b.ot, none⟩) [0] := by
    intro _
    refine ⟨b.t, b.ot, rfl, block_lt_of_cell tk, fun j hj => ?_⟩
    match j, hj with
    | 0, _ => exact tk
  have HT := Lib.hid ht
  clear ht hA
  by_cases hck : c = k
  · rw [show stepF k [1] c = [0] by unfold stepF; rw [if_neg (by simp), if_pos ⟨rfl, hck⟩]]
    rw [show (([k] : List Int).take 1).contains c = true by simp [hck]] at HK
    clear hck
    have hone : 0 < ([0] : List Int).length := by simp
    have hlen : ([] : List Int).length + ([0] : List Int).length ≤ 1000000 := by simp
    go_enter Tryd.func59, Tryd.ntmps59
    go_wp2_with fail
    refine HE.out.mono ?_
    rintro e w1 ⟨rfl, rfl⟩
    go_wp2_with fail
    refine wp_loop_rounds 2 ?_
    rw [rounds_succ]
    go_wp2_with fail
    refine HK.out.mono ?_
    rintro e w1 ⟨rfl, rfl⟩
    go_wp2_with (at_builtin; refine wpI rfl _ _ rfl w1.heap.size rfl (OwnI.nil _ _) [0] rfl HT.out hone hlen (Nat.le_refl _) ?_)
    intro v3 w3 hO3 hb3
    have hb4 := hb3 w1 (Below.refl _ _)
    clear hb3
    obtain ⟨A3, c3, rfl⟩ := hO3.out.form
    have HC := Lib.hid (HC0.out A3 c3 w3 hb4 hO3.out.ints)
    go_wp2_with fail
    rw [rounds_succ]
    go_wp2_with fail
    refine HC.out.mono ?_
    intro e w5 h
    have hh := h.isOut hR hb4
    obtain ⟨v, rfl, hO, hb⟩ := hh
    clear h
    go_wp2_with fail
    go_ret
    exact ⟨v, rfl, hO, hb⟩
  · rw [show stepF k [1] c = [] by unfold stepF; rw [if_neg (by simp), if_neg (fun h => hck h.2)]]
    rw [show (([k] : List Int).take 1).contains c = false by simp [hck]] at HK
    clear hck
    go_enter Tryd.func59, Tryd.ntmps59
    go_wp2_with fail
    refine HE.out.mono ?_
    rintro e w1 ⟨rfl, rfl⟩
    go_wp2_with fail
    refine wp_loop_rounds 2 ?_
    rw [rounds_succ]
    go_wp2_with fail
    refine HK.out.mono ?_
    rintro e w1 ⟨rfl, rfl⟩
    go_wp2_with fail
    rw [rounds_succ]
    go_wp2_with fail
    refine HCn.out.mono ?_
    intro e w5 h
    have hh := h.isOut hR (Below.refl _ _)
    obtain ⟨v, rfl, hO, hb⟩ := hh
    clear h
    go_wp2_with fail
    go_ret
    exact ⟨v, rfl, hO, hb⟩
/-- the three sets -/
def Three (s : List Int) : Prop := s = [1] ∨ s = [0] ∨ s = []
theorem stepF_three (k : Int) (s : List Int) (c : Int) : Three (stepF k s c) := by
  unfold stepF Three
  split
  · simp
  · split
    · simp
    · simp
theorem step (N : Nat) (k c : Int) (b : NetB) (s : List Int) (v : Value) (R : Nat) (w : World) (hs : Three s) (hN : NetC w N k b) (hv : IsI R w v s) (hR : R < w.heap.size) :
    Calls Tryd.prog 59 #[.pointer (some ⟨N, 0, none⟩), v, .int .i64 c] w (IsOut R (stepF k s c) w) := by
  rcases hs with rfl | rfl | rfl
  · exact step1 N k c b v R w hN hv hR
  · exact step0 N c v R w hv
  · obtain ⟨A, cp, rfl, _⟩ := hv
    exact stepN N k c b A cp R w hN hR
end Go.Proofs.YtlmdjggpeiddoaaDoor
