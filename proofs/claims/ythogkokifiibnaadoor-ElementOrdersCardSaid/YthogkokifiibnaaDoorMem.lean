/- Slices of ints of the call's own, append, reslicing. -/
import Derived.Test.YthogkokifiibnaaDoorProg
import Derived.Test.YthogkokifiibnaaDoorBase2
import Derived.Maps.AppendAt
import Derived.Deep.RegionHeld
import Derived.Deep.RegionLaw
import Derived.Deep.AppendLies
import Derived.Laws.AppendOwnNone
import Derived.IntWalk
namespace Go.Proofs.YthogkokifiibnaaDoor
open Go.RowKit Go.Sort

theorem infoInt : (Tryd.prog.info? 3).map (fun i => (i.zero, i.size, i.bytes)) = some (some (.int .i64 0), 1, 8) := by kernel_rfl
theorem bcell {W w1 : World} (hb : Below W.heap.size W w1) : (∀ b o, b < W.heap.size → w1.cell? ⟨b, o, none⟩ = W.cell? ⟨b, o, none⟩) ∧ (∀ b o, b < W.heap.size → w1.frozen? ⟨b, o, none⟩ = W.frozen? ⟨b, o, none⟩) :=
  ⟨fun b o h => hb.cell (p := ⟨b, o, none⟩) h, fun b o h => hb.frozen (p := ⟨b, o, none⟩) h⟩
def intVals (zs : List Int) : List Value := zs.map (Value.int .i64)
/-- v is a slice of the call's own, from block base on, that holds zs -/
def OwnI (w : World) (base : Nat) (v : Value) (zs : List Int) : Prop := w.ownsRow base 3 1 v zs.length (intVals zs)
theorem OwnI.nil (w : World) (base : Nat) : OwnI w base (.slice none 0 0) [] := ⟨by simp [intVals], .inl ⟨rfl, by simp⟩⟩
theorem OwnI.form {w : World} {base : Nat} {v : Value} {zs : List Int} (h : OwnI w base v zs) : ∃ A c, v = .slice A zs.length c := by
  rcases h.2 with ⟨hv, h0⟩ | ⟨g, cap, cur, hv, _⟩
  · exact ⟨none, 0, by rw [hv, h0]⟩
  · exact ⟨_, _, hv⟩
theorem OwnI.ints {w : World} {base : Nat} {A : Option Addr} {c : Nat} {zs : List Int} (h : OwnI w base (.slice A zs.length c) zs) : IntsAt w A zs := by
  intro hn
  obtain ⟨g, cap, hv, _, hlt⟩ := World.ownsRow.form h hn
  have hA : A = some ⟨g, 0, none⟩ := by injection hv
  subst hA
  refine ⟨g, 0, rfl, hlt, fun j hj => ?_⟩
  have := World.ownsRow.cells h (g := g) rfl j (.int .i64 (nth zs j)) (by simp [intVals, nth, hj])
  rwa [Go.WideShapes.add_plain] at this
theorem OwnI.keep {w w' : World} {base : Nat} {v : Value} {zs : List Int} (h : OwnI w base v zs) (hb : Below w.heap.size w w') : OwnI w' base v zs :=
  World.ownsRow.kept h ⟨hb.os, hb.tape, hb.output, hb.size, fun i hi _ => hb.block i hi⟩ (row := none) (by cases v.ownBlock <;> simp)
/-- append(v, news...) where the new ints lie in the newest block -/
theorem appendI {w : World} {base : Nat} {v : Value} {zs : List Int} (h : OwnI w base v zs) (news : List Int) (hl : zs.length + news.length ≤ 1000000) (hb : base ≤ w.heap.size) (W : World) (hW : W.heap = (w.alloc (.cells (intVals news).toArray 3)).heap) (hos : W.os = w.os) (hta : W.tape = w.tape) (hou : W.output = w.output) :
    ∃ v' w', (Builtin.append_ #[48, 48] 48 #[v, .slice (some ⟨w.heap.size, 0, none⟩) news.length news.length]).run Tryd.prog W = .ok v' w' ∧ Hid (OwnI w' base v' (zs ++ news)) ∧ ∀ w0, Below base w0 w → Below base w0 w' := by
  obtain ⟨i0, hi, hz0, hz1, hz2⟩ := info_parts infoInt
  have hblk : W.heap[w.heap.size]? = some (.cells (intVals news).toArray 3 (0, 0)) := by rw [hW]; exact heap_alloc_new w _
  have hbw : Below w.heap.size w W := ⟨hos, hta, hou, by rw [hW]; simp, fun k hk => by rw [hW]; exact Below.heap_alloc _ _ _ hk⟩
  have hown : W.ownsRow base 3 1 v zs.length (intVals zs) := h.keep hbw
  obtain ⟨v', w', hrun, hown', hg, _⟩ := run_append_own_at (P := Tryd.prog) W base 48 48 3 i0 (.int .i64 0) 1 8 Tryd.underlying48 hi hz0 hz1 hz2 rfl (by decide) v zs.length (intVals zs) hown ⟨w.heap.size, 0, none⟩ news.length news.length (intVals news)
    (by simp [intVals]) (fun j u hu => by rw [Go.WideShapes.add_plain, Lib.cell_of_heap hblk]; simpa using hu) (fun u hu => by simp [intVals] at hu; obtain ⟨x, _, rfl⟩ := hu; rfl) (by unfold maxLen; omega) (by omega) (Nat.le_trans hb hbw.size)
  refine ⟨v', w', hrun, Lib.hid ?_, fun w0 h0 => ?_⟩
  · unfold OwnI
    rw [List.length_append]
    simpa [intVals] using hown'
  · exact (h0.trans (hbw.mono hb)).grown hg (Nat.le_trans hb hbw.size) (fun k hk => (hown.lt k hk).1)

theorem OwnI.set2 {w : World} {base : Nat} {A : Option Addr} {c : Nat} {zs : List Int} {blk : Nat} (h : OwnI w base (.slice A zs.length c) zs) (hb : blk < base) (u u' : Value) : IntsAt ((w.setCell ⟨blk, 0, none⟩ u).setCell ⟨blk, 1, none⟩ u') A zs := by
  intro hn
  obtain ⟨g, cap, hv, hg, _⟩ := World.ownsRow.form h hn
  obtain ⟨b, off, hA, hlt, hc⟩ := h.ints hn
  have hgb : g = b := by injection hv with h1; rw [hA] at h1; injection h1 with h2; injection h2 with h3; exact h3.symm
  refine ⟨b, off, hA, by simpa using hlt, fun j hj => ?_⟩
  rw [World.cell?_setCell_far _ _ _ _ (by show blk ≠ b; omega), World.cell?_setCell_far _ _ _ _ (by show blk ≠ b; omega)]
  exact hc j hj
/-- append(v, news...) where the new ints lie somewhere -/
theorem appendS {W : World} {base : Nat} {v : Value} {zs : List Int} (h : OwnI W base v zs) {B : Option Addr} {news : List Int} (c2 : Nat) (hB : IntsAt W B news) (hn : 0 < news.length) (hl : zs.length + news.length ≤ 1000000) (hb : base ≤ W.heap.size) :
    ∃ v' w', (Builtin.append_ #[48, 48] 48 #[v, .slice B news.length c2]).run Tryd.prog W = .ok v' w' ∧ Hid (OwnI w' base v' (zs ++ news)) ∧ ∀ w0, Below base w0 W → Below base w0 w' := by
  obtain ⟨i0, hi, hz0, hz1, hz2⟩ := info_parts infoInt
  obtain ⟨b, off, rfl, hlt, hc⟩ := hB hn
  obtain ⟨v', w', hrun, hown', hg, _⟩ := run_append_own_at (P := Tryd.prog) W base 48 48 3 i0 (.int .i64 0) 1 8 Tryd.underlying48 hi hz0 hz1 hz2 rfl (by decide) v zs.length (intVals zs) h ⟨b, off, none⟩ news.length c2 (intVals news)
    (by simp [intVals]) (fun j u hu => by
      have hj : j < news.length := by simpa [intVals] using (List.getElem?_eq_some_iff.1 hu).1
      rw [Go.WideShapes.add_plain, hc j hj]
      simpa [intVals, nth, hj] using hu) (fun u hu => by simp [intVals] at hu; obtain ⟨x, _, rfl⟩ := hu; rfl) (by unfold maxLen; omega) (by omega) hb
  refine ⟨v', w', hrun, Lib.hid ?_, fun w0 h0 => ?_⟩
  · unfold OwnI
    rw [List.length_append]
    simpa [intVals] using hown'
  · exact h0.grown hg hb (fun k hk => (h.lt k hk).1)

theorem ints_new (w : World) (news : List Int) (t : TypeId) : IntsAt (w.alloc (.cells (intVals news).toArray t)) (some ⟨w.heap.size, 0, none⟩) news := by
  intro _
  refine ⟨w.heap.size, 0, rfl, by simp, fun j hj => ?_⟩
  rw [cell_box]
  simp [intVals, nth, hj]
/-- the same, as a step of a walk -/
theorem wpI {ops : Array Oper} {rest : List Oper} {o : Oper} {a : Act} {Q : Exit → Act → World → Prop} {W : World} (hgd : o.guard = none) (s x : Operand) (ho : o.op = .call { callee := .builtin .append, args := #[s, x], argTypes := #[48, 48] })
    (base : Nat) {v : Value} {zs : List Int} (hs : a.eval s = v) (h : OwnI W base v zs) {B : Option Addr} (news : List Int) {c2 : Nat} (hx : a.eval x = .slice B news.length c2) (hB : IntsAt W B news) (hn : 0 < news.length) (hl : zs.length + news.length ≤ 1000000) (hb : base ≤ W.heap.size)
    (hK : ∀ v' w', Hid (OwnI w' base v' (zs ++ news)) → (∀ w0, Below base w0 W → Below base w0 w') → wpList Tryd.prog ops Q rest (a.put o.dst v') w') : wpList Tryd.prog ops Q (o :: rest) a W := by
  obtain ⟨i0, hi, hz0, hz1, hz2⟩ := info_parts infoInt
  obtain ⟨b, off, rfl, hlt, hc⟩ := hB hn
  refine wpList_append_own W hgd s x 48 ho base 3 i0 (.int .i64 0) 1 8 Tryd.underlying48 hi hz0 hz1 hz2 rfl (by decide) v zs.length (intVals zs) hs h ⟨b, off, none⟩ news.length c2 (intVals news) hx
    (by simp [intVals]) (fun j u hu => by
      have hj : j < news.length := by simpa [intVals] using (List.getElem?_eq_some_iff.1 hu).1
      rw [Go.WideShapes.add_plain, hc j hj]
      simpa [intVals, nth, hj] using hu) (fun u hu => by simp [intVals] at hu; obtain ⟨x, _, rfl⟩ := hu; rfl) (by unfold maxLen; omega) (by omega) hb ?_
  intro v' w' hown' hg _
  refine hK v' w' (Lib.hid ?_) (fun w0 h0 => ?_)
  · unfold OwnI
    rw [List.length_append]
    simpa [intVals] using hown'
  · exact h0.grown hg hb (fun k hk => (h.lt k hk).1)

theorem stepI {ops : Array Oper} {o : Oper} {a : Act} {K : Act → World → Prop} {Q : Exit → Act → World → Prop} {E : Prop} {W : World} (hgd : o.guard = none) (s x : Operand) (ho : o.op = .call { callee := .builtin .append, args := #[s, x], argTypes := #[48, 48] })
    (base : Nat) {v : Value} {zs : List Int} (hs : a.eval s = v) (h : OwnI W base v zs) {B : Option Addr} (news : List Int) {c2 : Nat} (hx : a.eval x = .slice B news.length c2) (hB : IntsAt W B news) (hn : 0 < news.length) (hl : zs.length + news.length ≤ 1000000) (hb : base ≤ W.heap.size)
    (hK : ∀ v' w', Hid (OwnI w' base v' (zs ++ news)) → (∀ w0, Below base w0 W → Below base w0 w') → K (a.put o.dst v') w') : if Region.wanted o (yielded ops a.tmps) = true then Oper.wp Tryd.prog o a W K Q else E := by
  rw [if_pos (by simp [Region.wanted, hgd])]
  obtain ⟨i0, hi, hz0, hz1, hz2⟩ := info_parts infoInt
  obtain ⟨b, off, rfl, hlt, hc⟩ := hB hn
  refine wp_append_own W s x 48 ho base 3 i0 (.int .i64 0) 1 8 Tryd.underlying48 hi hz0 hz1 hz2 rfl (by decide) v zs.length (intVals zs) hs h ⟨b, off, none⟩ news.length c2 (intVals news) hx
    (by simp [intVals]) (fun j u hu => by
      have hj : j < news.length := by simpa [intVals] using (List.getElem?_eq_some_iff.1 hu).1
      rw [Go.WideShapes.add_plain, hc j hj]
      simpa [intVals, nth, hj] using hu) (fun u hu => by simp [intVals] at hu; obtain ⟨x, _, rfl⟩ := hu; rfl) (by unfold maxLen; omega) (by omega) hb ?_
  intro v' w' hown' hg _
  refine hK v' w' (Lib.hid ?_) (fun w0 h0 => ?_)
  · unfold OwnI
    rw [List.length_append]
    simpa [intVals] using hown'
  · exact h0.grown hg hb (fun k hk => (h.lt k hk).1)

/-- append(v, news...), the new ints somewhere, or none at all -/
theorem wpA {ops : Array Oper} {rest : List Oper} {o : Oper} {a : Act} {Q : Exit → Act → World → Prop} {W : World} (hgd : o.guard = none) (s x : Operand) (ho : o.op = .call { callee := .builtin .append, args := #[s, x], argTypes := #[48, 48] })
    (base : Nat) {v : Value} {zs : List Int} (hs : a.eval s = v) (h : OwnI W base v zs) {B : Option Addr} (news : List Int) {c2 : Nat} (hx : a.eval x = .slice B news.length c2) (hB : IntsAt W B news) (hcB : B = none → c2 = 0) (hl : zs.length + news.length ≤ 1000000) (hb : base ≤ W.heap.size)
    (hK : ∀ v' w', Hid (OwnI w' base v' (zs ++ news)) → (∀ w0, Below base w0 W → Below base w0 w') → wpList Tryd.prog ops Q rest (a.put o.dst v') w') : wpList Tryd.prog ops Q (o :: rest) a W := by
  by_cases hn : 0 < news.length
  · exact wpI hgd s x ho base hs h news hx hB hn hl hb hK
  · obtain rfl : news = [] := List.length_eq_zero_iff.1 (by omega)
    obtain ⟨i0, hi, hz0, hz1, hz2⟩ := info_parts infoInt
    cases B with
    | none =>
      obtain rfl : c2 = 0 := hcB rfl
      refine wpList_append_own_none hgd s x 48 ho base 3 i0 1 Tryd.underlying48 hi v zs.length (intVals zs) hs h hx ?_
      exact hK v W (Lib.hid (by rw [List.append_nil]; exact h)) (fun _ h0 => h0)
    | some ad =>
      refine wpList_append_own W hgd s x 48 ho base 3 i0 (.int .i64 0) 1 8 Tryd.underlying48 hi hz0 hz1 hz2 rfl (by decide) v zs.length (intVals zs) hs h ad 0 c2 [] hx rfl (fun j u hu => by simp at hu) (fun u hu => by cases hu) (by unfold maxLen; simp at hl; omega) (by simp at hl; omega) hb ?_
      intro v' w' hown' hg _
      refine hK v' w' (Lib.hid ?_) (fun w0 h0 => ?_)
      · unfold OwnI
        simpa [intVals] using hown'
      · exact h0.grown hg hb (fun k hk => (h.lt k hk).1)
theorem OwnI.empty (w : World) (base : Nat) (hb : base ≤ w.heap.size) : OwnI (w.alloc (.cells #[] 3)) base (.slice (some ⟨w.heap.size, 0, none⟩) 0 0) [] :=
  ⟨rfl, .inr ⟨w.heap.size, 0, #[], rfl, hb, heap_alloc_new w _, Nat.le_refl _, Nat.zero_le _, rfl, rfl⟩⟩
theorem OwnI.mono {w : World} {base base' : Nat} {v : Value} {zs : List Int} (h : OwnI w base v zs) (hb : base' ≤ base) : OwnI w base' v zs := by
  refine ⟨h.1, ?_⟩
  rcases h.2 with h | ⟨g, cap, cur, hv, hg, r⟩
  · exact .inl h
  · exact .inr ⟨g, cap, cur, hv, Nat.le_trans hb hg, r⟩
theorem OwnI.cap {w : World} {base : Nat} {A : Option Addr} {c : Nat} {zs : List Int} (h : OwnI w base (.slice A zs.length c) zs) : (A = none → c = 0) ∧ zs.length ≤ c := by
  rcases h.2 with ⟨hv, h0⟩ | ⟨g, cap, cur, hv, _, _, h1, _⟩
  · injection hv with e1 _ e3
    exact ⟨fun _ => e3, by omega⟩
  · injection hv with e1 _ e3
    refine ⟨fun e => ?_, by omega⟩
    rw [e1] at e
    cases e

theorem sizeElemInt (w : World) : (sizeOf (Tryd.prog.elem 48)).run Tryd.prog w = .ok 1 w := by kernel_rfl
theorem elemInt : Tryd.prog.underlying 48 = some (.slice (Tryd.prog.elem 48)) := by kernel_rfl
/-- xs[:j] -/
theorem sliceHi (A : Option Addr) (xs : List Int) (c j : Nat) (hj : j ≤ xs.length) (hc : xs.length ≤ c) (hN : A = none → c = 0) :
    ∃ A', (∀ w, (Instr.slice 48 (.slice A xs.length c) none (some (.int .i64 j)) none).run Tryd.prog w = .ok (.slice A' (xs.take j).length c) w) ∧ (∀ w, IntsAt w A xs → IntsAt w A' (xs.take j)) ∧ (A' = none → c = 0) := by
  refine ⟨if c = 0 then A else A.map (·.add (0 * 1)), fun w => ?_, fun w h hn => ?_, fun h => ?_⟩
  · rw [run_slice_h w _ A _ c elemInt _ _ (by omega) (by omega), sizeElemInt]
    simp [sliced, Result.andThen, Nat.min_eq_left hj]
  · have hl : (xs.take j).length = j := by simp [hj]
    rw [hl] at hn
    obtain ⟨b, off, rfl, hlt, hc2⟩ := h (by omega)
    refine ⟨b, off, by split <;> simp [Addr.add], hlt, fun i hi => ?_⟩
    rw [hl] at hi
    rw [hc2 i (by omega)]
    simp [nth, hi]
  · split at h
    · assumption
    · cases A with
      | none => exact hN rfl
      | some a => cases h
/-- xs[j:] -/
theorem sliceLo (A : Option Addr) (xs : List Int) (c j : Nat) (hj : j ≤ xs.length) (hc : xs.length ≤ c) (hN : A = none → c = 0) :
    ∃ A', (∀ w, (Instr.slice 48 (.slice A xs.length c) (some (.int .i64 j)) none none).run Tryd.prog w = .ok (.slice A' (xs.drop j).length (c - j)) w) ∧ (∀ w, IntsAt w A xs → IntsAt w A' (xs.drop j)) ∧ (A' = none → c - j = 0) := by
  refine ⟨if c = j then A else A.map (·.add (j * 1)), fun w => ?_, fun w h hn => ?_, fun h => ?_⟩
  · rw [run_slice_l w _ A _ c elemInt _ _ (by omega) (by omega), sizeElemInt]
    simp [sliced, Result.andThen]
  · rw [List.length_drop] at hn
    obtain ⟨b, off, rfl, hlt, hc2⟩ := h (by omega)
    rw [if_neg (by omega)]
    refine ⟨b, off + j, by simp [Addr.add], hlt, fun i hi => ?_⟩
    rw [List.length_drop] at hi
    rw [Nat.add_assoc, hc2 (j + i) (by omega)]
    simp [nth]
  · split at h
    · omega
    · cases A with
      | none => have := hN rfl; omega
      | some a => cases h

theorem nth_mem {zs : List Int} {k : Nat} (h : k < zs.length) : nth zs k ∈ zs := by rw [nth_lt h]; exact List.getElem_mem h
theorem below_drewN {B : Nat} {w : World} (n : Nat) : Below B w (w.drewN n) := ⟨rfl, rfl, rfl, Nat.le_refl _, fun _ _ => rfl⟩
theorem strSlice (l : List UInt8) {j k : Nat} (h1 : j ≤ k) (h2 : k ≤ l.length) (w : World) : (Instr.slice 9 (.string ⟨l.toArray⟩) (some (.int .i64 j)) (some (.int .i64 k)) none).run Tryd.prog w = .ok (.string ⟨(seg l j k).toArray⟩) w := by
  have h3 : (j : Int) ≤ k := by omega
  have h4 : (k : Int) ≤ l.length := by omega
  simp [go_sem, Tryd.underlying9, h3, h4]
theorem seg_one {l : List UInt8} {k : Nat} (hk : k < l.length) : seg l k (k + 1) = [l[k]] := by rw [seg_snoc (Nat.le_refl k) hk, seg_self]; rfl
end Go.Proofs.YthogkokifiibnaaDoor
