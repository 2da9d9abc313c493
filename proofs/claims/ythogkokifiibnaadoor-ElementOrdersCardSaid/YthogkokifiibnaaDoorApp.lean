/- Rows of bytes of the call's own, that may come out of a conversion of a string (their mark lies behind the row): append. -/
import Derived.Test.YthogkokifiibnaaDoorEl4
import Derived.Lib.AppendStr
import Derived.Lib.FrozenHead
import Derived.Lib.ConvBytes
import Derived.Laws.IdiomStrings
namespace Go.Proofs.YthogkokifiibnaaDoor
open Go.RowKit Go.Sort

/-- the mark covers none of the row's cells -/
def Free (n : Nat) (fz : Nat × Nat) : Prop := fz.2 = 0 ∨ n ≤ fz.1
theorem store_free (P : Program) (g o : Nat) (t : TypeId) (fz : Nat × Nat) : ∀ (vs : List Value) (i : Nat) (cur : Array Value) (w : World), w.heap[g]? = some (.cells cur t fz) → Free cur.size fz → o + i + vs.length ≤ cur.size → (∀ v ∈ vs, v.oneCell' = true) →
    (storeCells ⟨g, o, none⟩ vs i).run P w = .ok () (w.setRow g (cur.toList.take (o + i) ++ vs ++ cur.toList.drop (o + i + vs.length)).toArray)
  | [], i, cur, w, hg, _, _, _ => by
    simp only [storeCells, List.append_nil, List.length_nil, Nat.add_zero, List.take_append_drop, Array.toArray_toList]
    rw [setRow_self w g cur t fz hg]
    rfl
  | v :: rest, i, cur, w, hg, hfz, hl, h1 => by
    have hi : o + i < cur.size := by simp at hl; omega
    have hadd : (⟨g, o, none⟩ : Addr).add i = ⟨g, o + i, none⟩ := Go.WideShapes.add_plain _ _ _
    have hcell : w.cell? ⟨g, o + i, none⟩ = some cur[o + i] := by simp [World.cell?, hg, hi]
    have hfro : w.frozen? ⟨g, o + i, none⟩ = false := by
      obtain ⟨lo, hh⟩ := fz
      simp only [World.frozen?, hg, Bool.and_eq_false_iff, decide_eq_false_iff_not]
      unfold Free at hfz
      dsimp only at hfz
      omega
    have hst : (store ((⟨g, o, none⟩ : Addr).add i) v).run P w = .ok () (w.setRow g (cur.setIfInBounds (o + i) v)) := by
      rw [hadd, run_store P w _ v _ (h1 v (by simp)), hcell]
      simp [hfro, setCell_eq_setRow w g (o + i) cur t fz v hg]
    have ih := store_free P g o t fz rest (i + 1) (cur.setIfInBounds (o + i) v) (w.setRow g (cur.setIfInBounds (o + i) v)) (setRow_heap w g cur _ t _ hg) (by simpa using hfz) (by simp at hl ⊢; omega) (fun x hx => h1 x (by simp [hx]))
    simp only [storeCells, Sem.run_bind, hst, Result.andThen_ok, ih, setRow_setRow]
    congr 3
    have e := list_seg_step cur.toList (o + i) v rest (by simp at hl ⊢; omega)
    simpa [Array.toList_setIfInBounds, Nat.add_assoc] using e

/-- v is a row of bytes of the call's own -/
def OwnB (w : World) (base : Nat) (v : Value) (l : List UInt8) : Prop :=
  ∃ g cap cur fz, v = .slice (some ⟨g, 0, none⟩) l.length cap ∧ base ≤ g ∧ w.heap[g]? = some (.cells cur 5 fz) ∧ Free cur.size fz ∧ l.length ≤ cap ∧ cap ≤ maxLen ∧ cur.size = cap ∧ cur.toList.take l.length = Lib.byteCells l
theorem OwnB.keep {w w' : World} {base : Nat} {v : Value} {l : List UInt8} (h : OwnB w base v l) (hb : Below w.heap.size w w') : OwnB w' base v l := by
  obtain ⟨g, cap, cur, fz, hv, hg, hc, r⟩ := h
  exact ⟨g, cap, cur, fz, hv, hg, (hb.block g (Array.getElem?_eq_some_iff.1 hc).1).trans hc, r⟩
theorem OwnB.cells {w : World} {base : Nat} {v : Value} {l : List UInt8} (h : OwnB w base v l) : ∃ g cap, v = .slice (some ⟨g, 0, none⟩) l.length cap ∧ base ≤ g ∧ g < w.heap.size ∧ ∀ j u, (Lib.byteCells l)[j]? = some u → w.cell? ⟨g, j, none⟩ = some u := by
  obtain ⟨g, cap, cur, fz, hv, hg, hc, _, _, _, _, ht⟩ := h
  refine ⟨g, cap, hv, hg, (Array.getElem?_eq_some_iff.1 hc).1, fun j u hu => ?_⟩
  rw [← ht, List.getElem?_take] at hu
  split at hu
  · rw [cell_of_row w g j cur _ fz hc]
    simpa using hu
  · cases hu
theorem OwnB.conv {w : World} {base : Nat} {v : Value} {l : List UInt8} (h : OwnB w base v l) : (convert 53 9 v).run Tryd.prog w = .ok (.string ⟨l.toArray⟩) w := by
  obtain ⟨g, cap, rfl, _, _, hc⟩ := h.cells
  refine run_convert_bytes_back (P := Tryd.prog) w 53 9 5 ⟨g, 0, none⟩ cap l Tryd.underlying53 Tryd.underlying5 Tryd.underlying9 (fun j hj => ?_)
  rw [Go.WideShapes.add_plain, Nat.zero_add]
  exact hc j _ (by simp [Lib.byteCells, hj])
theorem grown_new {w : World} {base n m old : Nat} {xs news : List Value} {l : List UInt8} (hx : xs ++ news = Lib.byteCells l) (hn : l.length = n + m) (hxl : xs.length = n) (hnl : news.length = m) (h63 : n + m ≤ maxLen) (hb : base ≤ w.heap.size) (row : Option Nat) :
    OwnB (w.drew.alloc (.cells (xs.toArray ++ news.toArray ++ Builtin.zeroCells (Value.int .u8 0).cells (grownCap w (n + m) old 5 - (n + m))) 5)) base (.slice (some ⟨w.heap.size, 0, none⟩) (n + m) (grownCap w (n + m) old 5)) l ∧
      w.grownBy (w.drew.alloc (.cells (xs.toArray ++ news.toArray ++ Builtin.zeroCells (Value.int .u8 0).cells (grownCap w (n + m) old 5 - (n + m))) 5)) row := by
  have hge := grownCap_ge w (n + m) old 5
  have hcm : grownCap w (n + m) old 5 ≤ maxLen := grownCap_le_maxLen w (n + m) old 5 h63
  have hz : (Value.int .u8 0).cells.size = 1 := rfl
  refine ⟨⟨w.heap.size, _, _, (0, 0), by rw [hn], hb, heap_alloc_new w.drew _, .inl rfl, by omega, hcm, ?_, ?_⟩, ⟨rfl, rfl, rfl, by simp, fun k hk _ => Below.heap_alloc w.drew _ k hk⟩⟩
  · simp only [Array.size_append, List.size_toArray, size_zeroCells, hz, hxl, hnl]
    omega
  · simp only [Array.toList_append, List.append_assoc]
    rw [← List.append_assoc, hx, hn, ← hxl, ← hnl, ← List.length_append, hx]
    exact List.take_left
/-- append(v, m...) -/
theorem append_B {w : World} {base : Nat} {v : Value} {l : List UInt8} (h : OwnB w base v l) (a : Addr) (c : Nat) (m : List UInt8) (hm : ∀ j u, (Lib.byteCells m)[j]? = some u → w.cell? (a.add j) = some u) (hl : l.length + m.length ≤ 1000000) (hb : base ≤ w.heap.size) (ty : TypeId) :
    ∃ v' w', (Builtin.append_ #[53, 53] ty #[v, .slice (some a) m.length c]).run Tryd.prog w = .ok v' w' ∧ OwnB w' base v' (l ++ m) ∧ w.grownBy w' v.ownBlock := by
  obtain ⟨i0, hi, hz0, hz1, hz2⟩ := info_parts infoByte
  obtain ⟨g, cap, cur, fz, rfl, hg, hc, hfz, hlc, hcm, hcs, ht⟩ := h
  have hxl : (Lib.byteCells l).length = l.length := Lib.byteCells_length l
  have hml : (Lib.byteCells m).length = m.length := Lib.byteCells_length m
  have hone : ∀ u ∈ Lib.byteCells m, u.oneCell' = true := fun u hu => by simp only [Lib.byteCells, List.mem_map] at hu; obtain ⟨b, _, rfl⟩ := hu; rfl
  have happ : Lib.byteCells l ++ Lib.byteCells m = Lib.byteCells (l ++ m) := by simp [Lib.byteCells]
  by_cases hroom : l.length + m.length ≤ cap
  · have hf := run_firstCells_some (P := Tryd.prog) w i0.size m.length a m.length c (Lib.byteCells m) (by rw [hz1, hml, Nat.mul_one]) hm
    have hst := store_free Tryd.prog g l.length 5 fz (Lib.byteCells m) 0 cur w hc hfz (by rw [hml]; omega) hone
    simp only [Nat.add_zero] at hst
    refine ⟨.slice (some ⟨g, 0, none⟩) (l.length + m.length) cap, w.setRow g (cur.toList.take l.length ++ Lib.byteCells m ++ cur.toList.drop (l.length + (Lib.byteCells m).length)).toArray, ?_, ⟨g, cap, _, fz, by rw [List.length_append], hg, setRow_heap w g cur _ _ _ hc, ?_, by rw [List.length_append]; exact hroom, hcm, ?_, ?_⟩, ⟨rfl, rfl, rfl, by simp, fun k _ hk => setRow_other w g k _ (fun e => hk (by simp [Value.ownBlock, e]))⟩⟩
    · rw [hz1] at hf
      simp [Builtin.append_, run_underlying Tryd.underlying53, sizeOf, typeInfo, hi, hz1, Builtin.lenOf, hroom, hf, Addr.add_lit, hst]
    · have : (cur.toList.take l.length ++ Lib.byteCells m ++ cur.toList.drop (l.length + (Lib.byteCells m).length)).toArray.size = cur.size := by
        simp only [List.size_toArray, List.length_append, List.length_take, List.length_drop, Array.length_toList, hml]
        omega
      rw [this]
      exact hfz
    · simp only [List.size_toArray, List.length_append, List.length_take, List.length_drop, Array.length_toList, hml]
      omega
    · rw [ht, happ, List.length_append, ← hxl, ← hml, ← List.length_append, happ]
      exact List.take_left
  · have holds : ∀ j u, (Lib.byteCells l)[j]? = some u → w.cell? ((⟨g, 0, none⟩ : Addr).add j) = some u := fun j u hu => by
      rw [Go.WideShapes.add_plain, Nat.zero_add, cell_of_row w g j cur _ fz hc]
      rw [← ht, List.getElem?_take] at hu
      split at hu
      · simpa using hu
      · cases hu
    have hr := run_append_grow (P := Tryd.prog) w 53 ty 5 i0 (.int .u8 0) Tryd.underlying53 hi hz0 ⟨g, 0, none⟩ l.length cap (Lib.byteCells l) (by rw [hz1, hxl, Nat.mul_one]) holds a m.length c (Lib.byteCells m) (by rw [hz1, hml, Nat.mul_one]) hm (by omega) (by omega) (growslice_fits (by omega) (by rw [hz2]; omega))
    have hgr := grown_new (w := w) (base := base) (old := cap) happ (List.length_append) hxl hml (by unfold maxLen; omega) hb (Value.ownBlock (.slice (some ⟨g, 0, none⟩) l.length cap))
    exact ⟨_, _, hr, hgr.1, hgr.2⟩
/-- append(v, s...) of a string -/
theorem append_BS {w : World} {base : Nat} {v : Value} {l : List UInt8} (h : OwnB w base v l) (m : List UInt8) (hl : l.length + m.length ≤ 1000000) (hb : base ≤ w.heap.size) (ty : TypeId) :
    ∃ v' w', (Builtin.append_ #[53, 9] ty #[v, .string ⟨m.toArray⟩]).run Tryd.prog w = .ok v' w' ∧ OwnB w' base v' (l ++ m) ∧ w.grownBy w' v.ownBlock := by
  obtain ⟨i0, hi, hz0, hz1, hz2⟩ := info_parts infoByte
  obtain ⟨g, cap, cur, fz, rfl, hg, hc, hfz, hlc, hcm, hcs, ht⟩ := h
  have hxl : (Lib.byteCells l).length = l.length := Lib.byteCells_length l
  have hml : (Lib.byteCells m).length = m.length := Lib.byteCells_length m
  have hsz : (⟨m.toArray⟩ : ByteArray).size = m.length := by simp [ByteArray.size]
  have hsc : Lib.strCells ⟨m.toArray⟩ = Lib.byteCells m := rfl
  have happ : Lib.byteCells l ++ Lib.byteCells m = Lib.byteCells (l ++ m) := by simp [Lib.byteCells]
  by_cases hroom : l.length + m.length ≤ cap
  · have hf := Lib.run_firstCells_string (P := Tryd.prog) w 1 ⟨m.toArray⟩
    rw [hsc, hsz] at hf
    have hst := store_free Tryd.prog g l.length 5 fz (Lib.byteCells m) 0 cur w hc hfz (by rw [hml]; omega) (fun u hu => by simp only [Lib.byteCells, List.mem_map] at hu; obtain ⟨b, _, rfl⟩ := hu; rfl)
    simp only [Nat.add_zero] at hst
    refine ⟨.slice (some ⟨g, 0, none⟩) (l.length + m.length) cap, w.setRow g (cur.toList.take l.length ++ Lib.byteCells m ++ cur.toList.drop (l.length + (Lib.byteCells m).length)).toArray, ?_, ⟨g, cap, _, fz, by rw [List.length_append], hg, setRow_heap w g cur _ _ _ hc, ?_, by rw [List.length_append]; exact hroom, hcm, ?_, ?_⟩, ⟨rfl, rfl, rfl, by simp, fun k _ hk => setRow_other w g k _ (fun e => hk (by simp [Value.ownBlock, e]))⟩⟩
    · simp [Builtin.append_, run_underlying Tryd.underlying53, run_underlying Tryd.underlying9, sizeOf, typeInfo, hi, hz1, Builtin.lenOf, hsz, hroom, hf, Addr.add_lit, hst]
    · have : (cur.toList.take l.length ++ Lib.byteCells m ++ cur.toList.drop (l.length + (Lib.byteCells m).length)).toArray.size = cur.size := by
        simp only [List.size_toArray, List.length_append, List.length_take, List.length_drop, Array.length_toList, hml]
        omega
      rw [this]
      exact hfz
    · simp only [List.size_toArray, List.length_append, List.length_take, List.length_drop, Array.length_toList, hml]
      omega
    · rw [ht, happ, List.length_append, ← hxl, ← hml, ← List.length_append, happ]
      exact List.take_left
  · have holds : ∀ j u, (Lib.byteCells l)[j]? = some u → w.cell? ((⟨g, 0, none⟩ : Addr).add j) = some u := fun j u hu => by
      rw [Go.WideShapes.add_plain, Nat.zero_add, cell_of_row w g j cur _ fz hc]
      rw [← ht, List.getElem?_take] at hu
      split at hu
      · simpa using hu
      · cases hu
    have hr := Lib.run_append_grow_string (P := Tryd.prog) w 53 9 ty 5 i0 (.int .u8 0) Tryd.underlying53 Tryd.underlying9 hi hz0 ⟨g, 0, none⟩ l.length cap (Lib.byteCells l) (by rw [hz1, hxl, Nat.mul_one]) holds ⟨m.toArray⟩ (by rw [hsz]; omega) (by rw [hsz]; omega) (growslice_fits (by rw [hsz]; omega) (by rw [hz2, hsz]; omega))
    rw [hsz, hsc] at hr
    have hgr := grown_new (w := w) (base := base) (old := cap) happ (List.length_append) hxl hml (by unfold maxLen; omega) hb (Value.ownBlock (.slice (some ⟨g, 0, none⟩) l.length cap))
    exact ⟨_, _, hr, hgr.1, hgr.2⟩
theorem OwnB.row {w : World} {base : Nat} {v : Value} {l : List UInt8} (h : OwnB w base v l) : ∀ k, v.ownBlock = some k → base ≤ k := by
  obtain ⟨g, cap, cur, fz, rfl, hg, _⟩ := h
  intro k hk
  simp only [Value.ownBlock, Option.some.injEq] at hk
  omega
/-- append(v, m...) as a step of a walk -/
theorem wpB {ops : Array Oper} {rest : List Oper} {o : Oper} {a : Act} {Q : Exit → Act → World → Prop} {W : World} (hgd : o.guard = none) (s x : Operand) (ho : o.op = .call { callee := .builtin .append, args := #[s, x], argTypes := #[53, 53] })
    (base : Nat) {v : Value} {l : List UInt8} (hs : a.eval s = v) (h : OwnB W base v l) (m : List UInt8) {ad : Addr} {c : Nat} (hx : a.eval x = .slice (some ad) m.length c) (hm : ∀ j u, (Lib.byteCells m)[j]? = some u → W.cell? (ad.add j) = some u) (hl : l.length + m.length ≤ 1000000) (hb : base ≤ W.heap.size)
    (hK : ∀ v' w', Hid (OwnB w' base v' (l ++ m)) → (∀ w0, Below base w0 W → Below base w0 w') → wpList Tryd.prog ops Q rest (a.put o.dst v') w') : wpList Tryd.prog ops Q (o :: rest) a W := by
  obtain ⟨v', w', hr, h2, h3⟩ := append_B h ad c m hm hl hb o.type
  refine wpList_plain hgd fun _ hK' => ?_
  unfold Oper.wp execOp
  simp only [ho, resolve, invoke, builtin, Sem.run_bind, Sem.run_pure, Result.andThen_ok, List.map_toArray, List.map_cons, List.map_nil, hs, hx, hr]
  exact hK' _ _ (hK v' w' (Lib.hid h2) (fun w0 h0 => h0.grown h3 hb h.row))
theorem wpBS {ops : Array Oper} {rest : List Oper} {o : Oper} {a : Act} {Q : Exit → Act → World → Prop} {W : World} (hgd : o.guard = none) (s x : Operand) (ho : o.op = .call { callee := .builtin .append, args := #[s, x], argTypes := #[53, 9] })
    (base : Nat) {v : Value} {l : List UInt8} (hs : a.eval s = v) (h : OwnB W base v l) (m : List UInt8) (hx : a.eval x = .string ⟨m.toArray⟩) (hl : l.length + m.length ≤ 1000000) (hb : base ≤ W.heap.size)
    (hK : ∀ v' w', Hid (OwnB w' base v' (l ++ m)) → (∀ w0, Below base w0 W → Below base w0 w') → wpList Tryd.prog ops Q rest (a.put o.dst v') w') : wpList Tryd.prog ops Q (o :: rest) a W := by
  obtain ⟨v', w', hr, h2, h3⟩ := append_BS h m hl hb o.type
  refine wpList_plain hgd fun _ hK' => ?_
  unfold Oper.wp execOp
  simp only [ho, resolve, invoke, builtin, Sem.run_bind, Sem.run_pure, Result.andThen_ok, List.map_toArray, List.map_cons, List.map_nil, hs, hx, hr]
  exact hK' _ _ (hK v' w' (Lib.hid h2) (fun w0 h0 => h0.grown h3 hb h.row))
/-- []byte(s) -/
theorem conv_bytes (l : List UInt8) (w : World) (hl : l.length ≤ 1000000) : ∃ v w', (convert 9 53 (.string ⟨l.toArray⟩)).run Tryd.prog w = .ok v w' ∧ OwnB w' w.heap.size v l ∧ Below w.heap.size w w' := by
  have hsz : (⟨l.toArray⟩ : ByteArray).size = l.length := by simp [ByteArray.size]
  have hge := grownCap_ge w l.length 0 5
  have hcm : grownCap w l.length 0 5 ≤ maxLen := grownCap_le_maxLen w l.length 0 5 (by unfold maxLen; omega)
  have hcs : (Lib.bytesCells w 5 ⟨l.toArray⟩).size = grownCap w l.length 0 5 := by
    unfold Lib.bytesCells
    rw [hsz]
    simp
    omega
  refine ⟨_, _, Lib.run_convert_string_bytes (P := Tryd.prog) w 9 53 5 ⟨l.toArray⟩ Tryd.underlying9 Tryd.underlying53 Tryd.underlying5, ⟨w.heap.size, grownCap w l.length 0 5, _, _, by rw [hsz], Nat.le_refl _, Lib.bytesWorld_at_new w 5 ⟨l.toArray⟩, .inr (Nat.le_refl _), hge, hcm, hcs, ?_⟩, Lib.bytesWorld_below _ _ _⟩
  unfold Lib.bytesCells Lib.byteCells
  simp
end Go.Proofs.YthogkokifiibnaaDoor
