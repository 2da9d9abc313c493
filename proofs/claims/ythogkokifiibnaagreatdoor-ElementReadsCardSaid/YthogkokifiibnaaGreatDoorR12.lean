/- The memory of ParseFile of the reference -/
import Derived.Test.YthogkokifiibnaaGreatDoorR9
import Derived.Test.YthogkokifiibnaaGreatDoorA10
namespace Go.Proofs.YthogkokifiibnaaGreatDoor
open Go.RowKit Go.Sort

/-- v is a slice of n elements -/
def IsSl (v : Value) (n : Nat) : Prop := ∃ A c, v = .slice A n c
/-- a slice of entries of the call's own, whose codes lie apart from block nb -/
def OwnX (w : World) (base : Nat) (v : Value) (es : List EntryD) (nb : Option Nat) : Prop :=
  ∃ zs : List (EntryD × Value × Value), zs.map (·.1) = es ∧ w.ownsRow base 50 2 v es.length (rowN zs) ∧ (∀ z ∈ zs, CdB w z.2.1 z.1.codes ∧ ElB w z.2.2 z.1.els) ∧ ∀ z ∈ zs, ∀ g, z.2.1.ownBlock = some g → some g ≠ nb ∧ g < w.heap.size
theorem OwnX.nil (w : World) (base : Nat) (nb : Option Nat) : OwnX w base (.slice none 0 0) [] nb := ⟨[], rfl, ⟨by simp [rowN], .inl ⟨rfl, by simp⟩⟩, by simp, by simp⟩
theorem OwnX.own {w : World} {base : Nat} {v : Value} {es : List EntryD} {nb : Option Nat} (h : OwnX w base v es nb) : OwnN w base v es := by
  obtain ⟨zs, h1, h2, h3, _⟩ := h
  exact ⟨zs, h1, h2, h3⟩
theorem OwnX.keptT {w w' : World} {base : Nat} {v : Value} {es : List EntryD} {nb : Option Nat} (h : OwnX w base v es nb) (hk : KeptT [3, 45, 50] w w') (hs : w.heap.size ≤ w'.heap.size) : OwnX w' base v es nb := by
  obtain ⟨zs, e, h, hf, hn⟩ := h
  exact ⟨zs, e, ownsRow_keptT h (hk.mono (by simp)), fun z hz => ⟨(hf z hz).1.keptT (hk.mono (by simp)), (hf z hz).2.keptT (hk.mono (by simp))⟩, fun z hz g hg => ⟨(hn z hz g hg).1, Nat.lt_of_lt_of_le (hn z hz g hg).2 hs⟩⟩
/-- the row of numbers has grown -/
theorem OwnX.grown {w w' : World} {base : Nat} {v : Value} {es : List EntryD} {nb nb' : Option Nat} (h : OwnX w base v es nb) (hg : w.grownBy w' nb) (hi : ∀ g, nb = some g → ∃ cur, w.heap[g]? = some (.cells cur 3 (0, 0))) (hn : nb' = nb ∨ nb' = some w.heap.size) : OwnX w' base v es nb' := by
  obtain ⟨zs, e, h, hf, hx⟩ := h
  have hkt : ∀ ts, 3 ∉ ts → KeptT ts w w' := fun ts ht => KeptT.grown hg (fun k e => by
    obtain ⟨cur, hc⟩ := hi k e
    exact ⟨cur, _, _, hc, ht⟩)
  refine ⟨zs, e, ownsRow_keptT h (hkt _ (by decide)), fun z hz => ⟨?_, (hf z hz).2.keptT (hkt _ (by decide))⟩, fun z hz g hgz => ⟨?_, Nat.lt_of_lt_of_le (hx z hz g hgz).2 hg.size⟩⟩
  · obtain ⟨A, c, e1, hs⟩ := (hf z hz).1
    refine ⟨A, c, e1, fun hpos => ?_⟩
    obtain ⟨b, cs, fr, eA, hb, hcs⟩ := hs hpos
    have hob : z.2.1.ownBlock = some b := by rw [e1, eA]; rfl
    obtain ⟨hne, hlt⟩ := hx z hz b hob
    exact ⟨b, cs, fr, eA, (hg.block b hlt hne).trans hb, hcs⟩
  · obtain ⟨hne, hlt⟩ := hx z hz g hgz
    rcases hn with rfl | rfl
    · exact hne
    · intro e
      injection e with e
      omega

/-- the memory: the results, the numbers of the lines, the lines -/
structure QCore (w wr : World) (ns : List Int) (v5 v7 : Value) (ps : List (List UInt8)) : Prop where
  b0 : Blk wr w.heap.size zCells 35
  b1 : Blk wr (w.heap.size + 1) #[.int .i64 0, .int .i64 0] 39
  nums : OwnI wr (w.heap.size + 3) v5 ns
  lines : OwnS wr (w.heap.size + 3) v7 ps
  below : Below w.heap.size w wr
  size : w.heap.size + 3 ≤ wr.heap.size
def ccells (c : CollD) (vE vG : Value) : Array Value := #[vE, vG, .int .i64 c.base, .int .i64 c.second, .int .i64 c.third]
/-- .. and the collation -/
structure QInv (w wr : World) (c : CollD) (ns : List Int) (v5 v7 : Value) (ps : List (List UInt8)) : Prop where
  core : QCore w wr ns v5 v7 ps
  cc : ∃ vE vG, Blk wr (w.heap.size + 2) (ccells c vE vG) 35 ∧ OwnX wr (w.heap.size + 3) vE c.entries v5.ownBlock ∧ OwnG wr (w.heap.size + 3) vG c.groups
theorem QCore.keep {w wr w' : World} {ns : List Int} {v5 v7 : Value} {ps : List (List UInt8)} (h : QCore w wr ns v5 v7 ps) (hb : Below wr.heap.size wr w') : QCore w w' ns v5 v7 ps :=
  ⟨h.b0.keep hb, h.b1.keep hb, h.nums.keep hb, h.lines.keep hb, bUp h.below hb, Nat.le_trans h.size hb.size⟩
theorem QInv.keep {w wr w' : World} {c : CollD} {ns : List Int} {v5 v7 : Value} {ps : List (List UInt8)} (h : QInv w wr c ns v5 v7 ps) (hb : Below wr.heap.size wr w') : QInv w w' c ns v5 v7 ps := by
  obtain ⟨vE, vG, h1, h2, h3⟩ := h.cc
  exact ⟨h.core.keep hb, ⟨vE, vG, h1.keep hb, h2.keptT (KeptT.of_below hb) hb.size, h3.keep hb⟩⟩
/-- a store into the collation -/
theorem QCore.put {w wr : World} {c' : CollD} {ns : List Int} {v5 v7 : Value} {ps : List (List UInt8)} {cs : Array Value} {i : Nat} {u : Value} (h : QCore w wr ns v5 v7 ps) (hB : Blk wr (w.heap.size + 2) cs 35)
    (hc : ∃ vE vG, cs.setIfInBounds i u = ccells c' vE vG ∧ OwnX wr (w.heap.size + 3) vE c'.entries v5.ownBlock ∧ OwnG wr (w.heap.size + 3) vG c'.groups) : QInv w (wr.setCell ⟨w.heap.size + 2, i, none⟩ u) c' ns v5 v7 ps := by
  obtain ⟨vE, vG, e, hX, hG⟩ := hc
  have ks : ∀ ts, 35 ∉ ts → KeptT ts wr (wr.setCell ⟨w.heap.size + 2, i, none⟩ u) := fun ts h => KeptT.set hB h i u
  exact ⟨⟨h.b0.far (by show w.heap.size ≠ w.heap.size + 2; omega) _, h.b1.far (by show w.heap.size + 1 ≠ w.heap.size + 2; omega) _, ownsRow_keptT h.nums (ks _ (by decide)), ownsRow_keptT h.lines (ks _ (by decide)), h.below.setCell (p := ⟨w.heap.size + 2, i, none⟩) (by show w.heap.size ≤ w.heap.size + 2; omega) _, by simpa using h.size⟩, ⟨vE, vG, e ▸ hB.put i u, hX.keptT (ks _ (by decide)) (by simp), hG.keptT (ks _ (by decide))⟩⟩

/-- the line of the base stored -/
theorem QInv.base {w wr : World} {c : CollD} {ns : List Int} {v5 v7 : Value} {ps : List (List UInt8)} (h : QInv w wr c ns v5 v7 ps) (a b d : Int) :
    QInv w (((((wr.setCell ⟨w.heap.size + 2, 0, none⟩ (.slice none 0 0)).setCell ⟨w.heap.size + 2, 1, none⟩ (.slice none 0 0)).setCell ⟨w.heap.size + 2, 2, none⟩ (.int .i64 a)).setCell ⟨w.heap.size + 2, 3, none⟩ (.int .i64 b)).setCell ⟨w.heap.size + 2, 4, none⟩ (.int .i64 d)) ⟨[], [], a, b, d⟩ ns v5 v7 ps := by
  obtain ⟨vE, vG, hB, hX, hG⟩ := h.cc
  have h1 := h.core.put (c' := ⟨[], c.groups, c.base, c.second, c.third⟩) (i := 0) (u := .slice none 0 0) hB ⟨_, _, rfl, OwnX.nil _ _ _, hG⟩
  have hB1 := hB.put 0 (.slice none 0 0)
  have h2 := h1.core.put (c' := ⟨[], [], c.base, c.second, c.third⟩) (i := 1) (u := .slice none 0 0) hB1 ⟨_, _, rfl, OwnX.nil _ _ _, OwnG.nil _ _⟩
  have hB2 := hB1.put 1 (.slice none 0 0)
  have h3 := h2.core.put (c' := ⟨[], [], a, c.second, c.third⟩) (i := 2) (u := .int .i64 a) hB2 ⟨_, _, rfl, OwnX.nil _ _ _, OwnG.nil _ _⟩
  have hB3 := hB2.put 2 (.int .i64 a)
  have h4 := h3.core.put (c' := ⟨[], [], a, b, c.third⟩) (i := 3) (u := .int .i64 b) hB3 ⟨_, _, rfl, OwnX.nil _ _ _, OwnG.nil _ _⟩
  have hB4 := hB3.put 3 (.int .i64 b)
  exact h4.core.put (c' := ⟨[], [], a, b, d⟩) (i := 4) (u := .int .i64 d) hB4 ⟨_, _, rfl, OwnX.nil _ _ _, OwnG.nil _ _⟩

/-- c.Groups = append(c.Groups, g) -/
theorem wpQG {ops : Array Oper} {rest : List Oper} {o : Oper} {a : Act} {Q : Exit → Act → World → Prop} {w W : World} {c : CollD} {ns : List Int} {v5 v7 : Value} {ps : List (List UInt8)} (hgd : o.guard = none) (s x : Operand) (ho : o.op = .call { callee := .builtin .append, args := #[s, x], argTypes := #[33, 33] })
    (hq : QCore w W ns v5 v7 ps) {vE vG : Value} (hB : Blk W (w.heap.size + 2) (ccells c vE vG) 35) (hX : OwnX W (w.heap.size + 3) vE c.entries v5.ownBlock) (h : OwnG W (w.heap.size + 3) vG c.groups) (hs : a.eval s = vG) (g : GroupD) (hx : a.eval x = .slice (some ⟨W.heap.size, 0, none⟩) 1 1) (hl : c.groups.length + 1 ≤ 1000000)
    (hK : ∀ v' w', IsSl v' (c.groups ++ [g]).length → Blk w' (w.heap.size + 2) (ccells c vE vG) 35 → Hid (QCore w w' ns v5 v7 ps) → Hid (QInv w (w'.setCell ⟨w.heap.size + 2, 1, none⟩ v') ⟨c.entries, c.groups ++ [g], c.base, c.second, c.third⟩ ns v5 v7 ps) → wpList Tryz.prog ops Q rest (a.put o.dst v') w') : wpList Tryz.prog ops Q (o :: rest) a (W.alloc (.cells #[.string ⟨g.name.toArray⟩, .int .i64 g.lo, .int .i64 g.hi] 47)) := by
  obtain ⟨i0, hi, hz0, hz1, hz2⟩ := info_parts infoGroup
  have hk := h.keep (bBox W (.cells #[.string ⟨g.name.toArray⟩, .int .i64 g.lo, .int .i64 g.hi] 47))
  have hcell : ∀ j u, (groupCells g)[j]? = some u → (W.alloc (.cells #[.string ⟨g.name.toArray⟩, .int .i64 g.lo, .int .i64 g.hi] 47)).cell? ((⟨W.heap.size, 0, none⟩ : Addr).add j) = some u := by
    intro j u hu
    rw [Go.WideShapes.add_plain, (Blk.new W _ _).cell]
    simpa [groupCells] using hu
  have hsz := hq.size
  refine wpList_append_own _ hgd s x 33 ho (w.heap.size + 3) 47 i0 _ 3 32 Tryz.underlying33 hi hz0 hz1 hz2 rfl (by decide) vG c.groups.length (rowG c.groups) hs hk ⟨W.heap.size, 0, none⟩ 1 1 (groupCells g) hx rfl hcell
    (fun u hu => by simp only [groupCells, List.mem_cons, List.not_mem_nil, or_false] at hu; rcases hu with rfl | rfl | rfl <;> rfl) (by unfold maxLen; omega) (by omega) (by simp; omega) ?_
  intro v' w' hown' hg _
  have kt : ∀ ts, 47 ∉ ts → KeptT ts W w' := fun ts ht => (KeptT.of_below (bBox W _)).trans (KeptT.grown hg (fun k e => by
    obtain ⟨_, cur, hc⟩ := hk.row k e
    exact ⟨cur, _, _, hc, ht⟩))
  have hsw : W.heap.size ≤ w'.heap.size := Nat.le_trans (by simp) hg.size
  have hB' : Blk w' (w.heap.size + 2) (ccells c vE vG) 35 := kt [35] (by decide) _ _ _ _ hB (by simp)
  have hG' : OwnG w' (w.heap.size + 3) v' (c.groups ++ [g]) := by
    unfold OwnG
    rw [List.length_append, rowG_snoc]
    exact hown'
  have hq' : QCore w w' ns v5 v7 ps :=
    ⟨kt [35] (by decide) _ _ _ _ hq.b0 (by simp), kt [39] (by decide) _ _ _ _ hq.b1 (by simp), ownsRow_keptT hq.nums (kt _ (by decide)), ownsRow_keptT hq.lines (kt _ (by decide)), (hq.below.alloc (by omega) _).grown hg (by simp; omega) (fun k e => by have := (hk.row k e).1; omega), by omega⟩
  exact hK v' w' hG'.form hB' (Lib.hid hq') (Lib.hid (hq'.put (c' := ⟨c.entries, c.groups ++ [g], c.base, c.second, c.third⟩) (i := 1) (u := v') hB' ⟨vE, v', rfl, hX.keptT (kt _ (by decide)) hsw, hG'⟩))
/-- c.Entries = append(c.Entries, x) -/
theorem wpQN {ops : Array Oper} {rest : List Oper} {o : Oper} {a : Act} {Q : Exit → Act → World → Prop} {w W : World} {c : CollD} {ns : List Int} {v5 v7 : Value} {ps : List (List UInt8)} (hgd : o.guard = none) (s x : Operand) (ho : o.op = .call { callee := .builtin .append, args := #[s, x], argTypes := #[32, 32] })
    (hq : QCore w W ns v5 v7 ps) {vE vG : Value} (hB : Blk W (w.heap.size + 2) (ccells c vE vG) 35) (hX : OwnX W (w.heap.size + 3) vE c.entries v5.ownBlock) (hG : OwnG W (w.heap.size + 3) vG c.groups) (hs : a.eval s = vE) (e : EntryD) {v1 v2 : Value} (h1 : CdB W v1 e.codes) (h2 : ElB W v2 e.els) (hsep : ∀ g, v1.ownBlock = some g → some g ≠ v5.ownBlock ∧ g < W.heap.size) (hx : a.eval x = .slice (some ⟨W.heap.size, 0, none⟩) 1 1) (hl : c.entries.length + 1 ≤ 1000000)
    (hK : ∀ v' w', IsSl v' (c.entries ++ [e]).length → Blk w' (w.heap.size + 2) (ccells c vE vG) 35 → Hid (QCore w w' ns v5 v7 ps) → Hid (QInv w (w'.setCell ⟨w.heap.size + 2, 0, none⟩ v') ⟨c.entries ++ [e], c.groups, c.base, c.second, c.third⟩ ns v5 v7 ps) → wpList Tryz.prog ops Q rest (a.put o.dst v') w') : wpList Tryz.prog ops Q (o :: rest) a (W.alloc (.cells #[v1, v2] 50)) := by
  obtain ⟨i0, hi, hz0, hz1, hz2⟩ := info_parts infoEntry
  have hW1 := bBox W (.cells #[v1, v2] 50)
  have hX1 := hX.keptT (KeptT.of_below hW1) hW1.size
  have hrow := hX1.own.row
  obtain ⟨zs, hzs, hk, hf, hn⟩ := hX1
  have hcell : ∀ j u, [v1, v2][j]? = some u → (W.alloc (.cells #[v1, v2] 50)).cell? ((⟨W.heap.size, 0, none⟩ : Addr).add j) = some u := by
    intro j u hu
    rw [Go.WideShapes.add_plain, (Blk.new W _ _).cell]
    simpa using hu
  have hone : v1.oneCell' = true ∧ v2.oneCell' = true := by
    obtain ⟨A1, c1, r1, _⟩ := h1
    obtain ⟨A2, c2, r2, _⟩ := h2
    rw [r1, r2]
    exact ⟨rfl, rfl⟩
  have hsz := hq.size
  refine wpList_append_own _ hgd s x 32 ho (w.heap.size + 3) 50 i0 _ 2 48 Tryz.underlying32 hi hz0 hz1 hz2 rfl (by decide) vE c.entries.length (rowN zs) hs hk ⟨W.heap.size, 0, none⟩ 1 1 [v1, v2] hx rfl hcell
    (fun u hu => by simp only [List.mem_cons, List.not_mem_nil, or_false] at hu; rcases hu with rfl | rfl; exact hone.1; exact hone.2) (by unfold maxLen; omega) (by omega) (by simp; omega) ?_
  intro v' w' hown' hg _
  have kt1 : ∀ ts, 50 ∉ ts → KeptT ts (W.alloc (.cells #[v1, v2] 50)) w' := fun ts ht => KeptT.grown hg (fun k e => by
    obtain ⟨_, cur, hc⟩ := hrow k e
    exact ⟨cur, _, _, hc, ht⟩)
  have kt : ∀ ts, 50 ∉ ts → KeptT ts W w' := fun ts ht => (KeptT.of_below hW1).trans (kt1 ts ht)
  have hsw : W.heap.size ≤ w'.heap.size := Nat.le_trans hW1.size hg.size
  have hB' : Blk w' (w.heap.size + 2) (ccells c vE vG) 35 := kt [35] (by decide) _ _ _ _ hB (by simp)
  have hX' : OwnX w' (w.heap.size + 3) v' (c.entries ++ [e]) v5.ownBlock := by
    refine ⟨zs ++ [(e, v1, v2)], by simp [hzs], ?_, fun z hz => ?_, fun z hz g hgz => ?_⟩
    · rw [List.length_append, rowN_snoc]
      exact hown'
    · rcases List.mem_append.1 hz with hz | hz
      · exact ⟨(hf z hz).1.keptT (kt1 _ (by decide)), (hf z hz).2.keptT (kt1 _ (by decide))⟩
      · simp at hz
        subst hz
        exact ⟨h1.keptT (kt _ (by decide)), h2.keptT (kt _ (by decide))⟩
    · rcases List.mem_append.1 hz with hz | hz
      · exact ⟨(hn z hz g hgz).1, Nat.lt_of_lt_of_le (hn z hz g hgz).2 hg.size⟩
      · simp at hz
        subst hz
        exact ⟨(hsep g hgz).1, Nat.lt_of_lt_of_le (hsep g hgz).2 hsw⟩
  have hq' : QCore w w' ns v5 v7 ps :=
    ⟨kt [35] (by decide) _ _ _ _ hq.b0 (by simp), kt [39] (by decide) _ _ _ _ hq.b1 (by simp), ownsRow_keptT hq.nums (kt _ (by decide)), ownsRow_keptT hq.lines (kt _ (by decide)), (hq.below.alloc (by omega) _).grown hg (by simp; omega) (fun k e => by have := (hrow k e).1; omega), by omega⟩
  exact hK v' w' hX'.own.form hB' (Lib.hid hq') (Lib.hid (hq'.put (c' := ⟨c.entries ++ [e], c.groups, c.base, c.second, c.third⟩) (i := 0) (u := v') hB' ⟨v', vG, rfl, hX', hG.keptT (kt _ (by decide))⟩))
/-- numbers = append(numbers, n) -/
theorem wpQI {ops : Array Oper} {rest : List Oper} {o : Oper} {a : Act} {Q : Exit → Act → World → Prop} {w W : World} {c : CollD} {ns : List Int} {v5 v7 : Value} {ps : List (List UInt8)} (hgd : o.guard = none) (s x : Operand) (ho : o.op = .call { callee := .builtin .append, args := #[s, x], argTypes := #[48, 48] })
    (hq : QInv w W c ns v5 v7 ps) (hs : a.eval s = v5) (n : Int) (hx : a.eval x = .slice (some ⟨W.heap.size, 0, none⟩) 1 1) (hl : ns.length + 1 ≤ 1000000)
    (hK : ∀ v' w', Hid (QInv w w' c (ns ++ [n]) v' v7 ps) → wpList Tryz.prog ops Q rest (a.put o.dst v') w') : wpList Tryz.prog ops Q (o :: rest) a (W.alloc (.cells #[.int .i64 n] 3)) := by
  obtain ⟨i0, hi, hz0, hz1, hz2⟩ := info_parts infoInt
  have hW1 := bBox W (.cells #[.int .i64 n] 3)
  have hq1 := hq.keep hW1
  have hsz := hq.core.size
  have hN := hq1.core.nums
  have hrow : ∀ g, v5.ownBlock = some g → w.heap.size + 3 ≤ g ∧ ∃ cur, (W.alloc (.cells #[.int .i64 n] 3)).heap[g]? = some (.cells cur 3 (0, 0)) := fun g hg => by
    rcases hN.2 with ⟨e0, _⟩ | ⟨g', cap, cur, e0, hb, hc, _⟩
    · rw [e0] at hg
      cases hg
    · rw [e0] at hg
      simp only [Value.ownBlock, Option.some.injEq] at hg
      subst hg
      exact ⟨hb, cur, hc⟩
  refine wpList_append_own_at _ hgd s x 48 ho (w.heap.size + 3) 3 i0 (.int .i64 0) 1 8 Tryz.underlying48 hi hz0 hz1 hz2 rfl (by decide) v5 ns.length (intVals ns) hs hN ⟨W.heap.size, 0, none⟩ 1 1 (intVals [n]) hx rfl
    (fun j u hu => by rw [Go.WideShapes.add_plain, (Blk.new W _ _).cell]; simpa [intVals] using hu) (fun u hu => by simp [intVals] at hu; subst hu; rfl) (by unfold maxLen; omega) (by omega) (by simp; omega) ?_
  intro v' w' hown' hg _ hat
  have kt : ∀ ts, 3 ∉ ts → KeptT ts (W.alloc (.cells #[.int .i64 n] 3)) w' := fun ts ht => KeptT.grown hg (fun k e => by
    obtain ⟨_, cur, hc⟩ := hrow k e
    exact ⟨cur, _, _, hc, ht⟩)
  obtain ⟨vE, vG, hB, hX, hG⟩ := hq1.cc
  refine hK v' w' (Lib.hid ⟨⟨kt [35] (by decide) _ _ _ _ hq1.core.b0 (by simp), kt [39] (by decide) _ _ _ _ hq1.core.b1 (by simp), ?_, ownsRow_keptT hq1.core.lines (kt _ (by decide)), hq1.core.below.grown hg (by simp; omega) (fun k e => by have := (hrow k e).1; omega), Nat.le_trans hq1.core.size hg.size⟩, ⟨vE, vG, kt [35] (by decide) _ _ _ _ hB (by simp), hX.grown hg (fun g e => (hrow g e).2) hat, hG.keptT (kt _ (by decide))⟩⟩)
  unfold OwnI
  rw [List.length_append]
  simpa [intVals] using hown'

/-- the memory at the beginning -/
theorem QInv.new {w w1 : World} {A : Option Addr} {cp : Nat} {ps : List (List UInt8)}
    (hb : Below (((w.alloc (.cells zCells 35)).alloc (.cells #[.int .i64 0, .int .i64 0] 39)).alloc (.cells zCells 35)).heap.size (((w.alloc (.cells zCells 35)).alloc (.cells #[.int .i64 0, .int .i64 0] 39)).alloc (.cells zCells 35)) w1)
    (hO : OwnS w1 (((w.alloc (.cells zCells 35)).alloc (.cells #[.int .i64 0, .int .i64 0] 39)).alloc (.cells zCells 35)).heap.size (.slice A ps.length cp) ps) : QInv w w1 zeroC [] (.slice none 0 0) (.slice A ps.length cp) ps := by
  have s1 : (w.alloc (.cells zCells 35)).heap.size = w.heap.size + 1 := by simp
  have s2 : ((w.alloc (.cells zCells 35)).alloc (.cells #[.int .i64 0, .int .i64 0] 39)).heap.size = w.heap.size + 2 := by simp
  have s3 : (((w.alloc (.cells zCells 35)).alloc (.cells #[.int .i64 0, .int .i64 0] 39)).alloc (.cells zCells 35)).heap.size = w.heap.size + 3 := by simp
  have hO' := hO
  rw [s3] at hO'
  have hsize := hb.size
  rw [s3] at hsize
  refine ⟨⟨(((Blk.new w _ _).alloc _).alloc _).keep hb, ?_, OwnI.nil _ _, hO', bUp (bUp (bUp (bBox _ _) (bBox _ _)) (bBox _ _)) hb, hsize⟩, ⟨.slice none 0 0, .slice none 0 0, ?_, OwnX.nil _ _ _, OwnG.nil _ _⟩⟩
  · have h := ((Blk.new (w.alloc (.cells zCells 35)) #[.int .i64 0, .int .i64 0] 39).alloc (.cells zCells 35)).keep hb
    rwa [s1] at h
  · have h := (Blk.new ((w.alloc (.cells zCells 35)).alloc (.cells #[.int .i64 0, .int .i64 0] 39)) zCells 35).keep hb
    rw [s2] at h
    exact h
theorem QCore.fin {w wr : World} {ns : List Int} {v5 v7 : Value} {ps : List (List UInt8)} (h : QCore w wr ns v5 v7 ps) (u0 u1 u2 u3 u4 x0 x1 : Value) : Below w.heap.size w (set7 wr w.heap.size u0 u1 u2 u3 u4 x0 x1) := by
  have h5 := ((((h.below.setCell (p := ⟨w.heap.size, 0, none⟩) (Nat.le_refl _) u0).setCell (p := ⟨w.heap.size, 1, none⟩) (Nat.le_refl _) u1).setCell (p := ⟨w.heap.size, 2, none⟩) (Nat.le_refl _) u2).setCell (p := ⟨w.heap.size, 3, none⟩) (Nat.le_refl _) u3).setCell (p := ⟨w.heap.size, 4, none⟩) (Nat.le_refl _) u4
  exact (h5.setCell (p := ⟨w.heap.size + 1, 0, none⟩) (Nat.le_succ _) x0).setCell (p := ⟨w.heap.size + 1, 1, none⟩) (Nat.le_succ _) x1
theorem QCore.finK {w wr : World} {ns : List Int} {v5 v7 : Value} {ps : List (List UInt8)} (h : QCore w wr ns v5 v7 ps) (u0 u1 u2 u3 u4 x0 x1 : Value) {ts : List TypeId} (h1 : 35 ∉ ts) (h2 : 39 ∉ ts) : KeptT ts wr (set7 wr w.heap.size u0 u1 u2 u3 u4 x0 x1) := by
  have c0 := h.b0.put 0 u0
  have c1 := c0.put 1 u1
  have c2 := c1.put 2 u2
  have c3 := c2.put 3 u3
  have hb1 : Blk ((((wr.setCell ⟨w.heap.size, 0, none⟩ u0).setCell ⟨w.heap.size, 1, none⟩ u1).setCell ⟨w.heap.size, 2, none⟩ u2).setCell ⟨w.heap.size, 3, none⟩ u3 |>.setCell ⟨w.heap.size, 4, none⟩ u4) (w.heap.size + 1) #[.int .i64 0, .int .i64 0] 39 := ((((h.b1.far (by show w.heap.size + 1 ≠ w.heap.size; omega) _).far (by show w.heap.size + 1 ≠ w.heap.size; omega) _).far (by show w.heap.size + 1 ≠ w.heap.size; omega) _).far (by show w.heap.size + 1 ≠ w.heap.size; omega) _).far (by show w.heap.size + 1 ≠ w.heap.size; omega) _
  have d0 := hb1.put 0 x0
  exact ((((((KeptT.set h.b0 h1 0 u0).trans (KeptT.set c0 h1 1 u1)).trans (KeptT.set c1 h1 2 u2)).trans (KeptT.set c2 h1 3 u3)).trans (KeptT.set c3 h1 4 u4)).trans (KeptT.set hb1 h2 0 x0)).trans (KeptT.set d0 h2 1 x1)
end Go.Proofs.YthogkokifiibnaaGreatDoor
