/- net.put and net.add at a pattern of one class net.add at a pattern of one class machine.add: how what it keeps in memory turns; its start The numbering of sets, old or new -/
import Derived.Test.YtlmdjggpeiddoaaDoorD9
import Derived.Deep.RegionLaw
namespace Go.Proofs.YtlmdjggpeiddoaaDoor
open Go.RowKit Go.Sort

theorem infoNode : (Tryd.prog.info? 93).map (fun i => (i.zero, i.size, i.bytes)) = some (some (.agg #[.slice none 0 0, .slice none 0 0]), 2, 48) := by kernel_rfl
theorem undrew {w w' : World} {row : Option Nat} (h : w.drew.grownBy w' row) : w.grownBy w' row := ⟨h.os, h.tape, h.output, h.size, h.block⟩
/-- blocks that are no nodes and no nets are kept -/
def KeptN (w w' : World) : Prop := ∀ (b : Nat) (o : Obj), w.heap[b]? = some o → (∀ cs fr, o ≠ .cells cs 93 fr) → (∀ cs fr, o ≠ .cells cs 96 fr) → w'.heap[b]? = some o
theorem KeptN.refl (w : World) : KeptN w w := fun _ _ h _ _ => h
theorem KeptN.trans {a b c : World} (h : KeptN a b) (k : KeptN b c) : KeptN a c := fun x o h1 h2 h3 => k x o (h x o h1 h2 h3) h2 h3
theorem KeptN.below {w w' : World} (h : Below w.heap.size w w') : KeptN w w' := fun b _ h1 _ _ => (h.block b (Array.getElem?_eq_some_iff.1 h1).1).trans h1
theorem KeptN.grown {w w' : World} {row : Option Nat} {t : TypeId} (hg : w.grownBy w' row) (hr : ∀ g, row = some g → ∃ cs, w.heap[g]? = some (.cells cs t (0, 0))) (ht : t = 93 ∨ t = 96) : KeptN w w' := by
  intro b o h1 h2 h3
  rw [hg.block b (Array.getElem?_eq_some_iff.1 h1).1 ?_, h1]
  intro e
  obtain ⟨cs, hc⟩ := hr b e.symm
  rw [h1] at hc
  injection hc with hc
  rcases ht with rfl | rfl
  · exact h2 _ _ hc
  · exact h3 _ _ hc
theorem KeptN.blk {w w' : World} (h : KeptN w w') {b : Nat} {cs : Array Value} {t : TypeId} (hb : Blk w b cs t) (h1 : t ≠ 93) (h2 : t ≠ 96) : Blk w' b cs t :=
  h b _ hb (fun _ _ e => by injection e with _ e2; exact h1 e2) (fun _ _ e => by injection e with _ e2; exact h2 e2)
theorem KeptN.ct {w w' : World} (h : KeptN w w') {b i : Nat} {t : TypeId} {v : Value} (hb : CT w b i t v) (h1 : t ≠ 93) (h2 : t ≠ 96) : CT w' b i t v := by
  obtain ⟨cs, fr, hc, hv⟩ := hb
  exact ⟨cs, fr, h b _ hc (fun _ _ e => by injection e with _ e2; exact h1 e2) (fun _ _ e => by injection e with _ e2; exact h2 e2), hv⟩
/-- append of a node, as a step inside a region that draws its order -/
theorem stepNode {ops : Array Oper} {o : Oper} {a : Act} {K : Act → World → Prop} {Q : Exit → Act → World → Prop} {E : Prop} {W : World} (hgd : o.guard = none) (s x : Operand) (ho : o.op = .call { callee := .builtin .append, args := #[s, x], argTypes := #[94, 94] })
    {base : Nat} {v : Value} {n : Nat} {xs : List Value} (hv : a.eval s = v) (h : W.ownsRow base 93 2 v n xs) (c1 c2 : Value) (h1 : c1.oneCell' = true) (h2 : c2.oneCell' = true) (b : Nat) (hb1 : W.cell? ⟨b, 0, none⟩ = some c1) (hb2 : W.cell? ⟨b, 1, none⟩ = some c2) (hx : a.eval x = .slice (some ⟨b, 0, none⟩) 1 1) (hl : n + 1 ≤ 1000000) (hb : base ≤ W.heap.size)
    (hK : ∀ v' w', Hid (w'.ownsRow base 93 2 v' (n + 1) (xs ++ [c1, c2])) → Hid (W.grownBy w' v.ownBlock) → K (a.put o.dst v') w') : if Region.wanted o (yielded ops a.tmps) = true then Oper.wp Tryd.prog o a W K Q else E := by
  rw [if_pos (by simp [Region.wanted, hgd])]
  obtain ⟨i0, hi, hz0, hz1, hz2⟩ := info_parts infoNode
  obtain ⟨v', w', hr, hown', hg, _⟩ := run_append_own_at (P := Tryd.prog) W base 94 o.type 93 i0 _ 2 48 Tryd.underlying94 hi hz0 hz1 hz2 rfl (by decide) v n xs h ⟨b, 0, none⟩ 1 1 [c1, c2] rfl
    (fun j u hu => by
      match j, hu with
      | 0, hu =>
        simp at hu
        subst hu
        exact hb1
      | 1, hu =>
        simp at hu
        subst hu
        exact hb2) (fun u hu => by simp at hu; rcases hu with rfl | rfl; exact h1; exact h2) (by unfold maxLen; omega) (by omega) hb
  unfold Oper.wp execOp
  simp only [ho, resolve, invoke, builtin, Sem.run_bind, Sem.run_pure, Result.andThen_ok, List.map_toArray, List.map_cons, List.map_nil, hv, hx, hr]
  exact hK v' w' (Lib.hid hown') (Lib.hid hg)
/-- a node has been put -/
def PutOut (B M N : Nat) (bk : Bool) (xs : List Value) (n : Nat) (c1 c2 : Value) (w : World) (e : Ending) (w' : World) : Prop :=
  ∃ v', e = .returned (.int .i64 n) ∧ Blk w' N #[v', .bool bk] 96 ∧ w'.ownsRow B 93 2 v' (n + 1) (xs ++ [c1, c2]) ∧ KeptN w w' ∧ w.heap.size ≤ w'.heap.size ∧ ∀ w0, KeptM B M w0 w → KeptM B M w0 w'

set_option maxHeartbeats 8000000 in
set_option maxRecDepth 100000 in
theorem put (B M N : Nat) (bk : Bool) (v : Value) (xs : List Value) (n : Nat) (A1 A2 : Option Addr) (l1 l2 k1 k2 : Nat) (w : World) (hN : Blk w N #[v, .bool bk] 96) (hv : w.ownsRow B 93 2 v n xs) (hn : n ≤ 1000) (hB : B ≤ w.heap.size) (hBN : B ≤ N) :
    Calls Tryd.prog 77 #[.pointer (some ⟨N, 0, none⟩), .agg #[.slice A1 l1 k1, .slice A2 l2 k2]] w (PutOut B M N bk xs n (.slice A1 l1 k1) (.slice A2 l2 k2) w) := by
  have hbx := bBox w (.cells #[.slice A1 l1 k1, .slice A2 l2 k2] 93)
  have hN1 := Lib.hid (hN.keep hbx)
  have hv1 := Lib.hid (World.ownsRow.kept hv (grown_below hbx none) (by cases v.ownBlock <;> simp))
  have d0 : (w.alloc (.cells #[.slice A1 l1 k1, .slice A2 l2 k2] 93)).cell? ⟨w.heap.size, 0, none⟩ = some (.slice A1 l1 k1) := cell_box _ _ _ 0
  have d1 : (w.alloc (.cells #[.slice A1 l1 k1, .slice A2 l2 k2] 93)).cell? ⟨w.heap.size, 1, none⟩ = some (.slice A2 l2 k2) := cell_box _ _ _ 1
  have c0 : (w.alloc (.cells #[.slice A1 l1 k1, .slice A2 l2 k2] 93)).cell? ⟨N, 0, none⟩ = some v := hN1.out.cell 0
  go_enter Tryd.func77, Tryd.ntmps77
  go_wp2_with fail
  have HKN1 := Lib.hid (KeptN.below hbx)
  have HKM1 := Lib.hid (fun w0 (h0 : KeptM B M w0 w) => h0.below hbx)
  have hx1 := Lib.hid (Blk.new w #[.slice A1 l1 k1, .slice A2 l2 k2] 93)
  have hsz1 : (w.alloc (.cells #[.slice A1 l1 k1, .slice A2 l2 k2] 93)).heap.size = w.heap.size + 1 := by simp
  have hne := Lib.hid (show some w.heap.size ≠ v.ownBlock from fun e => by
    have := (World.ownsRow.lt hv w.heap.size e.symm).2
    omega)
  have hneN := Lib.hid (show some w.heap.size ≠ some N from fun e => by
    injection e with e
    have := hN.lt
    omega)
  have hbase3 := Lib.hid (fun g e => (World.ownsRow.lt hv g e).1)
  generalize hw1 : w.alloc (.cells #[.slice A1 l1 k1, .slice A2 l2 k2] 93) = w1 at d0 d1 c0 hN1 hv1 HKN1 HKM1 hx1 hsz1 ⊢
  clear hw1 hbx
  have hs1 : w.heap.size < w1.heap.size := by omega
  have hb1 : B ≤ w1.heap.size := by omega
  clear hsz1
  have hbz := bBox w1 (.cells #[.slice A1 l1 k1, .slice A2 l2 k2] 93)
  have g0 : (w1.alloc (.cells #[.slice A1 l1 k1, .slice A2 l2 k2] 93)).cell? ⟨w.heap.size, 0, none⟩ = some (.slice A1 l1 k1) := cell_keep hbz d0
  have g1 : (w1.alloc (.cells #[.slice A1 l1 k1, .slice A2 l2 k2] 93)).cell? ⟨w.heap.size, 1, none⟩ = some (.slice A2 l2 k2) := cell_keep hbz d1
  have x4 : (w1.alloc (.cells #[.slice A1 l1 k1, .slice A2 l2 k2] 93)).cell? ⟨N, 0, none⟩ = some v := cell_keep hbz c0
  have x0 : (w1.alloc (.cells #[.slice A1 l1 k1, .slice A2 l2 k2] 93)).cell? ⟨w1.heap.size, 0, none⟩ = some (.slice A1 l1 k1) := cell_box _ _ _ 0
  have x1 : (w1.alloc (.cells #[.slice A1 l1 k1, .slice A2 l2 k2] 93)).cell? ⟨w1.heap.size, 1, none⟩ = some (.slice A2 l2 k2) := cell_box _ _ _ 1
  have hN3 := Lib.hid (hN1.out.keep hbz)
  have hv3 := Lib.hid (World.ownsRow.kept hv1.out (grown_below hbz none) (by cases v.ownBlock <;> simp))
  have hB3 : B ≤ (w1.alloc (.cells #[.slice A1 l1 k1, .slice A2 l2 k2] 93)).heap.size := by simp; omega
  have hrow3 := Lib.hid (fun g (e : v.ownBlock = some g) => (show ∃ cs, (w1.alloc (.cells #[.slice A1 l1 k1, .slice A2 l2 k2] 93)).heap[g]? = some (.cells cs 93 (0, 0)) from by
    rcases hv3.out.2 with ⟨rfl, _⟩ | ⟨g', cap, cur, rfl, _, hc, _⟩
    · cases e
    · simp only [Value.ownBlock, Option.some.injEq] at e
      subst e
      exact ⟨cur, hc⟩))
  have hx3 := Lib.hid (hx1.out.keep hbz)
  have hKN3 := Lib.hid (HKN1.out.trans (KeptN.below hbz))
  have hKM3 := Lib.hid (fun w0 h0 => (HKM1.out w0 h0).below hbz)
  have hsz3 : w.heap.size ≤ (w1.alloc (.cells #[.slice A1 l1 k1, .slice A2 l2 k2] 93)).heap.size := by simp; omega
  clear hbz HKN1 HKM1 hx1 hv1
  refine wp_region_held_drew (S := fun (w' : World) => w'.cell? ⟨w.heap.size, 0, none⟩ = some (.slice A1 l1 k1) ∧ w'.cell? ⟨w.heap.size, 1, none⟩ = some (.slice A2 l2 k2)) (by kernel_rfl) ⟨d0, d1⟩ ?_
  intro hHeld
  refine wpAnyH_take (i := 0) (v := ?_) rfl (by kernel_rfl) (by kernel_rfl) (by kernel_rfl) (fun _ _ _ h => h) (Or.inl ⟨by rfl, ?_⟩) (by assumption) ?_
  rotate_left 1
  · intro w hSw
    (try dsimp only at hSw)
    go_simp
    (try with_reducible rfl)
  refine wpAnyH_take (i := 1) (v := ?_) rfl (by kernel_rfl) (by kernel_rfl) (by kernel_rfl) (fun _ _ _ h => h) (Or.inl ⟨by rfl, ?_⟩) (by assumption) ?_
  rotate_left 1
  · intro w hSw
    (try dsimp only at hSw)
    go_simp
    (try with_reducible rfl)
  refine wpAnyH_take (i := 2) (v := ?_) rfl (by kernel_rfl) (by kernel_rfl) (by kernel_rfl) (fun _ _ _ h => h) (Or.inl ⟨by rfl, ?_⟩) (by assumption) ?_
  rotate_left 1
  · intro w hSw
    (try dsimp only at hSw)
    go_simp
    (try with_reducible rfl)
  refine wpAnyH_take (i := 3) (v := ?_) rfl (by kernel_rfl) (by kernel_rfl) (by kernel_rfl) (fun _ _ _ h => h) (Or.inl ⟨by rfl, ?_⟩) (by assumption) ?_
  rotate_left 1
  · intro w hSw
    (try dsimp only at hSw)
    go_simp
    (try with_reducible rfl)
  refine wpAnyH_take (i := 5) (v := ?_) rfl (by kernel_rfl) (by kernel_rfl) (by kernel_rfl) (fun _ _ _ h => h) (Or.inl ⟨by rfl, ?_⟩) (by assumption) ?_
  rotate_left 1
  · intro w hSw
    (try dsimp only at hSw)
    go_simp
    (try with_reducible rfl)
  clear hHeld
  refine wpAnyH_ready (rs := [4, 6]) (by kernel_rfl) (by simp) ?_
  refine AllReadyH.cons rfl (fun K hK => ?_) (AllReadyH.cons rfl (fun K hK => ?_) AllReadyH.nil)
  · skip
    go_simp
    refine hK.out _ _ ⟨d0, d1⟩ (fun _ => ?_)
    clear hK K
    refine wpAnyH_ready (rs := [6]) (by kernel_rfl) (by simp) ?_
    refine AllReadyH.cons rfl (fun K hK => ?_) AllReadyH.nil
    go_simp
    refine hK.out _ _ ⟨g0, g1⟩ (fun _ => ?_)
    clear hK K
    refine wpAnyH_ready (rs := [7]) (by kernel_rfl) (by simp) ?_
    refine AllReadyH.cons rfl (fun K hK => ?_) AllReadyH.nil
    refine stepNode rfl _ _ rfl rfl hv3.out (.slice A1 l1 k1) (.slice A2 l2 k2) rfl rfl w1.heap.size x0 x1 rfl (by omega) hB3 ?_
    intro v' w7 hO7 hg7
    replace hg7 : Hid ((w1.alloc (.cells #[.slice A1 l1 k1, .slice A2 l2 k2] 93)).grownBy w7 v.ownBlock) := Lib.hid (undrew hg7.out)
    obtain ⟨g, cap, hv', -, hlt7⟩ := World.ownsRow.form hO7.out (by omega)
    subst hv'
    have hN7 : Blk w7 N #[v, .bool bk] 96 := hN3.out.away hg7.out (Away.of_row (hrow3.out) (by decide))
    have q0 : w7.cell? ⟨w.heap.size, 0, none⟩ = some (.slice A1 l1 k1) := (hx3.out.grown hg7.out hne.out).cell 0
    have q1 : w7.cell? ⟨w.heap.size, 1, none⟩ = some (.slice A2 l2 k2) := (hx3.out.grown hg7.out hne.out).cell 1
    have e0 : w7.cell? ⟨N, 0, none⟩ = some v := hN7.cell 0
    have e5 := hN7.frozen 0
    refine hK.out _ _ ⟨q0, q1⟩ (fun hHeld => ?_)
    clear hK K
    refine wpAnyH_take (i := 8) (v := ?_) rfl (by kernel_rfl) (by kernel_rfl) (by kernel_rfl) (fun _ _ _ h => h) (Or.inl ⟨by rfl, ?_⟩) (by assumption) ?_
    rotate_left 1
    · intro w hSw
      (try dsimp only at hSw)
      go_simp
      (try with_reducible rfl)
    refine wpAnyH_take (i := 9) (v := ?_) rfl (by kernel_rfl) (by kernel_rfl) (by kernel_rfl) (fun _ _ _ h => h) (Or.inl ⟨by rfl, ?_⟩) (by assumption) ?_
    rotate_left 1
    · intro w hSw
      (try dsimp only at hSw)
      go_simp
      (try with_reducible rfl)
    clear hHeld
    have r0 : (w7.setCell ⟨N, 0, none⟩ (.slice (some ⟨g, 0, none⟩) (n + 1) cap)).cell? ⟨w.heap.size, 0, none⟩ = some (.slice A1 l1 k1) := ((hx3.out.grown hg7.out hne.out).grown (grown_set w7 ⟨N, 0, none⟩ (.slice (some ⟨g, 0, none⟩) (n + 1) cap)) hneN.out).cell 0
    have r1 : (w7.setCell ⟨N, 0, none⟩ (.slice (some ⟨g, 0, none⟩) (n + 1) cap)).cell? ⟨w.heap.size, 1, none⟩ = some (.slice A2 l2 k2) := ((hx3.out.grown hg7.out hne.out).grown (grown_set w7 ⟨N, 0, none⟩ (.slice (some ⟨g, 0, none⟩) (n + 1) cap)) hneN.out).cell 1
    refine wpAnyH_ready (rs := [10]) (by kernel_rfl) (by simp) ?_
    refine AllReadyH.cons rfl (fun K hK => ?_) AllReadyH.nil
    go_simp
    refine hK.out _ _ ⟨r0, r1⟩ (fun _ => ?_)
    clear hK K
    refine wpAnyH_done (by kernel_rfl) ?_ _
    have hN8 := Lib.hid (hN7.setAll (i := 0) (.slice (some ⟨g, 0, none⟩) (n + 1) cap))
    have hs8 := grown_set w7 ⟨N, 0, none⟩ (.slice (some ⟨g, 0, none⟩) (n + 1) cap)
    have hO8 := Lib.hid (World.ownsRow.kept hO7.out hs8 (by
      right
      intro e
      obtain ⟨g2, cap2, cur2, hv2, _, hc2, _⟩ := (hO7.out.2.resolve_left (fun h => by cases h.1))
      injection hv2 with hv2
      injection hv2 with hv2
      injection hv2 with hv2
      subst hv2
      injection e with e
      subst e
      exact Away.of_cells (t' := 96) hN7 (t := 93) (by decide) _ rfl _ _ hc2))
    have hKN := (hKN3.out.trans (KeptN.grown hg7.out hrow3.out (.inl rfl))).trans (KeptN.grown hs8 (fun g e => by injection e with e; subst e; exact ⟨_, hN7⟩) (.inr rfl))
    have hsz8 := hs8.size
    have hsz7 := hg7.out.size
    have hKM := fun w0 h0 => ((hKM3.out w0 h0).grown hg7.out (fun g e => .inl (hbase3.out g e))).grown hs8 (fun g e => .inl (by injection e with e; subst e; exact hBN))
    have y0 : (w7.setCell ⟨N, 0, none⟩ (.slice (some ⟨g, 0, none⟩) (n + 1) cap)).cell? ⟨N, 0, none⟩ = some (.slice (some ⟨g, 0, none⟩) (n + 1) cap) := hN8.out.cell 0
    clear e0 e5 q0 q1 r0 r1 x0 x1 x4 g0 g1 d0 d1 c0
    go_wp2_with fail
    go_ret
    exact ⟨_, by go_num, hN8.out, hO8.out, hKN, by omega, hKM⟩
  · skip
    go_simp
    refine hK.out _ _ ⟨g0, g1⟩ (fun _ => ?_)
    clear hK K
    refine wpAnyH_ready (rs := [4]) (by kernel_rfl) (by simp) ?_
    refine AllReadyH.cons rfl (fun K hK => ?_) AllReadyH.nil
    go_simp
    refine hK.out _ _ ⟨g0, g1⟩ (fun _ => ?_)
    clear hK K
    refine wpAnyH_ready (rs := [7]) (by kernel_rfl) (by simp) ?_
    refine AllReadyH.cons rfl (fun K hK => ?_) AllReadyH.nil
    refine stepNode rfl _ _ rfl rfl hv3.out (.slice A1 l1 k1) (.slice A2 l2 k2) rfl rfl w1.heap.size x0 x1 rfl (by omega) hB3 ?_
    intro v' w7 hO7 hg7
    replace hg7 : Hid ((w1.alloc (.cells #[.slice A1 l1 k1, .slice A2 l2 k2] 93)).grownBy w7 v.ownBlock) := Lib.hid (undrew hg7.out)
    obtain ⟨g, cap, hv', -, hlt7⟩ := World.ownsRow.form hO7.out (by omega)
    subst hv'
    have hN7 : Blk w7 N #[v, .bool bk] 96 := hN3.out.away hg7.out (Away.of_row (hrow3.out) (by decide))
    have q0 : w7.cell? ⟨w.heap.size, 0, none⟩ = some (.slice A1 l1 k1) := (hx3.out.grown hg7.out hne.out).cell 0
    have q1 : w7.cell? ⟨w.heap.size, 1, none⟩ = some (.slice A2 l2 k2) := (hx3.out.grown hg7.out hne.out).cell 1
    have e0 : w7.cell? ⟨N, 0, none⟩ = some v := hN7.cell 0
    have e5 := hN7.frozen 0
    refine hK.out _ _ ⟨q0, q1⟩ (fun hHeld => ?_)
    clear hK K
    refine wpAnyH_take (i := 8) (v := ?_) rfl (by kernel_rfl) (by kernel_rfl) (by kernel_rfl) (fun _ _ _ h => h) (Or.inl ⟨by rfl, ?_⟩) (by assumption) ?_
    rotate_left 1
    · intro w hSw
      (try dsimp only at hSw)
      go_simp
      (try with_reducible rfl)
    refine wpAnyH_take (i := 9) (v := ?_) rfl (by kernel_rfl) (by kernel_rfl) (by kernel_rfl) (fun _ _ _ h => h) (Or.inl ⟨by rfl, ?_⟩) (by assumption) ?_
    rotate_left 1
    · intro w hSw
      (try dsimp only at hSw)
      go_simp
      (try with_reducible rfl)
    clear hHeld
    have r0 : (w7.setCell ⟨N, 0, none⟩ (.slice (some ⟨g, 0, none⟩) (n + 1) cap)).cell? ⟨w.heap.size, 0, none⟩ = some (.slice A1 l1 k1) := ((hx3.out.grown hg7.out hne.out).grown (grown_set w7 ⟨N, 0, none⟩ (.slice (some ⟨g, 0, none⟩) (n + 1) cap)) hneN.out).cell 0
    have r1 : (w7.setCell ⟨N, 0, none⟩ (.slice (some ⟨g, 0, none⟩) (n + 1) cap)).cell? ⟨w.heap.size, 1, none⟩ = some (.slice A2 l2 k2) := ((hx3.out.grown hg7.out hne.out).grown (grown_set w7 ⟨N, 0, none⟩ (.slice (some ⟨g, 0, none⟩) (n + 1) cap)) hneN.out).cell 1
    refine wpAnyH_ready (rs := [10]) (by kernel_rfl) (by simp) ?_
    refine AllReadyH.cons rfl (fun K hK => ?_) AllReadyH.nil
    go_simp
    refine hK.out _ _ ⟨r0, r1⟩ (fun _ => ?_)
    clear hK K
    refine wpAnyH_done (by kernel_rfl) ?_ _
    have hN8 := Lib.hid (hN7.setAll (i := 0) (.slice (some ⟨g, 0, none⟩) (n + 1) cap))
    have hs8 := grown_set w7 ⟨N, 0, none⟩ (.slice (some ⟨g, 0, none⟩) (n + 1) cap)
    have hO8 := Lib.hid (World.ownsRow.kept hO7.out hs8 (by
      right
      intro e
      obtain ⟨g2, cap2, cur2, hv2, _, hc2, _⟩ := (hO7.out.2.resolve_left (fun h => by cases h.1))
      injection hv2 with hv2
      injection hv2 with hv2
      injection hv2 with hv2
      subst hv2
      injection e with e
      subst e
      exact Away.of_cells (t' := 96) hN7 (t := 93) (by decide) _ rfl _ _ hc2))
    have hKN := (hKN3.out.trans (KeptN.grown hg7.out hrow3.out (.inl rfl))).trans (KeptN.grown hs8 (fun g e => by injection e with e; subst e; exact ⟨_, hN7⟩) (.inr rfl))
    have hsz8 := hs8.size
    have hsz7 := hg7.out.size
    have hKM := fun w0 h0 => ((hKM3.out w0 h0).grown hg7.out (fun g e => .inl (hbase3.out g e))).grown hs8 (fun g e => .inl (by injection e with e; subst e; exact hBN))
    have y0 : (w7.setCell ⟨N, 0, none⟩ (.slice (some ⟨g, 0, none⟩) (n + 1) cap)).cell? ⟨N, 0, none⟩ = some (.slice (some ⟨g, 0, none⟩) (n + 1) cap) := hN8.out.cell 0
    clear e0 e5 q0 q1 r0 r1 x0 x1 x4 g0 g1 d0 d1 c0
    go_wp2_with fail
    go_ret
    exact ⟨_, by go_num, hN8.out, hO8.out, hKN, by omega, hKM⟩
end Go.Proofs.YtlmdjggpeiddoaaDoor
namespace Go.Proofs.YtlmdjggpeiddoaaDoor
open Go.RowKit Go.Sort

def AddOut (B M N : Nat) (bk : Bool) (xs : List Value) (n : Nat) (c1 : Value) (next : Int) (w : World) (e : Ending) (w' : World) : Prop :=
  ∃ (T : Nat) (v' : Value), e = .returned (.int .i64 n) ∧ Blk w' N #[v', .bool bk] 96 ∧ w'.ownsRow B 93 2 v' (n + 1) (xs ++ [c1, .slice (some ⟨T, 0, none⟩) 1 1]) ∧ Blk w' T #[.int .i64 next] 3 ∧ w.heap.size ≤ T ∧ KeptN w w' ∧ w.heap.size ≤ w'.heap.size ∧ ∀ w0, KeptM B M w0 w → KeptM B M w0 w'

set_option maxHeartbeats 8000000 in
set_option maxRecDepth 100000 in
theorem addNet (B M N : Nat) (bk : Bool) (v : Value) (xs : List Value) (n : Nat) (A C : Option Addr) (l k m d : Nat) (next : Int) (w : World) (hN : Blk w N #[v, .bool bk] 96) (hv : w.ownsRow B 93 2 v n xs) (hn : n ≤ 1000) (hB : B ≤ w.heap.size) (hBN : B ≤ N) :
    Calls Tryd.prog 60 #[.pointer (some ⟨N, 0, none⟩), .agg #[.int .i64 1, .slice A l k, .slice C m d], .int .i64 next] w (AddOut B M N bk xs n (.slice A l k) next w) := by
  have hb1 := bBox w (.cells #[.int .i64 1, .slice A l k, .slice C m d] 56)
  have hb2 := bUp hb1 (bBox _ (.cells #[.int .i64 next] 3))
  have hs2 : B ≤ ((w.alloc (.cells #[.int .i64 1, .slice A l k, .slice C m d] 56)).alloc (.cells #[.int .i64 next] 3)).heap.size := Nat.le_trans hB hb2.size
  have HP := Lib.hid (put B M N bk v xs n A (some ⟨w.heap.size + 1, 0, none⟩) l 1 k 1 ((w.alloc (.cells #[.int .i64 1, .slice A l k, .slice C m d] 56)).alloc (.cells #[.int .i64 next] 3)) (hN.keep hb2) (World.ownsRow.kept hv (grown_below hb2 none) (by cases v.ownBlock <;> simp)) hn hs2 hBN)
  have HT := Lib.hid (Blk.new (w.alloc (.cells #[.int .i64 1, .slice A l k, .slice C m d] 56)) #[.int .i64 next] 3)
  rw [show (w.alloc (.cells #[.int .i64 1, .slice A l k, .slice C m d] 56)).heap.size = w.heap.size + 1 by simp] at HT
  have HKN := Lib.hid (KeptN.below hb2)
  have HKM := Lib.hid (fun w0 (h0 : KeptM B M w0 w) => h0.below hb2)
  have hsz := hb2.size
  clear hN hv hs2
  go_enter Tryd.func60, Tryd.ntmps60
  go_wp2_with fail
  refine HP.out.mono ?_
  rintro e w5 ⟨v', rfl, h1, h2, h3, h4, h5⟩
  have H1 := Lib.hid h1
  have H2 := Lib.hid h2
  have H3 := Lib.hid h3
  have H5 := Lib.hid h5
  clear h1 h2 h3 h5
  go_wp2_with fail
  go_ret
  exact ⟨w.heap.size + 1, v', rfl, H1.out, H2.out, H3.out.blk HT.out (by decide) (by decide), by omega, HKN.out.trans H3.out, by omega, fun w0 h0 => H5.out w0 (HKM.out w0 h0)⟩
end Go.Proofs.YtlmdjggpeiddoaaDoor
namespace Go.Proofs.YtlmdjggpeiddoaaDoor
open Go.RowKit Go.Sort

theorem NetT.other {R R' : Nat} {w : World} {N : Nat} {k : Int} {b : NetB} (h : NetT R w N k b) (hR : w.heap.size ≤ R') : NetT R' w N k b := by
  obtain ⟨cs, fr, hc, _⟩ := h.ck
  obtain ⟨cs', fr', hc', _⟩ := h.tk
  have h1 := (Array.getElem?_eq_some_iff.1 hc).1
  have h2 := (Array.getElem?_eq_some_iff.1 hc').1
  exact ⟨h.n0, h.n1, h.d0, h.d1, h.d2, h.d3, h.ck, h.tk, by omega, by omega⟩
theorem AddSt.other {B R R' : Nat} {w : World} {a : AddA} {cnt : Nat} {f : List UInt8 → Option Int} {ss : List (List Int)} {hs : List Bool} {nx : List (List Int)} {sv hv nv rv : Value} (h : AddSt B R w a cnt f ss hs nx sv hv nv rv) (hR : w.heap.size ≤ R') : AddSt B R' w a cnt f ss hs nx sv hv nv rv :=
  ⟨h.numbers, h.base, h.sets, h.mvar, h.mach, h.net.other hR, h.map, h.srow.other hR, h.hrow, h.nrow.other hR, h.apart, h.lM, h.lS, by have := h.base.lt; omega⟩
/-- the row under construction has been written -/
theorem AddSt.rowed {B R : Nat} {w : World} {a : AddA} {cnt : Nat} {f : List UInt8 → Option Int} {ss : List (List Int)} {hs : List Bool} {nx : List (List Int)} {sv hv nv rv : Value} (h : AddSt B R w a cnt f ss hs nx sv hv nv rv) {zs : List Int} (hr : Arr w R zs) (i : Nat) (u : Value) : AddSt B R (w.setCell ⟨R, i, none⟩ u) a cnt f ss hs nx sv hv nv rv := by
  have hg := grown_set w ⟨R, i, none⟩ u
  have hb : ∀ t, (3 : TypeId) ≠ t → Away w (some R) t := fun t ht => Away.of_cells hr ht
  refine ⟨h.numbers.away hg (hb _ (by decide)), ?_, h.sets.away hg (hb _ (by decide)), h.mvar.away hg (hb _ (by decide)), h.mach.away hg (hb _ (by decide)), h.net.away hg (hb _ (by decide)) (hb _ (by decide)) (.inl rfl), h.map.away hg (h.map.ne hr), h.srow.away hg (.inl rfl) (hb _ (by decide)), h.hrow.away hg (hb _ (by decide)), h.nrow.away hg (.inl rfl) (hb _ (by decide)), h.apart, h.lM, h.lS, h.rB⟩
  exact h.base.grown hg (fun e => by injection e with e; exact h.rB e)
/-- the machine holds new roots -/
theorem AddSt.rooted {B R : Nat} {w : World} {a : AddA} {cnt : Nat} {f : List UInt8 → Option Int} {ss : List (List Int)} {hs : List Bool} {nx : List (List Int)} {sv hv nv rv : Value} (h : AddSt B R w a cnt f ss hs nx sv hv nv rv) (rv' : Value) : AddSt B R (w.setCell ⟨a.M, 5, none⟩ rv') a cnt f ss hs nx sv hv nv rv' := by
  have hg := grown_set w ⟨a.M, 5, none⟩ rv'
  have hb : ∀ t, (67 : TypeId) ≠ t → Away w (some a.M) t := fun t ht => Away.of_cells h.mach ht
  exact ⟨h.numbers.away hg (hb _ (by decide)), h.base.away hg (hb _ (by decide)), h.sets.away hg (hb _ (by decide)), h.mvar.away hg (hb _ (by decide)), h.mach.setAll rv', h.net.away hg (hb _ (by decide)) (hb _ (by decide)) (.inr (hb _ (by decide))), h.map.away hg (h.map.ne h.mach), h.srow.away hg (.inr (hb _ (by decide))) (hb _ (by decide)), h.hrow.away hg (hb _ (by decide)), h.nrow.away hg (.inr (hb _ (by decide))) (hb _ (by decide)), h.apart, h.lM, h.lS, h.rB⟩
/-- a row has been appended, the machine holds the new slice -/
theorem AddSt.nexted {B R : Nat} {w w' : World} {a : AddA} {cnt : Nat} {f : List UInt8 → Option Int} {ss : List (List Int)} {hs : List Bool} {nx nx' : List (List Int)} {sv hv nv nv' rv : Value} (h : AddSt B R w a cnt f ss hs nx sv hv nv rv) (hg : w.grownBy w' nv.ownBlock) (ho : OwnR R w' B nv' nx') (hloc : nv'.ownBlock = nv.ownBlock ∨ ∃ g, nv'.ownBlock = some g ∧ w.heap.size ≤ g) : AddSt B R (w'.setCell ⟨a.M, 3, none⟩ nv') a cnt f ss hs nx' sv hv nv' rv := by
  have hr : ∀ g, nv.ownBlock = some g → ∃ cs, w.heap[g]? = some (.cells cs 23 (0, 0)) := fun g e => (h.nrow.typed g e).2
  have ha : ∀ t, (23 : TypeId) ≠ t → Away w nv.ownBlock t := fun t ht => Away.of_row hr ht
  have b1 := h.mach.away hg (ha _ (by decide))
  have hs2 := grown_set w' ⟨a.M, 3, none⟩ nv'
  have hb : ∀ t, (67 : TypeId) ≠ t → Away w' (some a.M) t := fun t ht => Away.of_cells b1 ht
  have n1 : OwnR R w' B sv ss := by
    refine h.srow.kept hg ?_ ?_
    · intro g e
      obtain ⟨cs, hc⟩ := hr g e
      exact .inr (Away.of_cells hc (by decide) g rfl)
    · cases hv' : sv.ownBlock with
      | none => exact .inl rfl
      | some g =>
        right
        intro e
        exact h.apart g hv' e.symm
  refine ⟨(h.numbers.away hg (ha _ (by decide))).away hs2 (hb _ (by decide)), (h.base.away hg (ha _ (by decide))).away hs2 (hb _ (by decide)), (h.sets.away hg (ha _ (by decide))).away hs2 (hb _ (by decide)), (h.mvar.away hg (ha _ (by decide))).away hs2 (hb _ (by decide)), b1.setAll nv',
    (h.net.away hg (ha _ (by decide)) (ha _ (by decide)) (.inr (ha _ (by decide)))).away hs2 (hb _ (by decide)) (hb _ (by decide)) (.inr (hb _ (by decide))), ?_, n1.away hs2 (.inr (hb _ (by decide))) (hb _ (by decide)), (h.hrow.away hg (ha _ (by decide))).away hs2 (hb _ (by decide)), ho.away hs2 (.inr (hb _ (by decide))) (hb _ (by decide)), ?_, h.lM, h.lS, h.rB⟩
  · exact (h.map.away hg (h.map.neRow hr)).away hs2 ((h.map.away hg (h.map.neRow hr)).ne b1)
  · intro g e
    obtain ⟨_, cs, hc⟩ := h.srow.typed g e
    have hlt := (Array.getElem?_eq_some_iff.1 hc).1
    rcases hloc with e2 | ⟨g', e2, hge⟩
    · intro e3
      exact h.apart g e (e2.symm.trans e3)
    · intro e3
      rw [e2] at e3
      injection e3 with e3
      omega
/-- what lies in memory when machine.add calls net.add -/
theorem add_start (w : World) (M C oc cc : Nat) (bk : Bool) :
    (fun W : World => W.heap.size = w.heap.size + 8 ∧ Below w.heap.size w W ∧
      Blk W w.heap.size #[.pointer (some ⟨M, 0, none⟩)] 91 ∧
      Blk W (w.heap.size + 1 + 1) #[.slice none 0 0, .slice none 0 0] 93 ∧
      Blk W (w.heap.size + 1 + 1 + 1) #[.slice (some ⟨w.heap.size + 1 + 1, 0, none⟩) 1 1, .bool bk] 96 ∧
      Blk W (w.heap.size + 1 + 1 + 1 + 1) #[.int .i64 0] 3 ∧
      W.heap[w.heap.size + 1 + 1 + 1 + 1 + 1]? = some (.map #[] 0) ∧
      Blk W (w.heap.size + 1 + 1 + 1 + 1 + 1 + 1) #[.map (some (w.heap.size + 1 + 1 + 1 + 1 + 1))] 97 ∧
      Blk W (w.heap.size + 1 + 1 + 1 + 1 + 1 + 1 + 1) #[.slice none 0 0] 24)
    ((((((((w.alloc (.cells #[.pointer (some ⟨M, 0, none⟩)] 91)).alloc (.cells #[.int .i64 1, .slice (some ⟨C, oc, none⟩) 1 cc, .slice none 0 0] 56)).alloc (.cells #[.slice none 0 0, .slice none 0 0] 93)).alloc (.cells #[.slice (some ⟨w.heap.size + 1 + 1, 0, none⟩) 1 1, .bool bk] 96)).alloc (.cells #[.int .i64 0] 3)).alloc (.map #[] 0)).alloc (.cells #[.map (some (w.heap.size + 1 + 1 + 1 + 1 + 1))] 97)).alloc (.cells #[.slice none 0 0] 24)) := by
  have key : ∀ (W : World) (o : Obj), (W.alloc o).heap.size = W.heap.size + 1 := fun W o => by simp
  have old : ∀ (W : World) (o : Obj) (b : Nat) (x : Obj), W.heap[b]? = some x → (W.alloc o).heap[b]? = some x := fun W o b x h => (heap_alloc_old W o (Array.getElem?_eq_some_iff.1 h).1).trans h
  have new : ∀ (W : World) (o : Obj) (b : Nat), W.heap.size = b → (W.alloc o).heap[b]? = some o := fun W o b h => by rw [← h]; exact heap_alloc_new W o
  have bel : ∀ (W : World) (o : Obj), Below w.heap.size w W → Below w.heap.size w (W.alloc o) := fun W o h => bUp h (bBox _ _)
  refine ⟨?_, ?_, ?_, ?_, ?_, ?_, ?_, ?_, ?_⟩
  · simp only [key]
  · exact bel _ _ (bel _ _ (bel _ _ (bel _ _ (bel _ _ (bel _ _ (bel _ _ (bBox _ _)))))))
  · exact old _ _ _ _ (old _ _ _ _ (old _ _ _ _ (old _ _ _ _ (old _ _ _ _ (old _ _ _ _ (old _ _ _ _ (new _ _ _ rfl)))))))
  · exact old _ _ _ _ (old _ _ _ _ (old _ _ _ _ (old _ _ _ _ (old _ _ _ _ (new _ _ _ (by simp only [key]))))))
  · exact old _ _ _ _ (old _ _ _ _ (old _ _ _ _ (old _ _ _ _ (new _ _ _ (by simp only [key])))))
  · exact old _ _ _ _ (old _ _ _ _ (old _ _ _ _ (new _ _ _ (by simp only [key]))))
  · exact old _ _ _ _ (old _ _ _ _ (new _ _ _ (by simp only [key])))
  · exact old _ _ _ _ (new _ _ _ (by simp only [key]))
  · exact new _ _ _ (by simp only [key])
theorem ints_empty {P : Program} {k e : TypeId} {W : World} {b : Nat} (h : W.heap[b]? = some (.map #[] 0)) : IntS P k e W b 0 (fun _ => none) := by
  obtain ⟨D, ⟨es, c, h1, h2⟩, hs⟩ := IntS.made W P k e
  rw [heap_alloc_new] at h1
  injection h1 with h1
  injection h1 with e1 e2
  subst e1 e2
  exact ⟨D, ⟨_, _, h, h2⟩, hs⟩
theorem nodes_start {W : World} {B b : Nat} (h : Blk W b #[.slice none 0 0, .slice none 0 0] 93) (hb : B ≤ b) : W.ownsRow B 93 2 (.slice (some ⟨b, 0, none⟩) 1 1) 1 [.slice none 0 0, .slice none 0 0] :=
  ⟨rfl, .inr ⟨b, 1, _, rfl, hb, h, Nat.le_refl _, by decide, rfl, rfl⟩⟩
/-- the net that net.add has left -/
theorem net_made {R B N : Nat} {w : World} {bk : Bool} {v : Value} {C oc cc T : Nat} {k : Int} (hN : Blk w N #[v, .bool bk] 96) (hv : w.ownsRow B 93 2 v 2 ([.slice none 0 0, .slice none 0 0] ++ [.slice (some ⟨C, oc, none⟩) 1 cc, .slice (some ⟨T, 0, none⟩) 1 1])) (hC : CT w C oc 3 (.int .i64 k)) (hT : Blk w T #[.int .i64 0] 3) (h1 : C ≠ R) (h2 : T ≠ R) : ∃ b, NetT R w N k b := by
  rcases hv.2 with ⟨_, h0⟩ | ⟨g, cap, cur, rfl, _, hc, _, _, _, ht⟩
  · cases h0
  · have hcur : ∀ i u, i < 4 → ([.slice none 0 0, .slice none 0 0, .slice (some ⟨C, oc, none⟩) 1 cc, .slice (some ⟨T, 0, none⟩) 1 1] : List Value)[i]? = some u → cur[i]? = some u := by
      intro i u hi hu
      have e : (cur.toList.take (2 * 2))[i]? = some u := by rw [ht]; exact hu
      rw [List.getElem?_take_of_lt (by omega)] at e
      simpa using e
    exact ⟨⟨g, cap, bk, C, oc, cc, T, 0, 1⟩, hN.ct rfl, hN.ct rfl, ⟨cur, (0, 0), hc, hcur 0 _ (by decide) rfl⟩, ⟨cur, (0, 0), hc, hcur 1 _ (by decide) rfl⟩, ⟨cur, (0, 0), hc, hcur 2 _ (by decide) rfl⟩, ⟨cur, (0, 0), hc, hcur 3 _ (by decide) rfl⟩, hC, hT.ct rfl, h1, h2⟩
end Go.Proofs.YtlmdjggpeiddoaaDoor
namespace Go.Proofs.YtlmdjggpeiddoaaDoor
open Go.RowKit Go.Sort

theorem gPow : Tryd.prog.globalNamed "internal/strconv.uint64pow10" = some 0 := by kernel_rfl
theorem EnvB.at_ {w w' : World} (h : EnvB w) (hk : w'.heap[0]? = w.heap[0]?) : EnvB w' := by
  unfold EnvB Lib.TabIs World.var? at *
  rw [gPow] at *
  simpa [hk] using h
theorem EnvB.lt {w : World} (h : EnvB w) : 0 < w.heap.size := by
  have := h.cell gPow 0 (by decide)
  exact block_lt_of_cell this
theorem key1 : keyS [1] = [49, 32] := by kernel_rfl
theorem key0 : keyS [0] = [48, 32] := by kernel_rfl
theorem keyN : keyS [] = [] := by decide
theorem key_inj {s t : List Int} (hs : Three s) (ht : Three t) (h : keyS s = keyS t) : s = t := by
  rcases hs with rfl | rfl | rfl <;> rcases ht with rfl | rfl | rfl <;> first | rfl | (simp only [key1, key0, keyN] at h; simp at h)
def numL (ss : List (List Int)) (s : List Int) : List (List Int) := if s ∈ ss then ss else ss ++ [s]
def idxL (ss : List (List Int)) (s : List Int) : Nat := (numL ss s).idxOf s
def KeyOk (f : List UInt8 → Option Int) (ss : List (List Int)) : Prop := ∀ s, Three s → f (keyS s) = if s ∈ ss then some (ss.idxOf s : Int) else none
theorem KeyOk.snoc {f : List UInt8 → Option Int} {ss : List (List Int)} (h : KeyOk f ss) {s : List Int} (hs : Three s) (hn : s ∉ ss) : KeyOk (fun y => if y = keyS s then some (ss.length : Int) else f y) (ss ++ [s]) := by
  intro t ht
  by_cases hts : t = s
  · subst hts
    simp [List.idxOf_append, hn]
  · have hk : keyS t ≠ keyS s := fun e => hts (key_inj ht hs e)
    simp only [hk, if_false]
    rw [h t ht]
    by_cases hm : t ∈ ss
    · simp [hm, List.idxOf_append]
    · simp [hm, hts]
def hitF (a : AddA) (s : List Int) : Bool := decide (stepF a.k s a.e = [0])
def NumAny (a : AddA) (B R : Nat) (ss nx : List (List Int)) (nv rv : Value) (s : List Int) (w : World) (e : Ending) (w' : World) : Prop :=
  ∃ f sv hv, e = .returned (.int .i64 (idxL ss s)) ∧ Hid (AddSt B R w' a (numL ss s).length f (numL ss s) ((numL ss s).map (hitF a)) nx sv hv nv rv) ∧ Hid (KeyOk f (numL ss s)) ∧
    Hid (∀ w0, KeptM B a.M w0 w → KeptM B a.M w0 w') ∧ Hid (∀ b cs, Blk w b cs 3 → Blk w' b cs 3) ∧ Hid (∀ v zs, IsI R w v zs → IsI R w' v zs)
theorem num1 (a : AddA) (B R : Nat) (f : List UInt8 → Option Int) (ss nx : List (List Int)) (sv hv nv rv : Value) (s : List Int) (v : Value) (w : World)
    (hSt : AddSt B R w a ss.length f ss (ss.map (hitF a)) nx sv hv nv rv) (hK : KeyOk f ss) (h3 : Three s) (hvs : IsI R w v s) (hE : EnvB w) (hR : R < w.heap.size) (hB : B ≤ w.heap.size) (hss : ss.length ≤ 1000) :
    Calls Tryd.prog 56 #[v, .pointer (some ⟨a.bN, 0, none⟩), .pointer (some ⟨a.bB, 0, none⟩), .pointer (some ⟨a.bS, 0, none⟩), .pointer (some ⟨a.bP, 0, none⟩), .pointer (some ⟨a.N, 0, none⟩)] w (NumAny a B R ss nx nv rv s w) := by
  by_cases hm : s ∈ ss
  · have hf := hK s h3
    rw [if_pos hm] at hf
    refine (num1old a B R ss.length f ss _ nx sv hv nv rv s v w _ hSt h3 hvs hE hf).mono ?_
    rintro e w' ⟨rfl, hb⟩
    have e1 : numL ss s = ss := by unfold numL; rw [if_pos hm]
    refine ⟨f, sv, hv, by unfold idxL; rw [e1], Lib.hid (by rw [e1]; exact hSt.keep hb), Lib.hid (by rw [e1]; exact hK), Lib.hid fun w0 h0 => h0.below hb, Lib.hid fun b cs h => h.keep hb, Lib.hid fun v zs h => h.keep hb⟩
  · have hf := hK s h3
    rw [if_neg hm] at hf
    refine (num1new a B R ss.length f ss _ nx sv hv nv rv s v w hSt h3 hvs hE hf hR hB hss hss (by simpa using hss)).mono ?_
    rintro e w' ⟨sv', hv', rfl, h1, h2, h4, h5⟩
    have e1 : numL ss s = ss ++ [s] := by unfold numL; rw [if_neg hm]
    refine ⟨_, sv', hv', ?_, Lib.hid ?_, Lib.hid (by rw [e1]; exact hK.snoc h3 hm), Lib.hid h2, Lib.hid h4, Lib.hid h5⟩
    · unfold idxL
      rw [e1, List.idxOf_append, if_neg hm]
      simp
    · rw [e1, List.length_append, List.map_append]
      exact h1
/-- one more row -/
def rowRun (k : Int) (ss : List (List Int)) (i : Nat) : Nat → List (List Int) × List Int
  | 0 => (ss, [])
  | c + 1 => (numL (rowRun k ss i c).1 (stepF k (rowAt (rowRun k ss i c).1 i) (c : Int)), (rowRun k ss i c).2 ++ [(idxL (rowRun k ss i c).1 (stepF k (rowAt (rowRun k ss i c).1 i) (c : Int)) : Int)])
/-- the machine of a pattern of one class, over two classes -/
def machRun (k : Int) : Nat → List (List Int) × List (List Int)
  | 0 => ([[1]], [])
  | i + 1 => ((rowRun k (machRun k i).1 i 2).1, (machRun k i).2 ++ [(rowRun k (machRun k i).1 i 2).2])
theorem mach0 : machRun 0 3 = ([[1], [0], []], [[1, 2], [1, 1], [2, 2]]) := by decide
theorem mach1 : machRun 1 3 = ([[1], [], [0]], [[1, 2], [1, 1], [2, 2]]) := by decide
theorem mach_len {k : Int} (hk : k = 0 ∨ k = 1) {i : Nat} (hi : i ≤ 3) : (machRun k i).1.length ≤ 3 ∧ (i < (machRun k i).1.length ↔ i < 3) ∧ ∀ c, c ≤ 2 → i < 3 → (rowRun k (machRun k i).1 i c).1.length ≤ 3 ∧ i < (rowRun k (machRun k i).1 i c).1.length ∧ (∀ s ∈ (rowRun k (machRun k i).1 i c).1, s = [1] ∨ s = [0] ∨ s = []) ∧ (rowRun k (machRun k i).1 i c).2.length = c := by
  have h : ∀ k ∈ [(0 : Int), 1], ∀ i ∈ List.range 4, (machRun k i).1.length ≤ 3 ∧ (i < (machRun k i).1.length ↔ i < 3) ∧ ∀ c ∈ List.range 3, i < 3 → (rowRun k (machRun k i).1 i c).1.length ≤ 3 ∧ i < (rowRun k (machRun k i).1 i c).1.length ∧ (∀ s ∈ (rowRun k (machRun k i).1 i c).1, s = [1] ∨ s = [0] ∨ s = []) ∧ (rowRun k (machRun k i).1 i c).2.length = c := by decide
  obtain ⟨h1, h2, h3⟩ := h k (by rcases hk with rfl | rfl <;> simp) i (by simp; omega)
  exact ⟨h1, h2, fun c hc hi3 => h3 c (by simp; omega) hi3⟩
end Go.Proofs.YtlmdjggpeiddoaaDoor
