/- Appends to lists of lines; a region that draws its order inside a round. -/
import Derived.Test.YtafmdeipcepaiaaDoorLn6
import Derived.Deep.RegionLaw
namespace Go.Proofs.YtafmdeipcepaiaaDoor
open Go.RowKit Go.Sort

section
variable {P : Program} {ops : Array Oper} {Q : Exit → Act → World → Prop} {l n : Nat}
theorem rowsIn_wide {row : String} {args : Array Value} {w : World} {R : Value → World → Prop} (h : Rows P row args w R) : RowsIn (Fence.wide.inRound l) n P row args w R :=
  fun c cs _ => let ⟨v, w', r, s⟩ := h c cs; ⟨v, w', r, (stepsIn_wide (P := P)).2 s⟩
theorem Oper.wpIn_round {o : Oper} {a : Act} {w : World} {K : Act → World → Prop} (hd : ∀ c, o.op ≠ .defer c) (h : o.wp P a w K Q) : o.wpIn (Fence.wide.inRound l) n P a w K Q := by
  refine ⟨fun _ _ => trivial, ?_⟩
  rw [Oper.semAt_eq _ _ _ hd]
  unfold Oper.wp at h
  generalize (execOp a.eval o).run P w = r at h ⊢
  cases r with
  | ok x w' =>
    cases x <;> simp only [Oper.upon, Oper.uponIn] at h ⊢ <;>
      first
        | exact h
        | exact ⟨(fun e => by cases e), CallsIn.inRound l (callsIn_wide.2 h)⟩
        | exact ⟨(fun e => by cases e), rowsIn_wide h⟩
  | halt x w' => cases x <;> simp only [Oper.upon, Oper.uponIn] at h ⊢ <;> exact h
theorem wpAnyIn_round {md : Region.Mode} (hL : ¬ LetsOut Q) (hd : ∀ (i : Nat) (o : Oper), ops[i]? = some o → ∀ c, o.op ≠ .defer c) : ∀ (fuel : Nat) (listed : Array Bool) (a : Act) (w : World), wpAny P md ops Q fuel listed a w → wpAnyIn (Fence.wide.inRound l) n P md ops Q fuel listed a w
  | 0, _, _, _, h => h
  | fuel + 1, listed, a, w, h => by
    refine ⟨h.1, fun i hi => ?_⟩
    have h2 := h.2 i hi
    unfold wpOp at h2
    unfold wpOpIn
    cases ho : ops[i]? with
    | none => rw [ho] at h2; exact wpAnyIn_round hL hd fuel _ a w h2
    | some o =>
      rw [ho] at h2
      dsimp only at h2 ⊢
      split
      · rename_i hw
        rw [if_pos hw] at h2
        rcases h2 with h2 | h2
        · exact Oper.wpIn_mono (fun a w => wpAnyIn_round hL hd fuel _ a w) (Oper.wpIn_round (hd i o ho) h2)
        · exact absurd h2.2 hL
      · rename_i hw
        rw [if_neg hw] at h2
        exact ⟨fun _ _ => trivial, wpAnyIn_round hL hd fuel _ _ w h2⟩
def noDefer (ops : Array Oper) : Bool := ops.all fun o => match o.op with | .defer _ => false | _ => true
theorem noDefer_at (h : noDefer ops = true) (i : Nat) (o : Oper) (ho : ops[i]? = some o) (c : Call) : o.op ≠ .defer c := by
  intro e
  have h1 := Array.all_eq_true.1 h
  obtain ⟨hi, he⟩ := Array.getElem?_eq_some_iff.1 ho
  have h2 := h1 i hi
  rw [he, e] at h2
  exact absurd h2 (by simp)
/-- a region that draws its order, inside a round -/
theorem wpIn_region_round {id : Nat} {a : Act} {w : World} {r : List Oper} (hm : P.follows .mixedOrders = true) (hd : noDefer r.toArray = true) (hL : ¬ LetsOut Q)
    (h : wpAny P .any r.toArray Q r.length (Array.replicate r.length false) a w.drew) : (Code.region id r.toArray true).wpIn (Fence.wide.inRound l) n P Q a w :=
  wpIn_region_any hm (wpAnyIn_round hL (noDefer_at hd) _ _ _ _ (by simpa using h))
end

/-- append(v, d), the new line in the newest block -/
theorem wpL {ops : Array Oper} {rest : List Oper} {o : Oper} {a : Act} {Q : Exit → Act → World → Prop} {W : World} (hgd : o.guard = none) (s x : Operand) (ho : o.op = .call { callee := .builtin .append, args := #[s, x], argTypes := #[23, 23] })
    (base : Nat) {v : Value} {ls : List LineD} (hs : a.eval s = v) (h : OwnL W base v ls) (d : LineD) (fv : Value) (hf : FldAt W fv d.fields) (hx : a.eval x = .slice (some ⟨W.heap.size, 0, none⟩) 1 1) (hl : ls.length + 1 ≤ 1000000) (hb : base ≤ W.heap.size)
    (hK : ∀ v' w', Hid (OwnL w' base v' (ls ++ [d])) → Hid (W.grownBy w' v.ownBlock) → wpList Tryd.prog ops Q rest (a.put o.dst v') w') : wpList Tryd.prog ops Q (o :: rest) a (W.alloc (.cells #[.int .i64 d.num, .int .i64 d.lo, .int .i64 d.hi, fv, .string ⟨d.com.toArray⟩] 35)) := by
  obtain ⟨i0, hi, hz0, hz1, hz2⟩ := info_parts infoLine
  have hk := h.keep (bBox W (.cells #[.int .i64 d.num, .int .i64 d.lo, .int .i64 d.hi, fv, .string ⟨d.com.toArray⟩] 35))
  have hrow := hk.row
  have hf1 := hf.keep (bBox W (.cells #[.int .i64 d.num, .int .i64 d.lo, .int .i64 d.hi, fv, .string ⟨d.com.toArray⟩] 35))
  obtain ⟨zs, e, hown, hfs⟩ := hk
  have hfo : fv.oneCell' = true := by obtain ⟨A, c, rfl, _⟩ := hf; rfl
  have hcell : ∀ j u, (lineCells d fv)[j]? = some u → (W.alloc (.cells #[.int .i64 d.num, .int .i64 d.lo, .int .i64 d.hi, fv, .string ⟨d.com.toArray⟩] 35)).cell? ((⟨W.heap.size, 0, none⟩ : Addr).add j) = some u := by
    intro j u hu
    rw [Go.WideShapes.add_plain, (Blk.new W _ _).cell]
    simpa [lineCells] using hu
  refine wpList_append_own _ hgd s x 23 ho base 35 i0 _ 5 64 Tryd.underlying23 hi hz0 hz1 hz2 rfl (by decide) v ls.length (rowL zs) hs hown ⟨W.heap.size, 0, none⟩ 1 1 (lineCells d fv) hx rfl hcell
    (fun u hu => by simp only [lineCells, List.mem_cons, List.not_mem_nil, or_false] at hu; rcases hu with rfl | rfl | rfl | rfl | rfl <;> first | rfl | exact hfo) (by unfold maxLen; omega) (by omega) (by simp; omega) ?_
  intro v' w' hown' hg _
  refine hK v' w' (Lib.hid ?_) (Lib.hid ⟨hg.os, hg.tape, hg.output, Nat.le_trans (by simp) hg.size, fun i hi hne => (hg.block i (by simp; omega) hne).trans ((bBox W _).block i hi)⟩)
  refine ⟨zs ++ [(d, fv)], by simp [e], ?_, ?_⟩
  · rw [rowL_snoc, List.length_append]
    exact hown'
  · intro z hz
    have hr2 : ∀ g, v.ownBlock = some g → ∀ cur t fr, (W.alloc (.cells #[.int .i64 d.num, .int .i64 d.lo, .int .i64 d.hi, fv, .string ⟨d.com.toArray⟩] 35)).heap[g]? = some (.cells cur t fr) → t ≠ 9 := by
      intro g hg2 cur t fr hc
      obtain ⟨_, cur', hc'⟩ := hrow g hg2
      rw [hc] at hc'
      injection hc' with hc'
      injection hc' with _ h2
      rw [h2]
      decide
    rcases List.mem_append.1 hz with hz | hz
    · exact (hfs z hz).grown hg hr2
    · simp only [List.mem_singleton] at hz
      subst hz
      exact hf1.grown hg hr2
/-- .. as a step of a region that draws its order -/
theorem stepL {ops : Array Oper} {o : Oper} {a : Act} {K : Act → World → Prop} {Q : Exit → Act → World → Prop} {E : Prop} {W : World} (hgd : o.guard = none) (s x : Operand) (ho : o.op = .call { callee := .builtin .append, args := #[s, x], argTypes := #[23, 23] })
    (base : Nat) {v : Value} {ls : List LineD} (hs : a.eval s = v) (h : OwnL W base v ls) (d : LineD) (fv : Value) (hf : FldAt W fv d.fields) (hx : a.eval x = .slice (some ⟨W.heap.size, 0, none⟩) 1 1) (hl : ls.length + 1 ≤ 1000000) (hb : base ≤ W.heap.size)
    (hK : ∀ v' w', Hid (OwnL w' base v' (ls ++ [d])) → Hid (W.grownBy w' v.ownBlock) → K (a.put o.dst v') w') : if Region.wanted o (yielded ops a.tmps) = true then Oper.wp Tryd.prog o a (W.alloc (.cells #[.int .i64 d.num, .int .i64 d.lo, .int .i64 d.hi, fv, .string ⟨d.com.toArray⟩] 35)) K Q else E := by
  rw [if_pos (by simp [Region.wanted, hgd])]
  obtain ⟨i0, hi, hz0, hz1, hz2⟩ := info_parts infoLine
  have hk := h.keep (bBox W (.cells #[.int .i64 d.num, .int .i64 d.lo, .int .i64 d.hi, fv, .string ⟨d.com.toArray⟩] 35))
  have hrow := hk.row
  have hf1 := hf.keep (bBox W (.cells #[.int .i64 d.num, .int .i64 d.lo, .int .i64 d.hi, fv, .string ⟨d.com.toArray⟩] 35))
  obtain ⟨zs, e, hown, hfs⟩ := hk
  have hfo : fv.oneCell' = true := by obtain ⟨A, c, rfl, _⟩ := hf; rfl
  have hcell : ∀ j u, (lineCells d fv)[j]? = some u → (W.alloc (.cells #[.int .i64 d.num, .int .i64 d.lo, .int .i64 d.hi, fv, .string ⟨d.com.toArray⟩] 35)).cell? ((⟨W.heap.size, 0, none⟩ : Addr).add j) = some u := by
    intro j u hu
    rw [Go.WideShapes.add_plain, (Blk.new W _ _).cell]
    simpa [lineCells] using hu
  refine wp_append_own _ s x 23 ho base 35 i0 _ 5 64 Tryd.underlying23 hi hz0 hz1 hz2 rfl (by decide) v ls.length (rowL zs) hs hown ⟨W.heap.size, 0, none⟩ 1 1 (lineCells d fv) hx rfl hcell
    (fun u hu => by simp only [lineCells, List.mem_cons, List.not_mem_nil, or_false] at hu; rcases hu with rfl | rfl | rfl | rfl | rfl <;> first | rfl | exact hfo) (by unfold maxLen; omega) (by omega) (by simp; omega) ?_
  intro v' w' hown' hg _
  refine hK v' w' (Lib.hid ?_) (Lib.hid ⟨hg.os, hg.tape, hg.output, Nat.le_trans (by simp) hg.size, fun i hi hne => (hg.block i (by simp; omega) hne).trans ((bBox W _).block i hi)⟩)
  refine ⟨zs ++ [(d, fv)], by simp [e], ?_, ?_⟩
  · rw [rowL_snoc, List.length_append]
    exact hown'
  · intro z hz
    have hr2 : ∀ g, v.ownBlock = some g → ∀ cur t fr, (W.alloc (.cells #[.int .i64 d.num, .int .i64 d.lo, .int .i64 d.hi, fv, .string ⟨d.com.toArray⟩] 35)).heap[g]? = some (.cells cur t fr) → t ≠ 9 := by
      intro g hg2 cur t fr hc
      obtain ⟨_, cur', hc'⟩ := hrow g hg2
      rw [hc] at hc'
      injection hc' with hc'
      injection hc' with _ h2
      rw [h2]
      decide
    rcases List.mem_append.1 hz with hz | hz
    · exact (hfs z hz).grown hg hr2
    · simp only [List.mem_singleton] at hz
      subst hz
      exact hf1.grown hg hr2
end Go.Proofs.YtafmdeipcepaiaaDoor
