/- Parse of the reference -/
import Derived.Test.YtafmdeipcepaiaaDoorLn11
namespace Go.Proofs.YtafmdeipcepaiaaDoor
open Go.RowKit Go.Sort

theorem stepS {ops : Array Oper} {o : Oper} {a : Act} {K : Act → World → Prop} {Q : Exit → Act → World → Prop} {E : Prop} {W : World} (hgd : o.guard = none) (s x : Operand) (ho : o.op = .call { callee := .builtin .append, args := #[s, x], argTypes := #[31, 31] })
    (base : Nat) {v : Value} {ps : List (List UInt8)} (hs : a.eval s = v) (h : OwnS W base v ps) (p : List UInt8) (hx : a.eval x = .slice (some ⟨W.heap.size, 0, none⟩) 1 1) (hl : ps.length + 1 ≤ 1000000) (hb : base ≤ W.heap.size)
    (hK : ∀ v' w', Hid (OwnS w' base v' (ps ++ [p])) → Hid (W.grownBy w' v.ownBlock) → K (a.put o.dst v') w') : if Region.wanted o (yielded ops a.tmps) = true then Oper.wp Tryd.prog o a (W.alloc (.cells #[.string ⟨p.toArray⟩] 9)) K Q else E := by
  rw [if_pos (by simp [Region.wanted, hgd])]
  obtain ⟨i0, hi, hz0, hz1, hz2⟩ := info_parts infoStr
  refine wp_append_own _ s x 31 ho base 9 i0 (.string ByteArray.empty) 1 16 Tryd.underlying31 hi hz0 hz1 hz2 rfl (by decide) v ps.length (strVals ps) hs (h.keep (bBox _ _)) ⟨W.heap.size, 0, none⟩ 1 1 [.string ⟨p.toArray⟩] hx rfl
    (fun i u hj => by match i, hj with | 0, hj => simp at hj; subst hj; simp [Addr.add]) (fun u hu => by simp at hu; subst hu; rfl) (by unfold maxLen; omega) (by omega) (by simp; omega) ?_
  intro v' w' hown' hg _
  refine hK v' w' (Lib.hid ?_) (Lib.hid ⟨hg.os, hg.tape, hg.output, Nat.le_trans (by simp) hg.size, fun i hi hne => (hg.block i (by simp; omega) hne).trans ((bBox W _).block i hi)⟩)
  unfold OwnS
  rw [List.length_append, ← strVals_snoc]
  exact hown'
/-- a call that leaves the world, as a step of a region that draws its order -/
theorem stepCall1 {ops : Array Oper} {o : Oper} {a : Act} {K : Act → World → Prop} {Q : Exit → Act → World → Prop} {E : Prop} {W : World} (f : FuncId) (hgd : o.guard = none) (s : Operand) (t : TypeId) (ho : o.op = .call { callee := .value (.func f), args := #[s], argTypes := #[t] })
    (he : ∀ args w, (callFunc f args).run Tryd.prog w = .ok (.enter f args) w) {v r : Value} (hs : a.eval s = v) (hc : Calls Tryd.prog f #[v] W fun e w' => e = .returned r ∧ W = w') (hK : K (a.put o.dst r) W) : if Region.wanted o (yielded ops a.tmps) = true then Oper.wp Tryd.prog o a W K Q else E := by
  rw [if_pos (by simp [Region.wanted, hgd])]
  unfold Oper.wp
  have hr : (execOp a.eval o).run Tryd.prog W = .ok (.enter f #[v]) W := by
    subst hs
    simp [execOp, ho, resolve, invoke, go_sem, he]
  rw [hr]
  refine hc.mono ?_
  rintro e w' ⟨rfl, rfl⟩
  exact hK

theorem enL_at : ∀ (j : Nat) (ps : List (List UInt8)) (k : Nat), k < ps.length → (enL j ps)[k]? = some (mkNL (j + k) (piece ps k))
  | _, [], k, h => by simp at h
  | j, p :: ps, 0, _ => by simp [enL, piece]
  | j, p :: ps, k + 1, h => by
    have := enL_at (j + 1) ps k (by simpa using h)
    simp only [enL, List.getElem?_cons_succ, this]
    rw [show j + 1 + k = j + (k + 1) by omega]
    simp [piece]
theorem linesOf_take {l : List UInt8} (hl : l.length ≤ 65536) {k : Nat} (hk : k < (splitL 10 l).length) : ∃ hq, (linesOf l).take (k + 1) = (linesOf l).take k ++ [⟨(k + 1, piece (splitL 10 l) k), hq⟩] := by
  have h1 := enL_at 1 (splitL 10 l) k hk
  have h2 := splitL_piece_le 10 l _ (piece_mem hk)
  have h3 := linesOf_length l
  have h4 : (linesOf l).length = (splitL 10 l).length := enL_length 1 _
  refine ⟨⟨by simp only; omega, by simp only; omega⟩, ?_⟩
  rw [List.take_add_one, show (linesOf l)[k]? = _ from h1, mkNL_of (by omega) (by omega)]
  simp [Nat.add_comm]
end Go.Proofs.YtafmdeipcepaiaaDoor
