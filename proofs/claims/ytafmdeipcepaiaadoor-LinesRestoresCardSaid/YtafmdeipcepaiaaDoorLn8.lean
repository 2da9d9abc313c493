/- What Parse computes; what a round of it keeps. -/
import Derived.Test.YtafmdeipcepaiaaDoorLn7
namespace Go.Proofs.YtafmdeipcepaiaaDoor
open Go.RowKit Go.Shelf Go.Sort

/-- a line read: none: a fault; some none: ignored -/
def lineQ (q : Nat × List UInt8) : Option (Option LineD) :=
  if trimL (commentP q.2).1 = [] then some none
  else (spanP (trimL ((splitL 59 (commentP q.2).1).headD []))).map fun r => some ⟨q.1, r.1, r.2, ((splitL 59 (commentP q.2).1).drop 1).map trimL, (commentP q.2).2⟩
def goodL (xs : List NL) : List LineD := xs.flatMap fun x => ((lineQ x.1).getD none).toList
def badL (xs : List NL) : Option Nat := (xs.find? fun x => (lineQ x.1).isNone).map (·.1.1)
def linesOf (l : List UInt8) : List NL := enL 1 (splitL 10 l)
theorem goodL_le (xs : List NL) : (goodL xs).length ≤ xs.length := by
  induction xs with
  | nil => simp [goodL]
  | cons x r ih =>
    simp only [goodL, List.flatMap_cons, List.length_append, List.length_cons] at ih ⊢
    have : ∀ o : Option LineD, o.toList.length ≤ 1 := fun o => by cases o <;> simp
    have := this ((lineQ x.1).getD none)
    omega
theorem good_skip {pre : List NL} {x : NL} (h : lineQ x.1 = some none) : goodL (pre ++ [x]) = goodL pre := by simp [goodL, h]
theorem good_more {pre : List NL} {x : NL} {d : LineD} (h : lineQ x.1 = some (some d)) : goodL (pre ++ [x]) = goodL pre ++ [d] := by simp [goodL, h]
theorem bad_good {pre : List NL} {x : NL} {o : Option LineD} (hp : badL pre = none) (h : lineQ x.1 = some o) : badL (pre ++ [x]) = none := by
  unfold badL at hp ⊢
  rw [List.find?_append]
  cases hf : pre.find? (fun x => (lineQ x.1).isNone) with
  | none => simp [h]
  | some y => rw [hf] at hp; simp at hp
theorem bad_bad {pre post : List NL} {x : NL} (hp : badL pre = none) (h : lineQ x.1 = none) : badL (pre ++ [x] ++ post) = some x.1.1 := by
  unfold badL at hp ⊢
  rw [List.find?_append, List.find?_append]
  cases hf : pre.find? (fun x => (lineQ x.1).isNone) with
  | none => simp [h]
  | some y => rw [hf] at hp; simp at hp
theorem linesOf_length (l : List UInt8) : (linesOf l).length ≤ l.length + 1 := by
  unfold linesOf
  rw [enL_length, splitL_length]
  have := List.count_le_length (a := (10 : UInt8)) (l := l)
  omega

theorem OwnL.mono {w : World} {base base' : Nat} {v : Value} {ls : List LineD} (h : OwnL w base v ls) (hb : base' ≤ base) : OwnL w base' v ls := by
  obtain ⟨zs, e, h, hf⟩ := h
  refine ⟨zs, e, ⟨h.1, ?_⟩, hf⟩
  rcases h.2 with h0 | ⟨g, cap, cur, hv, hg, hr⟩
  · exact .inl h0
  · exact .inr ⟨g, cap, cur, hv, by omega, hr⟩
/-- what Parse gives back -/
def ParseOut (w' : World) (base : Nat) (l : List UInt8) (e : Ending) : Prop :=
  match badL (linesOf l) with
  | some k => e = .returned (.tuple #[.slice none 0 0, .agg #[.int .i64 3, .int .i64 k]])
  | none => ∃ A c, e = .returned (.tuple #[.slice A (goodL (linesOf l)).length c, .agg #[.int .i64 0, .int .i64 0]]) ∧ OwnL w' base (.slice A (goodL (linesOf l)).length c) (goodL (linesOf l))

/-- between two rounds of Parse: n is where the call's own blocks begin -/
structure InvP (n : Nat) (w : World) (l : List UInt8) (ls : List LineD) (v : Value) (W : World) : Prop where
  res : Blk W n #[.slice none 0 0] 23
  flt : Blk W (n + 1) #[.int .i64 0, .int .i64 0] 26
  box : Blk W (n + 2) #[v] 23
  str : Blk W (n + 3) #[.string ⟨l.toArray⟩] 9
  own : OwnL W (n + 4) v ls
  bel : Below n w W
theorem InvP.grown {n : Nat} {w : World} {l : List UInt8} {ls : List LineD} {v : Value} {W W' : World} {row : Option Nat} (h : InvP n w l ls v W) (hg : W.grownBy W' row) (hr : ∀ g, row = some g → n + 4 ≤ g ∧ ∀ cur t fr, W.heap[g]? = some (.cells cur t fr) → t ≠ 9 ∧ t ≠ 35) : InvP n w l ls v W' := by
  have hne : ∀ k, k < n + 4 → some k ≠ row := fun k hk e => by have := (hr k e.symm).1; omega
  exact ⟨h.res.grown hg (hne _ (by omega)), h.flt.grown hg (hne _ (by omega)), h.box.grown hg (hne _ (by omega)), h.str.grown hg (hne _ (by omega)), h.own.grown hg (fun g e => (hr g e).2),
    h.bel.grown hg (by have := h.res.lt; omega) (fun k e => by have := (hr k e).1; omega)⟩
theorem InvP.keep {n : Nat} {w : World} {l : List UInt8} {ls : List LineD} {v : Value} {W W' : World} (h : InvP n w l ls v W) (hb : Below W.heap.size W W') : InvP n w l ls v W' :=
  h.grown (grownBy_of_below hb) (fun g e => by cases e)
theorem others_of_below {W W' : World} (hb : Below W.heap.size W W') : KeepsOthers W W' :=
  ⟨hb.size, fun k _ hk _ => (hb.block k (Array.getElem?_eq_some_iff.1 hk).1).trans hk⟩
theorem kpb_of_below {n B : Nat} {W W' : World} (hb : Below W.heap.size W W') (hn : n ≤ W.heap.size) (hB : B < W.heap.size) : KpB n B W W' := ⟨hb.mono hn, hb.block B hB⟩
/-- the end of a round that appends -/
theorem InvP.next {n : Nat} {w : World} {l : List UInt8} {ls : List LineD} {v v' : Value} {d : LineD} {W w5 w6 : World} (h : InvP n w l ls v W) (hb : Below W.heap.size W w5) (ho : OwnL w6 (n + 4) v' (ls ++ [d])) (hg : w5.grownBy w6 v.ownBlock) :
    KeepsOthers W (w6.setCell ⟨n + 2, 0, none⟩ v') ∧ KpB n (n + 3) W (w6.setCell ⟨n + 2, 0, none⟩ v') ∧ InvP n w l (ls ++ [d]) v' (w6.setCell ⟨n + 2, 0, none⟩ v') := by
  have h5 := h.keep hb
  have hrow := h5.own.row
  have hne : ∀ k, k < n + 4 → some k ≠ v.ownBlock := fun k hk e => by have := (hrow k e.symm).1; omega
  have b0 := h5.res.grown hg (hne _ (by omega))
  have b1 := h5.flt.grown hg (hne _ (by omega))
  have b2 := h5.box.grown hg (hne _ (by omega))
  have b3 := h5.str.grown hg (hne _ (by omega))
  have bb : Below n w5 w6 := (Below.refl n w5).grown hg (by have := h5.res.lt; omega) (fun k e => by have := (hrow k e).1; omega)
  have hset : w6.grownBy (w6.setCell ⟨n + 2, 0, none⟩ v') (some (n + 2)) := grownBy_setCell' w6 (n + 2) v'
  refine ⟨⟨Nat.le_trans hb.size (Nat.le_trans hg.size hset.size), fun k o hk hc => ?_⟩, ⟨?_, ?_⟩, ?_⟩
  · have hlt : k < W.heap.size := (Array.getElem?_eq_some_iff.1 hk).1
    have k5 : w5.heap[k]? = some o := (hb.block k hlt).trans hk
    have k6 : w6.heap[k]? = some o := (hg.block k (Nat.lt_of_lt_of_le hlt hb.size) (fun e => by
      obtain ⟨_, cur, hcur⟩ := hrow k e.symm
      rw [k5] at hcur
      injection hcur with hcur
      rw [hcur] at hc
      cases hc)).trans k5
    refine (hset.block k (Array.getElem?_eq_some_iff.1 k6).1 (fun e => ?_)).trans k6
    injection e with e
    subst e
    have b2' : w6.heap[n + 2]? = some (.cells #[v] 23 (0, 0)) := b2
    rw [k6] at b2'
    injection b2' with b2'
    rw [b2'] at hc
    cases hc
  · exact ((hb.mono (Nat.le_of_lt h.res.lt)).trans bb).setCell (p := ⟨n + 2, 0, none⟩) (by show n ≤ n + 2; omega) v'
  · have e1 : Blk (w6.setCell ⟨n + 2, 0, none⟩ v') (n + 3) #[.string ⟨l.toArray⟩] 9 := b3.far (p := ⟨n + 2, 0, none⟩) (by show n + 3 ≠ n + 2; omega) v'
    exact Eq.trans e1 (Eq.symm h.str)
  · exact ⟨b0.far (p := ⟨n + 2, 0, none⟩) (by show n ≠ n + 2; omega) v', b1.far (p := ⟨n + 2, 0, none⟩) (by show n + 1 ≠ n + 2; omega) v', by
      have b2' : w6.heap[n + 2]? = some (.cells #[v] 23 (0, 0)) := b2
      show (w6.setCell ⟨n + 2, 0, none⟩ v').heap[n + 2]? = _
      simp [World.setCell, Array.getElem?_modify, b2'], b3.far (p := ⟨n + 2, 0, none⟩) (by show n + 3 ≠ n + 2; omega) v',
      ho.grown hset (fun g e cur t fr hc => by
        injection e with e
        subst e
        have b2' : w6.heap[n + 2]? = some (.cells #[v] 23 (0, 0)) := b2
        rw [hc] at b2'
        injection b2' with b2'
        injection b2' with _ h2
        rw [h2]
        decide),
      ((h5.bel).trans bb).setCell (p := ⟨n + 2, 0, none⟩) (by show n ≤ n + 2; omega) v'⟩
theorem others_set {W : World} {b i : Nat} {cs : Array Value} {t : TypeId} (h : Blk W b cs t) (u : Value) : KeepsOthers W (W.setCell ⟨b, i, none⟩ u) :=
  ⟨by simp [World.setCell], fun k o hk hc => (Below.heap_setCell W _ u k (fun e => by
    have e' : k = b := e
    subst e'
    have h' : W.heap[k]? = some (.cells cs t (0, 0)) := h
    rw [hk] at h'
    injection h' with h'
    rw [h'] at hc
    cases hc)).trans hk⟩
theorem Blk.set {W : World} {b i : Nat} {cs : Array Value} {t : TypeId} (h : Blk W b cs t) (u : Value) : Blk (W.setCell ⟨b, i, none⟩ u) b (cs.setIfInBounds i u) t := by
  have h' : W.heap[b]? = some (.cells cs t (0, 0)) := h
  show (W.setCell ⟨b, i, none⟩ u).heap[b]? = _
  simp [World.setCell, Array.getElem?_modify, h']
/-- the end of a round that meets a fault -/
theorem InvP.fail {n : Nat} {w : World} {l : List UInt8} {ls : List LineD} {v : Value} {W w7 : World} (h : InvP n w l ls v W) (hb : Below W.heap.size W w7) (k : Value) :
    KeepsOthers W (((w7.setCell ⟨n, 0, none⟩ (.slice none 0 0)).setCell ⟨n + 1, 0, none⟩ (.int .i64 3)).setCell ⟨n + 1, 1, none⟩ k) ∧ Blk (((w7.setCell ⟨n, 0, none⟩ (.slice none 0 0)).setCell ⟨n + 1, 0, none⟩ (.int .i64 3)).setCell ⟨n + 1, 1, none⟩ k) n #[.slice none 0 0] 23 ∧
    Blk (((w7.setCell ⟨n, 0, none⟩ (.slice none 0 0)).setCell ⟨n + 1, 0, none⟩ (.int .i64 3)).setCell ⟨n + 1, 1, none⟩ k) (n + 1) #[.int .i64 3, k] 26 ∧ Below n w (((w7.setCell ⟨n, 0, none⟩ (.slice none 0 0)).setCell ⟨n + 1, 0, none⟩ (.int .i64 3)).setCell ⟨n + 1, 1, none⟩ k) := by
  have h7 := h.keep hb
  have r1 : Blk (w7.setCell ⟨n, 0, none⟩ (.slice none 0 0)) n #[.slice none 0 0] 23 := h7.res.set (i := 0) (.slice none 0 0)
  have f1 : Blk (w7.setCell ⟨n, 0, none⟩ (.slice none 0 0)) (n + 1) #[.int .i64 0, .int .i64 0] 26 := h7.flt.far (p := ⟨n, 0, none⟩) (by show n + 1 ≠ n; omega) _
  have f2 : Blk ((w7.setCell ⟨n, 0, none⟩ (.slice none 0 0)).setCell ⟨n + 1, 0, none⟩ (.int .i64 3)) (n + 1) #[.int .i64 3, .int .i64 0] 26 := f1.set (i := 0) (.int .i64 3)
  have r2 := r1.far (p := ⟨n + 1, 0, none⟩) (by show n ≠ n + 1; omega) (.int .i64 3)
  refine ⟨(((others_of_below hb).trans (others_set h7.res _)).trans (others_set f1 _)).trans (others_set f2 _), r2.far (p := ⟨n + 1, 1, none⟩) (by show n ≠ n + 1; omega) k, f2.set (i := 1) k, ?_⟩
  exact ((h7.bel.setCell (p := ⟨n, 0, none⟩) (Nat.le_refl _) _).setCell (p := ⟨n + 1, 0, none⟩) (by show n ≤ n + 1; omega) _).setCell (p := ⟨n + 1, 1, none⟩) (by show n ≤ n + 1; omega) _
/-- the end of Parse -/
theorem InvP.fin {n : Nat} {w : World} {l : List UInt8} {ls : List LineD} {v : Value} {W : World} (h : InvP n w l ls v W) :
    KeepsOthers W (((W.setCell ⟨n, 0, none⟩ v).setCell ⟨n + 1, 0, none⟩ (.int .i64 0)).setCell ⟨n + 1, 1, none⟩ (.int .i64 0)) ∧ Blk (((W.setCell ⟨n, 0, none⟩ v).setCell ⟨n + 1, 0, none⟩ (.int .i64 0)).setCell ⟨n + 1, 1, none⟩ (.int .i64 0)) n #[v] 23 ∧
    Blk (((W.setCell ⟨n, 0, none⟩ v).setCell ⟨n + 1, 0, none⟩ (.int .i64 0)).setCell ⟨n + 1, 1, none⟩ (.int .i64 0)) (n + 1) #[.int .i64 0, .int .i64 0] 26 ∧ Below n w (((W.setCell ⟨n, 0, none⟩ v).setCell ⟨n + 1, 0, none⟩ (.int .i64 0)).setCell ⟨n + 1, 1, none⟩ (.int .i64 0)) ∧
    OwnL (((W.setCell ⟨n, 0, none⟩ v).setCell ⟨n + 1, 0, none⟩ (.int .i64 0)).setCell ⟨n + 1, 1, none⟩ (.int .i64 0)) n v ls := by
  have r1 : Blk (W.setCell ⟨n, 0, none⟩ v) n #[v] 23 := h.res.set (i := 0) v
  have f1 : Blk (W.setCell ⟨n, 0, none⟩ v) (n + 1) #[.int .i64 0, .int .i64 0] 26 := h.flt.far (p := ⟨n, 0, none⟩) (by show n + 1 ≠ n; omega) _
  have f2 : Blk ((W.setCell ⟨n, 0, none⟩ v).setCell ⟨n + 1, 0, none⟩ (.int .i64 0)) (n + 1) #[.int .i64 0, .int .i64 0] 26 := f1.set (i := 0) (.int .i64 0)
  have r2 := r1.far (p := ⟨n + 1, 0, none⟩) (by show n ≠ n + 1; omega) (.int .i64 0)
  have key : ∀ {W0 : World} {b i : Nat} {cs : Array Value} {t : TypeId} (u : Value), Blk W0 b cs t → t ≠ 9 ∧ t ≠ 35 → OwnL W0 (n + 4) v ls → OwnL (W0.setCell ⟨b, i, none⟩ u) (n + 4) v ls := by
    intro W0 b i cs t u hB ht hO
    refine hO.grown (row := some b) ⟨rfl, rfl, rfl, by simp [World.setCell], fun k _ hk => Below.heap_setCell _ _ _ _ (fun e => hk (by rw [show k = b from e]))⟩ (fun g e cur t' fr hc => ?_)
    injection e with e
    subst e
    have hB' : W0.heap[b]? = some (.cells cs t (0, 0)) := hB
    rw [hc] at hB'
    injection hB' with hB'
    injection hB' with _ h2
    rw [h2]
    exact ht
  refine ⟨((others_set h.res _).trans (others_set f1 _)).trans (others_set f2 _), r2.far (p := ⟨n + 1, 1, none⟩) (by show n ≠ n + 1; omega) _, f2.set (i := 1) _, ?_, ?_⟩
  · exact ((h.bel.setCell (p := ⟨n, 0, none⟩) (Nat.le_refl _) _).setCell (p := ⟨n + 1, 0, none⟩) (by show n ≤ n + 1; omega) _).setCell (p := ⟨n + 1, 1, none⟩) (by show n ≤ n + 1; omega) _
  · exact (key _ f2 (by decide) (key _ f1 (by decide) (key _ h.res (by decide) h.own))).mono (by omega)
theorem invP_own (B n : Nat) (w : World) (l : List UInt8) (hB : n + 4 ≤ B) {β : Type} (p : β → Prop) (f : β → List LineD) : OwnFrom B (fun s W => p s ∧ ∃ v, InvP n w l (f s) v W) := by
  rintro s W W' row ⟨hp, v, h⟩ hg hr
  refine ⟨hp, v, h.grown hg fun g e => ?_⟩
  obtain ⟨h1, o, ho, hc⟩ := hr g e
  refine ⟨by omega, fun cur t fr hcur => ?_⟩
  rw [ho] at hcur
  injection hcur with hcur
  rw [hcur] at hc
  cases hc

theorem sizeElemStr (w : World) : (sizeOf (Tryd.prog.elem 31)).run Tryd.prog w = .ok 1 w := by kernel_rfl
theorem elemStr : Tryd.prog.underlying 31 = some (.slice (Tryd.prog.elem 31)) := by kernel_rfl
theorem strTail {w : World} {b off : Nat} {p : List UInt8} {ps : List (List UInt8)} {c : Nat} (h : FldAt w (.slice (some ⟨b, off, none⟩) (p :: ps).length c) (p :: ps)) :
    ∃ B, (∀ w', (Instr.slice 31 (.slice (some ⟨b, off, none⟩) (ps.length + 1) c) (some (.int .i64 1)) none none).run Tryd.prog w' = .ok (.slice B ps.length (c - 1)) w') ∧ FldAt w (.slice B ps.length (c - 1)) ps := by
  obtain ⟨b', off', e, hc, hB⟩ := h.tail
  injection e with e
  injection e with e1 e2
  subst e1 e2
  refine ⟨if c = 1 then some ⟨b, off, none⟩ else some ⟨b, off + 1, none⟩, fun w' => ?_, hB _ (fun hz => ?_)⟩
  · rw [run_slice_l w' _ _ _ c elemStr _ _ (by omega) (by simp; omega), sizeElemStr]
    simp [sliced, Result.andThen, Addr.add]
  · rw [if_neg (by simp at hc; omega)]
end Go.Proofs.YtafmdeipcepaiaaDoor
