/- Ranges over functions: words for what a round keeps, at the wide fence. -/
import Derived.Test.YtafmdeipcepaiaaDoorBld
import Derived.Test.YtafmdeipcepaiaaDoorBase2
import Derived.RangeFuncNested
import Derived.RangeFuncBound
import Derived.RangeFuncCalls
import Derived.RangeFuncLeaves
import Derived.Shelf.Abstract
import Derived.Shelf.RegionOpen
import Derived.OwnWalkIn
import Derived.TacticsInMore
import Derived.LoopNIn
import Derived.LoopIn
namespace Go.Proofs.YtafmdeipcepaiaaDoor
open Go.RowKit Go.Shelf

/-- what lay below n lies on, and so does block B -/
def KpB (n B : Nat) (W W' : World) : Prop := Below n W W' ∧ W'.heap[B]? = W.heap[B]?
theorem KpB.trans {n B : Nat} {W1 W2 W3 : World} (h : KpB n B W1 W2) (k : KpB n B W2 W3) : KpB n B W1 W3 := ⟨h.1.trans k.1, k.2.trans h.2⟩
theorem KpB.put {n B s : Nat} (hn : n ≤ s) (hB : B < s) (W : World) (l : Nat) (o o' : Obj) (hl : s ≤ l) (_h : W.heap[l]? = some o) : KpB n B W (W.putObj l o') := by
  have key : ∀ k, k ≠ l → (W.putObj l o').heap[k]? = W.heap[k]? := fun k hk => by
    have hg := grownBy_putObj' W l o'
    by_cases hlt : k < W.heap.size
    · exact hg.block k hlt (fun e => hk (by injection e))
    · simp [World.putObj, hlt]
  have hg := grownBy_putObj' W l o'
  exact ⟨⟨hg.os, hg.tape, hg.output, hg.size, fun k hk => key k (by omega)⟩, key B (by omega)⟩
theorem grownBy_of_below {W W' : World} (hb : Below W.heap.size W W') : W.grownBy W' none := ⟨hb.os, hb.tape, hb.output, hb.size, fun i hi _ => hb.block i hi⟩
theorem FrB.others {b : Nat} {T : TypeId} {tail : List Value} {l : List UInt8} {W W' : World} (hB : Bld T tail b l W) (h : FrB b W W') (hs : W.heap.size ≤ W'.heap.size) : KeepsOthers W W' := by
  refine ⟨hs, fun k o hk ho => h k o ?_ hk ?_⟩
  · rintro rfl
    obtain ⟨p, v, _, hb, _⟩ := hB
    rw [hk] at hb
    injection hb with hb
    rw [hb] at ho
    cases ho
  · rintro cs fr rfl
    cases ho
/-- a builder stands while blocks that are no cells turn -/
theorem bld_own (T : TypeId) (tail : List Value) (b B : Nat) {β : Type} (f : β → List UInt8) : OwnFrom B (fun pre W => Bld T tail b (f pre) W) := by
  intro s W W' row hs hg hr
  have hlt := hs.lt
  obtain ⟨p, v, hp, hh, hown, hne, hn⟩ := hs
  have hb : some b ≠ row := by
    intro e
    obtain ⟨_, o, ho, hc⟩ := hr b e.symm
    rw [hh] at ho
    injection ho with ho
    rw [← ho] at hc
    cases hc
  refine ⟨p, v, hp, (hg.block b hlt hb).trans hh, hown.kept hg ?_, hne, hn⟩
  cases hv : v.ownBlock with
  | none => exact .inl rfl
  | some g =>
    right
    intro e
    rw [← e] at hr
    obtain ⟨_, o, ho, hc⟩ := hr g rfl
    rcases hown.2 with ⟨rfl, _⟩ | ⟨g', cap, cur, rfl, _, hb', _⟩
    · cases hv
    · have : g' = g := by simpa [Value.ownBlock] using hv
      subst this
      rw [hb'] at ho
      injection ho with ho
      rw [← ho] at hc
      cases hc
theorem FrB.keepBlk {b B : Nat} {cs : Array Value} {t : TypeId} {W W' : World} (h : FrB b W W') (hB : Blk W B cs t) (ht : t ≠ 5) (hne : B ≠ b) : Blk W' B cs t :=
  h B _ hne hB (fun cs' fr e => ht (by injection e))
theorem blk_own (B b : Nat) (cs : Array Value) (t : TypeId) {β : Type} : OwnFrom B (fun (_ : β) W => Blk W b cs t) := by
  intro s W W' row hs hg hr
  refine (hg.block b hs.lt ?_).trans hs
  intro e
  obtain ⟨_, o, ho, hc⟩ := hr b e.symm
  have hs' : W.heap[b]? = some (.cells cs t (0, 0)) := hs
  rw [hs'] at ho
  injection ho with ho
  rw [← ho] at hc
  cases hc
end Go.Proofs.YtafmdeipcepaiaaDoor
