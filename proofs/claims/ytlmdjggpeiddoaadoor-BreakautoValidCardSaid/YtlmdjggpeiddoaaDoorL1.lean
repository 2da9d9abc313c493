/- BreakautoValid: the walk -/
import Derived.Test.YtlmdjggpeiddoaaDoorD17
namespace Go.Proofs.YtlmdjggpeiddoaaDoor
open Go.RowKit Go.Sort

set_option maxHeartbeats 4000000 in
set_option maxRecDepth 100000 in
theorem lawBValid (t : TabD) (u : TabV) (w : World) (hT : TabAt w t u) (hn : ∀ p ∈ t.classes, p.length ≤ 9223372036854775807) (hE : EnvB w) :
    Calls Tryd.prog 3 #[.agg (tabCells t u)] w fun e w' => e = .returned (.bool true) ∧ Below w.heap.size w w' := by
  obtain ⟨a0, a1, a2, a3, a4, a5, c0, c1, c2, c3, c4, c5⟩ := u
  have hbx := bBox w (.cells (tabCells t ⟨a0, a1, a2, a3, a4, a5, c0, c1, c2, c3, c4, c5⟩) 28)
  obtain ⟨k0, k1, k2, k3, k4, k5⟩ := tab_cells (Blk.new w (tabCells t ⟨a0, a1, a2, a3, a4, a5, c0, c1, c2, c3, c4, c5⟩) 28)
  have cS := callsQ (w := w.alloc (.cells (tabCells t ⟨a0, a1, a2, a3, a4, a5, c0, c1, c2, c3, c4, c5⟩) 28)) (fun w' hb => smallTab t ⟨a0, a1, a2, a3, a4, a5, c0, c1, c2, c3, c4, c5⟩ w' (hT.keep (bUp hbx hb)))
  have cA := callsQ (w := w.alloc (.cells (tabCells t ⟨a0, a1, a2, a3, a4, a5, c0, c1, c2, c3, c4, c5⟩) 28)) (fun w' hb => alive w' (hE.keep (bUp hbx hb)))
  replace k0 := cell_regrown k0
  replace k1 := cell_regrown k1
  replace k2 := cell_regrown k2
  replace k3 := cell_regrown k3
  replace k4 := cell_regrown k4
  replace k5 := cell_regrown k5
  cases hs : smallT t with
  | true =>
    have hF := smallT_few hs hn
    have cV := callsQ (w := w.alloc (.cells (tabCells t ⟨a0, a1, a2, a3, a4, a5, c0, c1, c2, c3, c4, c5⟩) 28)) (fun w' hb => valid t ⟨a0, a1, a2, a3, a4, a5, c0, c1, c2, c3, c4, c5⟩ w' (hT.keep (bUp hbx hb)) hF)
    have cR := callsQ (w := w.alloc (.cells (tabCells t ⟨a0, a1, a2, a3, a4, a5, c0, c1, c2, c3, c4, c5⟩) 28)) (fun w' hb => rfValid t ⟨a0, a1, a2, a3, a4, a5, c0, c1, c2, c3, c4, c5⟩ w' (hT.keep (bUp hbx hb)) hF)
    rw [hs] at cS
    generalize validB t = r at cV cR
    have hrr : (r == r) = true := by simp
    unfold tabCells at *
    have CS := Lib.hid cS
    have CA := Lib.hid cA
    have CV := Lib.hid cV
    have CR := Lib.hid cR
    have HT := Lib.hid hT
    have HE := Lib.hid hE
    have Hbx := Lib.hid hbx
    clear cS cA cV cR hT hE hbx
    clear hs hF hn
    go_enter Tryd.func3, Tryd.ntmps3
    go_wp2_with fail
    refine wp_region_quiet_below (by kernel_rfl) (by kernel_rfl) ?_
    repeat (go_big_quiet_step (first | exact CS.out _ _ | exact CV.out _ _ | exact CR.out _ _ | exact CA.out _ _))
    refine wpQuiet_nil ?_
    rintro _ ⟨⟨dq, osq⟩, rfl⟩
    have hb2 := below_regrown (w.alloc (.cells #[.slice a0 t.classes.length c0, .slice a1 t.actions.length c1, .slice a2 t.left.next.length c2, .slice a3 t.left.marks.length c3, .slice a4 t.right.next.length c4, .slice a5 t.right.marks.length c5] 28)) dq osq
    generalize grow (redrawn (w.alloc (.cells #[.slice a0 t.classes.length c0, .slice a1 t.actions.length c1, .slice a2 t.left.next.length c2, .slice a3 t.left.marks.length c3, .slice a4 t.right.next.length c4, .slice a5 t.right.marks.length c5] 28)) dq) osq = w2 at hb2 ⊢
    go_wp2_with fail
    go_ret
    exact ⟨rfl, bUp (bBox _ _) hb2⟩
  | false =>
    rw [hs] at cS
    unfold tabCells at *
    have CS := Lib.hid cS
    have CA := Lib.hid cA
    have HT := Lib.hid hT
    have HE := Lib.hid hE
    have Hbx := Lib.hid hbx
    clear cS cA hT hE hbx
    clear hs hn
    go_enter Tryd.func3, Tryd.ntmps3
    go_wp2_with fail
    refine wp_region_quiet_below (by kernel_rfl) (by kernel_rfl) ?_
    repeat (go_big_quiet_step (first | exact CS.out _ _ | exact CA.out _ _))
    refine wpQuiet_nil ?_
    rintro _ ⟨⟨dq, osq⟩, rfl⟩
    have hb2 := below_regrown (w.alloc (.cells #[.slice a0 t.classes.length c0, .slice a1 t.actions.length c1, .slice a2 t.left.next.length c2, .slice a3 t.left.marks.length c3, .slice a4 t.right.next.length c4, .slice a5 t.right.marks.length c5] 28)) dq osq
    generalize grow (redrawn (w.alloc (.cells #[.slice a0 t.classes.length c0, .slice a1 t.actions.length c1, .slice a2 t.left.next.length c2, .slice a3 t.left.marks.length c3, .slice a4 t.right.next.length c4, .slice a5 t.right.marks.length c5] 28)) dq) osq = w2 at hb2 ⊢
    go_wp2_with fail
    go_ret
    exact ⟨rfl, bUp (bBox _ _) hb2⟩
end Go.Proofs.YtlmdjggpeiddoaaDoor
