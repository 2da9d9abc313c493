/- The law CharsetChecks: its walk -/
import Derived.Test.YthpiopjpipdgnaaDoorCs8
namespace Go.Proofs.YthpiopjpipdgnaaDoor
open Go.RowKit Go.Sort

def fewB (zs : List Int) : Bool := decide (zs.length ≤ 300)
theorem csFew (zs : List Int) (A : Option Addr) (cap : Nat) (w : World) (hl : zs.length ≤ 9223372036854775807) :
    Calls Tryd.prog 11 #[.agg #[.slice A zs.length cap]] w fun e w' => e = .returned (.bool (fewB zs)) ∧ Below w.heap.size w w' := by
  by_cases h : zs.length ≤ 300
  all_goals
    go_enter Tryd.func11, Tryd.ntmps11
    go_wp2_with fail
    go_ret
    exact ⟨ret_bool (by simp [fewB]; omega), bBox _ _⟩

set_option maxHeartbeats 1000000 in
set_option maxRecDepth 100000 in
theorem lawChecks (zs : List Int) (A : Option Addr) (cap : Nat) (w : World) (hA : IntsAt w A zs) (hl : zs.length ≤ 9223372036854775807) (hE : Env w) :
    Calls Tryd.prog 3 #[.agg #[.slice A zs.length cap]] w fun e w' => e = .returned (.bool true) ∧ Below w.heap.size w w' := by
  have cF := callsQ (w := w.alloc (.cells #[.slice A zs.length cap] 24)) (fun w' _ => csFew zs A cap w' hl)
  have cA := callsQ (w := w.alloc (.cells #[.slice A zs.length cap] 24)) (fun w' hb => alive06 w' (hE.keep (bUp (bBox _ _) hb)))
  have k0 := cell_regrown (show (w.alloc (.cells #[.slice A zs.length cap] 24)).cell? ⟨w.heap.size, 0, none⟩ = some (.slice A zs.length cap) from cell_box _ _ _ 0)
  by_cases h : zs.length ≤ 300
  · have hf : fewB zs = true := by simp [fewB, h]
    have cC := callsQ (w := w.alloc (.cells #[.slice A zs.length cap] 24)) (fun w' hb => csCheck zs A cap w' (hA.keep (bUp (bBox _ _) hb)) h)
    have cR := callsQ (w := w.alloc (.cells #[.slice A zs.length cap] 24)) (fun w' hb => refCheck zs A cap w' (hA.keep (bUp (bBox _ _) hb)) h)
    rw [hf] at cF
    have hcc : (checkC zs == checkC zs) = true := by simp
    have CF := Lib.hid cF
    have CA := Lib.hid cA
    have CC := Lib.hid cC
    have CR := Lib.hid cR
    have HA := Lib.hid hA
    have HE := Lib.hid hE
    have Hf := Lib.hid hf
    clear cF cA cC cR hA hE hf
    go_enter Tryd.func3, Tryd.ntmps3
    go_wp2_with fail
    refine wp_region_quiet_below (by kernel_rfl) (by kernel_rfl) ?_
    repeat (go_big_quiet_step (first | exact CF.out _ _ | exact CC.out _ _ | exact CR.out _ _ | exact CA.out _ _))
    refine wpQuiet_nil ?_
    rintro _ ⟨⟨dq, osq⟩, rfl⟩
    have hb2 := below_regrown (w.alloc (.cells #[.slice A zs.length cap] 24)) dq osq
    generalize grow (redrawn (w.alloc (.cells #[.slice A zs.length cap] 24)) dq) osq = w2 at hb2 ⊢
    go_wp2_with fail
    go_ret
    exact ⟨rfl, bUp (bBox _ _) hb2⟩
  · have hf : fewB zs = false := by simp [fewB, h]
    rw [hf] at cF
    have CF := Lib.hid cF
    have CA := Lib.hid cA
    have HA := Lib.hid hA
    have HE := Lib.hid hE
    have Hf := Lib.hid hf
    clear cF cA hA hE hf
    go_enter Tryd.func3, Tryd.ntmps3
    go_wp2_with fail
    refine wp_region_quiet_below (by kernel_rfl) (by kernel_rfl) ?_
    repeat (go_big_quiet_step (first | exact CF.out _ _ | exact CA.out _ _))
    refine wpQuiet_nil ?_
    rintro _ ⟨⟨dq, osq⟩, rfl⟩
    have hb2 := below_regrown (w.alloc (.cells #[.slice A zs.length cap] 24)) dq osq
    generalize grow (redrawn (w.alloc (.cells #[.slice A zs.length cap] 24)) dq) osq = w2 at hb2 ⊢
    go_wp2_with fail
    go_ret
    exact ⟨rfl, bUp (bBox _ _) hb2⟩
end Go.Proofs.YthpiopjpipdgnaaDoor
