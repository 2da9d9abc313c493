/- SameElements on equal lists -/
import Derived.Test.YthogkokifiibnaaDoorEl10
import Derived.Lib.QuietBelow
import Derived.BigQuiet
namespace Go.Proofs.YthogkokifiibnaaDoor
open Go.RowKit Go.Sort

set_option maxHeartbeats 2000000 in
set_option maxRecDepth 100000 in
theorem rfSameE (ls : List ElemD) (A B : Option Addr) (c1 c2 : Nat) (w : World) (hA : ElemsAt w A ls) (hB : ElemsAt w B ls) (hl : ls.length ≤ 1000000) :
    Calls Tryd.prog 11 #[.slice A ls.length c1, .slice B ls.length c2] w fun e w' => e = .returned (.bool true) ∧ Below w.heap.size w w' := by
  have HA := Lib.hid hA
  have HB := Lib.hid hB
  clear hA hB
  go_enter Tryd.func11, Tryd.ntmps11
  go_wp2_with fail
  go_loopw [5] (fun i wr => ∃ k : Nat, k ≤ ls.length ∧ i = .int .i64 k ∧ Below w.heap.size w wr) (fun i _ => ls.length - (intOf i).toNat)
  case atStart => exact ⟨0, Nat.zero_le _, rfl, Below.refl _ _⟩
  case round =>
    obtain ⟨k, hk, rfl, hbr⟩ := hrel
    by_cases hlt : k < ls.length
    · obtain ⟨b1, o1, rfl, h1, p0, p1, p2, p3⟩ := (HA.out.keep hbr).at_ hlt
      obtain ⟨b2, o2, rfl, h2, q0, q1, q2, q3⟩ := (HB.out.keep hbr).at_ hlt
      generalize elemAt ls k = d at p0 p1 p2 p3 q0 q1 q2 q3
      obtain ⟨p, s, t, v⟩ := d
      dsimp only at p0 p1 p2 p3 q0 q1 q2 q3
      have hki : (k : Int) < ls.length := by omega
      have k0 := cell_regrown p0
      have k1 := cell_regrown p1
      have k2 := cell_regrown p2
      have k3 := cell_regrown p3
      have j0 := cell_regrown q0
      have j1 := cell_regrown q1
      have j2 := cell_regrown q2
      have j3 := cell_regrown q3
      go_wp2_with fail
      refine wp_region_quiet_below (by kernel_rfl) (by kernel_rfl) ?_
      repeat (go_big_quiet_step (fail))
      refine wpQuiet_nil ?_
      rintro _ ⟨⟨dq, osq⟩, rfl⟩
      have hb2 := below_regrown wr dq osq
      generalize grow (redrawn wr dq) osq = w2 at hb2 ⊢
      go_wp2_with fail
      go_roundw
      case rel => exact ⟨k + 1, by omega, by go_num, bUp hbr hb2⟩
      case measure => simp [intOf]; omega
    · obtain rfl : k = ls.length := by omega
      have hki : ¬ (ls.length : Int) < ls.length := by omega
      go_wp2_with fail
      go_ret
      exact ⟨rfl, hbr⟩
end Go.Proofs.YthogkokifiibnaaDoor
