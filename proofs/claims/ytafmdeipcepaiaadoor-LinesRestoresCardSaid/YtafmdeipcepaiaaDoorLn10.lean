/- Strings, Same of the reference, on equal lists -/
import Derived.Test.YtafmdeipcepaiaaDoorLn9
namespace Go.Proofs.YtafmdeipcepaiaaDoor
open Go.RowKit Go.Sort

theorem StrsAt.at_ {w : World} {A : Option Addr} {ps : List (List UInt8)} (h : StrsAt w A ps) {k : Nat} (hk : k < ps.length) : ∃ b off, A = some ⟨b, off, none⟩ ∧ b < w.heap.size ∧ w.cell? ⟨b, off + k, none⟩ = some (.string ⟨(piece ps k).toArray⟩) := by
  obtain ⟨b, off, e, hb, hc⟩ := h (by omega)
  exact ⟨b, off, e, hb, hc k hk⟩

set_option maxHeartbeats 1000000 in
set_option maxRecDepth 100000 in
theorem rfStrings (ps : List (List UInt8)) (A B : Option Addr) (c1 c2 : Nat) (w : World) (hA : StrsAt w A ps) (hB : StrsAt w B ps) (hl : ps.length ≤ 1000000) :
    Calls Tryd.prog 20 #[.slice A ps.length c1, .slice B ps.length c2] w fun e w' => e = .returned (.bool true) ∧ Below w.heap.size w w' := by
  have HA := Lib.hid hA
  have HB := Lib.hid hB
  clear hA hB
  go_enter Tryd.func20, Tryd.ntmps20
  go_wp2_with fail
  go_loopw [5] (fun i wr => ∃ k : Nat, k ≤ ps.length ∧ i = .int .i64 k ∧ Below w.heap.size w wr) (fun i _ => ps.length - (intOf i).toNat)
  case atStart => exact ⟨0, Nat.zero_le _, rfl, Below.refl _ _⟩
  case round =>
    obtain ⟨k, hk, rfl, hbr⟩ := hrel
    by_cases hlt : k < ps.length
    · obtain ⟨b1, o1, rfl, h1, e1⟩ := HA.out.at_ hlt
      obtain ⟨b2, o2, rfl, h2, e2⟩ := HB.out.at_ hlt
      have g1 : wr.cell? ⟨b1, o1 + k, none⟩ = some (.string ⟨(piece ps k).toArray⟩) := (hbr.cell (p := ⟨b1, o1 + k, none⟩) h1).trans e1
      have g2 : wr.cell? ⟨b2, o2 + k, none⟩ = some (.string ⟨(piece ps k).toArray⟩) := (hbr.cell (p := ⟨b2, o2 + k, none⟩) h2).trans e2
      clear e1 e2
      generalize piece ps k = z at g1 g2
      have hki : (k : Int) < ps.length := by omega
      go_wp2_with fail
      go_region
      all_goals go_wp2_with fail
      all_goals go_roundw
      all_goals first
        | exact ⟨k + 1, by omega, by go_num, hbr⟩
        | exact ⟨k + 1, by omega, by go_num, hbr.drew⟩
        | (simp [intOf]; omega)
    · obtain rfl : k = ps.length := by omega
      go_wp2_with fail
      go_ret
      exact ⟨rfl, hbr⟩
end Go.Proofs.YtafmdeipcepaiaaDoor
