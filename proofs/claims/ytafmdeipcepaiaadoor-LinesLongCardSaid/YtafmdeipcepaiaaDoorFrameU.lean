/- Numbers of other kinds as arguments: their ranges. -/
import Derived.Test.YtafmdeipcepaiaaDoorFrame
namespace Go.Proofs.YtafmdeipcepaiaaDoor
theorem u32_rng {x : Int} (h : (Lit.int .u32 x).wf = true) : 0 ≤ x ∧ x ≤ 4294967295 := by
  have h' : (decide (0 ≤ x) && decide (x ≤ 4294967295)) = true := h
  simpa using h'
theorem u8_rng {x : Int} (h : (Lit.int .u8 x).wf = true) : 0 ≤ x ∧ x ≤ 255 := by
  have h' : (decide (0 ≤ x) && decide (x ≤ 255)) = true := h
  simpa using h'
end Go.Proofs.YtafmdeipcepaiaaDoor
