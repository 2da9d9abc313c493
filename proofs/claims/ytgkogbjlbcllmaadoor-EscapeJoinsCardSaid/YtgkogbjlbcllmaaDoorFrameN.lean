/- Slices of ints as arguments, with what a nil one's capacity is. -/
import Derived.Test.YtgkogbjlbcllmaaDoorFrame
namespace Go.Proofs.YtgkogbjlbcllmaaDoor
open Go.ChangeShapes Go.WideShapes Go.ChangeAt Go.RowKit
section
variable {H : Type} {enc : TypeId × Value → H} {W : World} {base : Nat}
/-- a slice of ints -/
theorem open_ints_atN {fuel : Nat} {cs : List Value} {x : DataW H × List MemPlace} (h : DataW.trod enc Tryd.prog W 0 (fun _ => true) true fuel 22 cs = some x) :
    ∃ (A : Option Addr) (zs : List Int) (cap : Nat), cs = [.slice A zs.length cap] ∧ IntsAt W A zs ∧ WfInts zs ∧ zs.length ≤ cap ∧ cap ≤ 9223372036854775807 ∧ (A = none → cap = 0) := by
  rcases open_ints Tryd.underlying22 Tryd.underlying3 (by kernel_rfl) h with ⟨rfl, _⟩ | ⟨a, len, cap, zs, rfl, _, hl, hm, hz, hx, hcell, hwz⟩
  · exact ⟨none, [], 0, rfl, IntsAt.nil, fun z hz => by simp at hz, Nat.le_refl _, by omega, fun _ => rfl⟩
  · simp only [if_true] at hz
    have hlen : (zs.take len).length = len := by simp; omega
    refine ⟨some a, zs.take len, cap, by rw [hlen], ?_, ?_, by omega, by unfold maxLen at hm; omega, fun h => by cases h⟩
    · intro h0
      rw [hlen] at h0
      obtain ⟨b, off, rfl, hc⟩ := ints_at hcell (by omega)
      refine ⟨b, off, rfl, ?_, fun j hj => ?_⟩
      · have := hc 0 (by omega)
        exact block_lt_of_cell this
      · rw [hlen] at hj
        rw [hc j (by omega)]
        unfold nth
        rw [List.getD_eq_getElem?_getD, List.getD_eq_getElem?_getD, List.getElem?_take_of_lt hj]
    · intro z hz'
      have := hwz z (List.mem_of_mem_take hz')
      exact bounds_i64 this
set_option maxRecDepth 100000 in
theorem open_ints_valN {v : Value} {d : DataW H} {p : List MemPlace} (hv : Value.okWide Tryd.prog W .any base 22 v) (h : DataW.Trod enc Tryd.prog W 0 (fun _ => true) true 22 v d p) :
    ∃ (A : Option Addr) (zs : List Int) (cap : Nat), v = .slice A zs.length cap ∧ IntsAt W A zs ∧ WfInts zs ∧ zs.length ≤ cap ∧ cap ≤ 9223372036854775807 ∧ (A = none → cap = 0) := by
  obtain ⟨a0, len, cap, rfl⟩ := okWide_slice Tryd.underlying22 hv
  obtain ⟨fuel, hf⟩ := h
  obtain ⟨A, zs, c, e, h1, h2, h3, h4, h5⟩ := open_ints_atN hf
  have e' : [Value.slice a0 len cap] = [.slice A zs.length c] := e
  rw [List.cons.injEq] at e'
  exact ⟨A, zs, c, e'.1, h1, h2, h3, h4, h5⟩
end
end Go.Proofs.YtgkogbjlbcllmaaDoor
