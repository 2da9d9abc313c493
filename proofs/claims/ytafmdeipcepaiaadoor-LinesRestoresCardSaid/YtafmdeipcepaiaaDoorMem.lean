/- Slices of ints of the call's own, append, reslicing. -/
import Derived.Test.YtafmdeipcepaiaaDoorProg
import Derived.Test.YtafmdeipcepaiaaDoorBase2
import Derived.Maps.AppendAt
import Derived.Deep.RegionHeld
import Derived.Deep.RegionLaw
import Derived.Deep.AppendLies
import Derived.Laws.AppendOwnNone
import Derived.IntWalk
namespace Go.Proofs.YtafmdeipcepaiaaDoor
open Go.RowKit Go.Sort

theorem infoInt : (Tryd.prog.info? 3).map (fun i => (i.zero, i.size, i.bytes)) = some (some (.int .i64 0), 1, 8) := by kernel_rfl
theorem bcell {W w1 : World} (hb : Below W.heap.size W w1) : (∀ b o, b < W.heap.size → w1.cell? ⟨b, o, none⟩ = W.cell? ⟨b, o, none⟩) ∧ (∀ b o, b < W.heap.size → w1.frozen? ⟨b, o, none⟩ = W.frozen? ⟨b, o, none⟩) :=
  ⟨fun b o h => hb.cell (p := ⟨b, o, none⟩) h, fun b o h => hb.frozen (p := ⟨b, o, none⟩) h⟩






theorem nth_mem {zs : List Int} {k : Nat} (h : k < zs.length) : nth zs k ∈ zs := by rw [nth_lt h]; exact List.getElem_mem h
theorem below_drewN {B : Nat} {w : World} (n : Nat) : Below B w (w.drewN n) := ⟨rfl, rfl, rfl, Nat.le_refl _, fun _ _ => rfl⟩
theorem strSlice (l : List UInt8) {j k : Nat} (h1 : j ≤ k) (h2 : k ≤ l.length) (w : World) : (Instr.slice 9 (.string ⟨l.toArray⟩) (some (.int .i64 j)) (some (.int .i64 k)) none).run Tryd.prog w = .ok (.string ⟨(seg l j k).toArray⟩) w := by
  have h3 : (j : Int) ≤ k := by omega
  have h4 : (k : Int) ≤ l.length := by omega
  simp [go_sem, Tryd.underlying9, h3, h4]
theorem seg_one {l : List UInt8} {k : Nat} (hk : k < l.length) : seg l k (k + 1) = [l[k]] := by rw [seg_snoc (Nat.le_refl k) hk, seg_self]; rfl
end Go.Proofs.YtafmdeipcepaiaaDoor
