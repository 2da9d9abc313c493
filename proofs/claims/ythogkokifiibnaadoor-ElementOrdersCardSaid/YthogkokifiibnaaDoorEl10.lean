/- content: a line without its comment -/
import Derived.Test.YthogkokifiibnaaDoorEl9
namespace Go.Proofs.YthogkokifiibnaaDoor
open Go.RowKit Go.Sort

/-- a line without its comment and the blanks in front of that -/
def contentP (l : List UInt8) : List UInt8 := match cutB 35 l with | some p => Lib.trimRightB p.1 32 | none => l
theorem idx35 (l : List UInt8) : Lib.indexByte l 35 = match cutB 35 l with | some p => (p.1.length : Int) | none => -1 := by
  rw [← Lib.index_one, index_cut]
  cases cutB 35 l <;> rfl

set_option maxHeartbeats 2000000 in
set_option maxRecDepth 100000 in
theorem elContent (l : List UInt8) (w : World) (hl : l.length ≤ 65536) :
    Calls Tryd.prog 27 #[.string ⟨l.toArray⟩] w fun e w' => e = .returned (.string ⟨(contentP l).toArray⟩) ∧ w = w' := by
  have HI := Lib.hid (Tryd.strings_IndexByte ⟨l.toArray⟩ 35 w)
  rw [show (ByteArray.mk l.toArray).data.toList = l from rfl, show ((35 : Int)).toNat.toUInt8 = 35 from rfl, idx35] at HI
  cases hc : cutB 35 l with
  | none =>
    rw [hc] at HI
    have HP := Lib.hid (show contentP l = l by unfold contentP; rw [hc])
    have Hc := Lib.hid hc
    clear hc
    go_enter Tryd.func27, Tryd.ntmps27
    go_wp2_with fail
    refine HI.out.mono ?_
    rintro e w1 ⟨rfl, rfl⟩
    go_wp2_with fail
    go_ret
    exact ⟨by rw [HP.out]; rfl, rfl⟩
  | some p =>
    rw [hc] at HI
    obtain ⟨e1, _⟩ := cutB_some (a := p.1) (r := p.2) hc
    have HP := Lib.hid (show contentP l = Lib.trimRightB p.1 32 by unfold contentP; rw [hc])
    have hpl : p.1.length ≤ l.length := by rw [e1]; simp
    have ht : seg l 0 p.1.length = p.1 := by unfold seg; rw [List.drop_zero, Nat.sub_zero]; conv => lhs; rw [e1, List.take_left]
    have g1 : ∀ w', (Instr.slice 9 (.string ⟨l.toArray⟩) none (some (.int .i64 p.1.length)) none).run Tryd.prog w' = .ok (.string ⟨p.1.toArray⟩) w' := fun w' => by
      have h3 : (p.1.length : Int) ≤ l.length := by omega
      simp [go_sem, Tryd.underlying9, h3, ht]
    have HT := Lib.hid (fun w' => Tryd.strings_TrimRight_one ⟨p.1.toArray⟩ 32 (by decide) w' (by simp [ByteArray.size]; omega))
    rw [show (ByteArray.mk p.1.toArray).data.toList = p.1 from rfl] at HT
    dsimp only at HI
    generalize p.1 = d at HI HP hpl g1 HT
    have h0 : (0 : Int) ≤ d.length := by omega
    have Hc := Lib.hid hc
    have E1 := Lib.hid e1
    have Ht := Lib.hid ht
    clear hc e1 ht
    go_enter Tryd.func27, Tryd.ntmps27
    go_wp2_with fail
    refine HI.out.mono ?_
    rintro e w1 ⟨rfl, rfl⟩
    go_wp2_with fail
    refine (HT.out _).mono ?_
    rintro e w2 ⟨rfl, rfl⟩
    go_wp2_with fail
    go_ret
    exact ⟨by rw [HP.out]; rfl, rfl⟩
end Go.Proofs.YthogkokifiibnaaDoor
