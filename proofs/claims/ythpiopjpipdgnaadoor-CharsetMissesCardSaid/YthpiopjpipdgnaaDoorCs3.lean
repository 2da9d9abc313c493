/- charset.index -/
import Derived.Test.YthpiopjpipdgnaaDoorCs2
import Derived.Outline
namespace Go.Proofs.YthpiopjpipdgnaaDoor
open Go.RowKit Go.Sort

def idxOf : List Int → Nat → (Int → Option Int) → (Int → Option Int)
  | [], _, f => f
  | z :: r, i, f => idxOf r (i + 1) (if z = -1 then f else fun y => if y = z then some (i : Int) else f y)
def idxF (zs : List Int) : Int → Option Int := idxOf zs 0 fun _ => none

/-- every code is -1 or a code point -/
def Codes (zs : List Int) : Prop := ∀ z ∈ zs, z = -1 ∨ (0 ≤ z ∧ z ≤ 1114111)

set_option maxRecDepth 100000 in
theorem csIndex (zs : List Int) (A : Option Addr) (cap : Nat) (w : World) (hA : IntsAt w A zs) (hl : zs.length ≤ 256) (hC : Codes zs) :
    Calls Tryd.prog 31 #[.agg #[.slice A zs.length cap]] w fun e w' => e = .returned (.map (some (w.heap.size + 1))) ∧ ByteMap Tryd.prog 3 5 w' (w.heap.size + 1) zs.length (idxF zs) ∧ Below w.heap.size w w' := by
  have HA := Lib.hid hA
  have HC := Lib.hid hC
  clear hA hC
  have hmm := @run_makeMap Tryd.prog
  go_enter Tryd.func31, Tryd.ntmps31
  go_wp2
  go_loopw [10] (fun i wr => ∃ (m : Nat) (f : Int → Option Int), m ≤ zs.length ∧ i = .int .i64 m ∧ ByteMap Tryd.prog 3 5 wr (w.heap.size + 1) m f ∧ Hid (idxF zs = idxOf (zs.drop m) m f) ∧ Below (w.heap.size + 1) (w.alloc (.cells #[.slice A zs.length cap] 24)) wr) (fun i _ => zs.length - (intOf i).toNat)
  case atStart =>
    refine ⟨0, fun _ => none, Nat.zero_le _, rfl, ?_, rfl, (Below.refl _ _).alloc (by simp) _⟩
    have := ByteMap.made (w.alloc (.cells #[.slice A zs.length cap] 24)) Tryd.prog 3 5
    simpa using this
  case round =>
    obtain ⟨m, f, hm, rfl, hmap, HF, hbel⟩ := hrel
    by_cases hlt : m < zs.length
    · obtain ⟨b, off, rfl, hb, hc⟩ := HA.out.at_ (k := m) hlt
      have hd := drop_nth hlt
      have hcm : wr.cell? ⟨b, off + m, none⟩ = some (.int .i64 (nth zs m)) := (hbel.cell (p := ⟨b, off + m, none⟩) (Nat.lt_succ_of_lt hb)).trans ((World.cell?_alloc_lt _ _ _ hb).trans hc)
      have hwf : (Lit.int .i64 (nth zs m)).wf = true := by
        rcases HC.out _ (nth_mem hlt) with h | ⟨h1, h2⟩
        · exact wfI (by omega) (by omega)
        · exact wfI (by omega) (by omega)
      by_cases he : nth zs m = -1
      · have he' : (nth zs m != -1) = false := by simpa using he
        have He := Lib.hid he
        have Hd := Lib.hid hd
        have Hmap := Lib.hid hmap
        have Hwf := Lib.hid hwf
        clear he hd hmap hwf
        go_wp2
        go_roundw
        case rel =>
          obtain ⟨D, ho, hs⟩ := Hmap.out
          exact ⟨m + 1, f, by omega, by go_num, ⟨D, ho.mono (Nat.le_succ _), hs⟩, Lib.hid (by rw [HF.out, Hd.out, idxOf, if_pos He.out]), hbel⟩
        case measure => simp [intOf]; omega
      · have he' : (nth zs m != -1) = true := by simpa using he
        obtain ⟨w1, hupd, hmap1, hg1⟩ := hmap.store (t := 52) Tryd.underlying3 Tryd.underlying52 Tryd.underlying5 (by unfold maxLen; omega) hwf (c := m) (wfU8 (by omega) (by omega))
        have hb1 : Below (w.heap.size + 1) (w.alloc (.cells #[.slice (some ⟨b, off, none⟩) zs.length cap] 24)) w1 := hbel.grown hg1 (by simpa using hbel.size) (by intro k hk; cases hk; exact Nat.le_refl _)
        have He := Lib.hid he
        have Hd := Lib.hid hd
        have Hmap := Lib.hid hmap
        have Hwf := Lib.hid hwf
        have Hmap1 := Lib.hid hmap1
        clear he hd hmap hwf hmap1
        go_wp2
        go_roundw
        case rel => exact ⟨m + 1, _, by omega, by go_num, Hmap1.out, Lib.hid (by rw [HF.out, Hd.out, idxOf, if_neg He.out]), hb1⟩
        case measure => simp [intOf]; omega
    · go_wp2
      go_ret
      have e : idxF zs = f := by rw [HF.out, List.drop_of_length_le (by omega)]; rfl
      have em : m = zs.length := by omega
      refine ⟨rfl, ?_, (bBox _ _).trans (hbel.mono (by omega))⟩
      rw [e, ← em]
      exact hmap
end Go.Proofs.YthpiopjpipdgnaaDoor
