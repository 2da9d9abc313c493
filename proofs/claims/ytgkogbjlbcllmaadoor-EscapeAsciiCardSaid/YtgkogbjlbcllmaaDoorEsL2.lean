/- The law EscapeAscii -/
import Derived.Test.YtgkogbjlbcllmaaDoorEsL1
import Derived.Test.YtgkogbjlbcllmaaDoorEsP1
namespace Go.Proofs.YtgkogbjlbcllmaaDoor
open Go.RowKit Go.Sort

set_option maxHeartbeats 1000000 in
set_option maxRecDepth 100000 in
theorem lawAscii (zs : List Int) (A : Option Addr) (cap : Nat) (w : World) (hA : IntsAt w A zs) (hl : zs.length ≤ 9223372036854775807) (hT : WfInts zs) (hE : Env w) :
    Calls Tryd.prog 5 #[.slice A zs.length cap] w fun e w' => e = .returned (.bool true) ∧ Below w.heap.size w w' := by
  by_cases h40 : zs.length ≤ 40
  · have hg : decide ((40 : Int) < (zs.length : Int)) = false := by simp; omega
    have h1 := esText zs A cap w hA hT (by omega) hE.dig
    cases hv : allValid zs
    · rw [show textEV zs = strErr [] 1 by rw [textEV, hv]; rfl] at h1
      have H1 := Lib.hid h1
      have HA := Lib.hid hA
      have HT := Lib.hid hT
      have HE := Lib.hid hE
      have Hv := Lib.hid hv
      clear h1 hA hT hE hv
      go_enter Tryd.func5, Tryd.ntmps5
      go_wp2_with fail
      refine H1.out.mono ?_
      rintro e w1 ⟨rfl, hb1⟩
      unfold strErr
      go_wp2_with fail
      refine (alive05 _ (HE.out.keep hb1)).mono ?_
      rintro e w3 ⟨rfl, hb3⟩
      go_wp2_with fail
      go_ret
      exact ⟨rfl, bUp hb1 hb3⟩
    · rw [show textEV zs = strErr (textE zs) 0 by rw [textEV, hv]; rfl] at h1
      have t1 := textE_two zs
      have t2 := textE_le zs
      have t3 := textE_first zs
      have t4 := textE_last zs
      have t5 := textE_ascii zs
      generalize textE zs = s at h1 t1 t2 t3 t4 t5
      have q1 : ((btN s 0 : Int) != 34) = false := by rw [t3]; rfl
      have q2 : ((btN s (s.length - 1) : Int) != 34) = false := by rw [t4]; rfl
      have i0 : (0 : Int) < s.length := by omega
      have i1 : (0 : Int) ≤ (s.length : Int) - 1 := by omega
      have i2 : (s.length : Int) - 1 < s.length := by omega
      have i3 : ((s.length : Int) - 1).toNat = s.length - 1 := by omega
      have H1 := Lib.hid h1
      have HA := Lib.hid hA
      have HT := Lib.hid hT
      have HE := Lib.hid hE
      have Hv := Lib.hid hv
      have T3 := Lib.hid t3
      have T4 := Lib.hid t4
      have T5 := Lib.hid t5
      have I3 := Lib.hid i3
      clear h1 hA hT hE hv t3 t4 t5 i3
      go_enter Tryd.func5, Tryd.ntmps5
      go_wp2_with fail
      refine H1.out.mono ?_
      rintro e w1 ⟨rfl, hb1⟩
      unfold strErr
      go_wp2_with fail
      go_loop [5] (fun i => ∃ k : Nat, k ≤ s.length ∧ i = .int .i64 k) (fun i => s.length - (intOf i).toNat)
      case atStart => exact ⟨0, Nat.zero_le _, rfl⟩
      case round =>
        obtain ⟨k, hk, rfl⟩ := hrel
        by_cases hlt : k < s.length
        · have hki : (k : Int) < s.length := by omega
          have hb : 32 ≤ btN s k ∧ btN s k ≤ 126 := by rw [btN_get hlt]; exact T5.out _ (List.getElem_mem hlt)
          obtain ⟨hb1', hb2'⟩ := hb
          go_wp2_with fail
          go_round
          case rel => exact ⟨k + 1, by omega, by go_num⟩
          case measure => simp [intOf]; omega
        · go_wp2_with fail
          refine (alive05 _ (HE.out.keep hb1)).mono ?_
          rintro e w3 ⟨rfl, hb3⟩
          go_wp2_with fail
          go_ret
          exact ⟨rfl, bUp hb1 hb3⟩
  · have hg : decide ((40 : Int) < (zs.length : Int)) = true := by simp; omega
    have HA := Lib.hid hA
    have HT := Lib.hid hT
    have HE := Lib.hid hE
    clear hA hT hE
    go_enter Tryd.func5, Tryd.ntmps5
    go_wp2_with fail
    refine (alive05 _ HE.out).mono ?_
    rintro e w3 ⟨rfl, hb3⟩
    go_wp2_with fail
    go_ret
    exact ⟨rfl, hb3⟩
end Go.Proofs.YtgkogbjlbcllmaaDoor
