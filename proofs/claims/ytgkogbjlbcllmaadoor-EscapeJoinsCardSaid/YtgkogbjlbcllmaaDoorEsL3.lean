/- The law EscapePlaces -/
import Derived.Test.YtgkogbjlbcllmaaDoorEsL1
import Derived.Test.YtgkogbjlbcllmaaDoorEsP2
namespace Go.Proofs.YtgkogbjlbcllmaaDoor
open Go.RowKit Go.Sort

theorem strSliceHi (l : List UInt8) {j : Nat} (h1 : j ≤ l.length) (w : World) : (Instr.slice 9 (.string ⟨l.toArray⟩) none (some (.int .i64 j)) none).run Tryd.prog w = .ok (.string ⟨(l.take j).toArray⟩) w := by
  have h3 : (j : Int) ≤ l.length := by omega
  simp [go_sem, Tryd.underlying9, h3, seg]

set_option maxHeartbeats 1000000 in
set_option maxRecDepth 100000 in
theorem lawPlaces (l : List UInt8) (w : World) (hl : l.length ≤ 9223372036854775807) (hE : Env w) :
    Calls Tryd.prog 8 #[.string ⟨l.toArray⟩] w fun e w' => e = .returned (.bool true) ∧ Below w.heap.size w w' := by
  by_cases h400 : l.length ≤ 400
  · have hg : decide ((400 : Int) < (l.length : Int)) = false := by simp; omega
    have h1 := esParse l w hl
    rcases place l (by omega) with ⟨e1, e2⟩ | ⟨f, hf, hfl, hp⟩
    · obtain ⟨a, er, n, hr⟩ : ∃ a er n, parseE l = (a, er, n) := ⟨_, _, _, rfl⟩
      rw [hr] at e1 e2 h1
      dsimp only at e1 e2
      subst e1 e2
      have H1 := Lib.hid h1
      have HE := Lib.hid hE
      have Hr := Lib.hid hr
      clear h1 hE hr
      go_enter Tryd.func8, Tryd.ntmps8
      go_wp2_with fail
      refine H1.out.mono ?_
      rintro e w1 ⟨A, c, rfl, _, hb1⟩
      dsimp only
      go_wp2_with fail
      refine (alive05 _ (HE.out.keep (bUp hb1 (bBox _ _)))).mono ?_
      rintro e w3 ⟨rfl, hb3⟩
      go_wp2_with fail
      go_ret
      exact ⟨rfl, bUp (bUp hb1 (bBox _ _)) hb3⟩
    · rw [hf] at h1
      have h2 := fun w' => esParse (l.take f) w' (by rw [List.length_take]; omega)
      have hsl := strSliceHi l hfl
      obtain ⟨a, er, n, hr⟩ : ∃ a er n, parseE (l.take f) = (a, er, n) := ⟨_, _, _, rfl⟩
      rw [hr] at h2 hp
      dsimp only at hp
      have hfi : (f : Int) ≤ l.length := by omega
      have hfi' : ¬ (l.length : Int) < f := by omega
      generalize l.take f = p at h2 hsl hr
      rcases hp with hp | hp
      · have q1 := eqFaultSame 0 0
        injection hp with hp1 hp2
        subst hp1 hp2
        have H1 := Lib.hid h1
        have H2 := Lib.hid h2
        have HE := Lib.hid hE
        have Hr := Lib.hid hr
        have Hf := Lib.hid hf
        clear h1 h2 hE hr hf
        go_enter Tryd.func8, Tryd.ntmps8
        go_wp2_with fail
        refine H1.out.mono ?_
        rintro e w1 ⟨A, c, rfl, _, hb1⟩
        dsimp only
        go_wp2_with fail
        refine (H2.out _).mono ?_
        rintro e w2 ⟨B, d, rfl, _, hb2⟩
        dsimp only
        obtain ⟨bc_w2, bf_w2⟩ := bcell hb2
        have z0_w2 : w1.heap.size < w2.heap.size := by have hsz := hb2.size; (try simp only [World.size_alloc] at hsz); omega
        have y0_w2 : w1.heap.size ≤ w2.heap.size := Nat.le_of_lt z0_w2
        have x0_w2 : w1.heap.size ≤ w2.heap.size + 1 := Nat.le_succ_of_le y0_w2
        go_wp2_with fail
        refine (alive05 _ (HE.out.keep (bUp (bUp (bUp hb1 (bBox _ _)) hb2) (bBox _ _)))).mono ?_
        rintro e w3 ⟨rfl, hb3⟩
        go_wp2_with fail
        go_ret
        exact ⟨rfl, bUp (bUp (bUp (bUp hb1 (bBox _ _)) hb2) (bBox _ _)) hb3⟩
      · injection hp with hp1 hp2
        subst hp1 hp2
        have q1 : ∀ w, (binOp .eql 36 (.agg #[.int .i64 3, .int .i64 f]) (.agg #[.int .i64 0, .int .i64 0])).run Tryd.prog w = .ok (.bool false) w := fun w => by rw [eqFault]; rfl
        have q2 := eqFaultSame 3 f
        have H1 := Lib.hid h1
        have H2 := Lib.hid h2
        have HE := Lib.hid hE
        have Hr := Lib.hid hr
        have Hf := Lib.hid hf
        clear h1 h2 hE hr hf
        go_enter Tryd.func8, Tryd.ntmps8
        go_wp2_with fail
        refine H1.out.mono ?_
        rintro e w1 ⟨A, c, rfl, _, hb1⟩
        dsimp only
        go_wp2_with fail
        refine (H2.out _).mono ?_
        rintro e w2 ⟨B, d, rfl, _, hb2⟩
        dsimp only
        obtain ⟨bc_w2, bf_w2⟩ := bcell hb2
        have z0_w2 : w1.heap.size < w2.heap.size := by have hsz := hb2.size; (try simp only [World.size_alloc] at hsz); omega
        have y0_w2 : w1.heap.size ≤ w2.heap.size := Nat.le_of_lt z0_w2
        have x0_w2 : w1.heap.size ≤ w2.heap.size + 1 := Nat.le_succ_of_le y0_w2
        go_wp2_with fail
        refine (alive05 _ (HE.out.keep (bUp (bUp (bUp hb1 (bBox _ _)) hb2) (bBox _ _)))).mono ?_
        rintro e w3 ⟨rfl, hb3⟩
        go_wp2_with fail
        go_ret
        exact ⟨rfl, bUp (bUp (bUp (bUp hb1 (bBox _ _)) hb2) (bBox _ _)) hb3⟩
  · have hg : decide ((400 : Int) < (l.length : Int)) = true := by simp; omega
    have HE := Lib.hid hE
    clear hE
    go_enter Tryd.func8, Tryd.ntmps8
    go_wp2_with fail
    refine (alive05 _ HE.out).mono ?_
    rintro e w3 ⟨rfl, hb3⟩
    go_wp2_with fail
    go_ret
    exact ⟨rfl, hb3⟩
end Go.Proofs.YtgkogbjlbcllmaaDoor
