/- The law CharsetDecodes: its walk -/
import Derived.Test.YthpiopjpipdgnaaDoorCs19
namespace Go.Proofs.YthpiopjpipdgnaaDoor
open Go.RowKit Go.Sort

theorem bcell {W w1 : World} (hb : Below W.heap.size W w1) : (∀ b o, b < W.heap.size → w1.cell? ⟨b, o, none⟩ = W.cell? ⟨b, o, none⟩) ∧ (∀ b o, b < W.heap.size → w1.frozen? ⟨b, o, none⟩ = W.frozen? ⟨b, o, none⟩) :=
  ⟨fun b o h => hb.cell (p := ⟨b, o, none⟩) h, fun b o h => hb.frozen (p := ⟨b, o, none⟩) h⟩
theorem rfSame (xs : List Int) (A B : Option Addr) (c1 c2 : Nat) (w : World) (hA : IntsAt w A xs) (hB : IntsAt w B xs) (hx : xs.length ≤ 1000000000) :
    Calls Tryd.prog 19 #[.slice A xs.length c1, .slice B xs.length c2] w fun e w' => e = .returned (.bool true) ∧ Below w.heap.size w w' :=
  (rfEqual xs xs A B c1 c2 w hA hB hx hx).mono fun _ _ ⟨he, hb⟩ => ⟨by rw [he]; simp, hb⟩
theorem decFrom_len (zs : List Int) (pol : Int) : ∀ (l : List UInt8) (i : Nat) (acc : List Int), (decFrom zs pol l i acc).1.length ≤ acc.length + 4 * l.length
  | [], _, acc => by simp [decFrom]
  | b :: r, i, acc => by
    unfold decFrom
    split
    · have := decFrom_len zs pol r (i + 1) (acc ++ [nth zs b.toNat]); simp at this ⊢; omega
    · split
      · simp
      · have h1 := decFrom_len zs pol r (i + 1) (acc ++ missD pol b); have h2 := missD_le pol b; simp at h1 ⊢; omega
theorem decR_len (zs : List Int) (l : List UInt8) (pol : Int) : (decR zs l pol).1.length ≤ 4 * l.length := by
  unfold decR
  split
  · simp
  · split
    · simp
    · have := decFrom_len zs pol l 0 []; simpa using this

set_option maxHeartbeats 1000000 in
set_option maxRecDepth 100000 in
theorem lawDecodes (zs : List Int) (A : Option Addr) (cap : Nat) (l : List UInt8) (pol : Int) (w : World) (hA : IntsAt w A zs) (hl : zs.length ≤ 9223372036854775807) (hl2 : l.length ≤ 9223372036854775807) (hE : Env w) :
    Calls Tryd.prog 8 #[.agg #[.slice A zs.length cap], .string ⟨l.toArray⟩, .int .i64 pol] w fun e w' => e = .returned (.bool true) ∧ Below w.heap.size w w' := by
  by_cases h : zs.length ≤ 300
  · have hf : fewB zs = true := by simp [fewB, h]
    by_cases h40 : l.length ≤ 60
    · have hg : decide ((60 : Int) < (l.length : Int)) = false := by simp; omega
      have h1 := fun w' (hb : Below w.heap.size w w') => csDecode zs A cap l pol w' (hA.keep hb) h (by omega) (hE.keep hb).dig
      have h2 := fun w' (hb : Below w.heap.size w w') => rfDecode zs A cap l pol w' (hA.keep hb) h (by omega)
      have hlen := decR_len zs l pol
      generalize decR zs l pol = r at h1 h2 hlen
      obtain ⟨cs, er, n⟩ := r
      dsimp only at hlen
      have heq := eqFaultSame er n
      have H1 := Lib.hid h1
      have H2 := Lib.hid h2
      have HA := Lib.hid hA
      have HE := Lib.hid hE
      have Hf := Lib.hid hf
      clear h1 h2 hA hE hf
      go_enter Tryd.func8, Tryd.ntmps8
      go_wp2_with fail
      refine (csFew zs A cap _ hl).mono ?_
      rintro e w1 ⟨rfl, hb1⟩
      rw [Hf.out]
      obtain ⟨bc1, bf1⟩ := bcell hb1
      have hbw1 : Below w.heap.size w w1 := bUp (bBox _ _) hb1
      have hz1 : w.heap.size < w1.heap.size := by have := hb1.size; simp only [World.size_alloc] at this; omega
      go_wp2_with fail
      refine (H1.out _ hbw1).mono ?_
      rintro e w2 ⟨B, c, rfl, hB, hb2⟩
      dsimp only at hB ⊢
      have HB := Lib.hid hB
      clear hB
      obtain ⟨bc2, bf2⟩ := bcell hb2
      have hz2 : w.heap.size < w2.heap.size := by have := hb2.size; omega
      have hy2 : w.heap.size ≤ w2.heap.size := by omega
      go_wp2_with fail
      refine (H2.out _ (bUp (bUp hbw1 hb2) (bBox _ _))).mono ?_
      rintro e w3 ⟨C, c2, rfl, hC, hb3⟩
      dsimp only at hC ⊢
      have HC := Lib.hid hC
      clear hC
      obtain ⟨bc3, bf3⟩ := bcell hb3
      have hz3 : w2.heap.size < w3.heap.size := by have := hb3.size; simp only [World.size_alloc] at this; omega
      have hy3 : w2.heap.size ≤ w3.heap.size := by omega
      have hbw3 : Below w.heap.size w w3 := bUp (bUp (bUp hbw1 hb2) (bBox _ _)) hb3
      go_wp2_with fail
      refine (rfSame cs B C c c2 _ (HB.out.keep (bUp (bUp (bBox _ _) hb3) (bBox _ _))) (HC.out.keep (bBox _ _)) (by omega)).mono ?_
      rintro e w4 ⟨rfl, hb4⟩
      obtain ⟨bc4, bf4⟩ := bcell hb4
      have hbw4 : Below w.heap.size w w4 := bUp (bUp hbw3 (bBox _ _)) hb4
      go_wp2_with fail
      refine (alive06 _ (HE.out.keep hbw4)).mono ?_
      rintro e w5 ⟨rfl, hb5⟩
      go_wp2_with fail
      go_ret
      exact ⟨rfl, bUp hbw4 hb5⟩
    · have hg : decide ((60 : Int) < (l.length : Int)) = true := by simp; omega
      have HA := Lib.hid hA
      have HE := Lib.hid hE
      have Hf := Lib.hid hf
      clear hA hE hf
      go_enter Tryd.func8, Tryd.ntmps8
      go_wp2_with fail
      refine (csFew zs A cap _ hl).mono ?_
      rintro e w1 ⟨rfl, hb1⟩
      rw [Hf.out]
      have hbw1 : Below w.heap.size w w1 := bUp (bBox _ _) hb1
      go_wp2_with fail
      refine (alive06 _ (HE.out.keep hbw1)).mono ?_
      rintro e w4 ⟨rfl, hb4⟩
      go_wp2_with fail
      go_ret
      exact ⟨rfl, bUp hbw1 hb4⟩
  · have hf : fewB zs = false := by simp [fewB, h]
    have HA := Lib.hid hA
    have HE := Lib.hid hE
    have Hf := Lib.hid hf
    clear hA hE hf
    go_enter Tryd.func8, Tryd.ntmps8
    go_wp2_with fail
    refine (csFew zs A cap _ hl).mono ?_
    rintro e w1 ⟨rfl, hb1⟩
    rw [Hf.out]
    have hbw1 : Below w.heap.size w w1 := bUp (bBox _ _) hb1
    go_wp2_with fail
    refine (alive06 _ (HE.out.keep hbw1)).mono ?_
    rintro e w4 ⟨rfl, hb4⟩
    go_wp2_with fail
    go_ret
    exact ⟨rfl, bUp hbw1 hb4⟩
end Go.Proofs.YthpiopjpipdgnaaDoor
