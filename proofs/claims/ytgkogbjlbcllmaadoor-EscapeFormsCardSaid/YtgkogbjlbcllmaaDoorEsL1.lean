/- The laws of chapter 5: alive; EscapeTexts -/
import Derived.Test.YtgkogbjlbcllmaaDoorEs4
import Derived.Test.YtgkogbjlbcllmaaDoorEs7
import Derived.Test.YtgkogbjlbcllmaaDoorEs8
import Derived.Test.YtgkogbjlbcllmaaDoorEq
import Derived.Test.YtgkogbjlbcllmaaDoorEqF
namespace Go.Proofs.YtgkogbjlbcllmaaDoor
open Go.RowKit Go.Sort

theorem rfSame (xs : List Int) (A B : Option Addr) (c1 c2 : Nat) (w : World) (hA : IntsAt w A xs) (hB : IntsAt w B xs) (hx : xs.length ≤ 1000000000) :
    Calls Tryd.prog 17 #[.slice A xs.length c1, .slice B xs.length c2] w fun e w' => e = .returned (.bool true) ∧ Below w.heap.size w w' :=
  (rfEqual xs xs A B c1 c2 w hA hB hx hx).mono fun _ _ ⟨he, hb⟩ => ⟨by rw [he]; simp, hb⟩
theorem exText5 : textEV [65, 34, 769] = strErr [34, 65, 92, 34, 92, 117, 123, 51, 48, 49, 125, 34] 0 := by
  have h : textE [65, 34, 769] = [34, 65, 92, 34, 92, 117, 123, 51, 48, 49, 125, 34] := by decide +kernel
  have h2 : allValid [65, 34, 769] = true := by decide
  rw [textEV, h2, if_pos rfl, h]
theorem exP1 : parseE [34, 97] = ([], 3, 2) := by decide +kernel
theorem exP2 : parseE [34, 92, 110, 34] = ([], 3, 1) := by decide +kernel
theorem exP3 : parseCodesR [48, 48, 52, 49, 32, 48, 51, 48, 65] = ([65, 778], 0) := by decide +kernel

theorem exParse {l : List UInt8} {er n : Int} (w : World) (h : parseE l = ([], er, n)) (hl : l.length ≤ 1000) :
    Calls Tryd.prog 19 #[.string ⟨l.toArray⟩] w fun e w' => (∃ A c, e = .returned (.tuple #[.slice A 0 c, .agg #[.int .i64 er, .int .i64 n]])) ∧ Below w.heap.size w w' :=
  (esParse l w (by omega)).mono fun e w' ho => by
    rw [h] at ho
    obtain ⟨A, c, he, _, hb⟩ := ho
    exact ⟨⟨A, c, he⟩, hb⟩

set_option maxHeartbeats 1000000 in
set_option maxRecDepth 100000 in
theorem alive05 (w : World) (hE : Env w) :
    Calls Tryd.prog 12 #[] w fun e w' => e = .returned (.bool true) ∧ Below w.heap.size w w' := by
  have h1 := esText [65, 34, 769] (some ⟨w.heap.size, 0, none⟩) 3 (w.alloc (.cells (intVals [65, 34, 769]).toArray 3)) (ints_new _ _ _) (fun z hz => by simp at hz; omega) (by simp) (hE.keep (bBox _ _)).dig
  rw [exText5] at h1
  have h2 := fun w' => exParse (l := [34, 97]) w' exP1 (by simp)
  have h3 := fun w' => exParse (l := [34, 92, 110, 34]) w' exP2 (by simp)
  have h4 := fun w' (hb : Below w.heap.size w w') => esParseCodes [48, 48, 52, 49, 32, 48, 51, 48, 65] w' (hE.keep hb) (by simp)
  rw [exP3] at h4
  have q1 := eqFaultSame 3 2
  have q2 := eqFaultSame 3 1
  have H1 := Lib.hid h1
  have H2 := Lib.hid h2
  have H3 := Lib.hid h3
  have H4 := Lib.hid h4
  have HE := Lib.hid hE
  clear h1 h2 h3 h4 hE
  go_enter Tryd.func12, Tryd.ntmps12
  go_wp2_with fail
  refine H1.out.mono ?_
  rintro e w1 ⟨rfl, hb1⟩
  have hw1 : Below w.heap.size w w1 := bUp (bBox _ _) hb1
  unfold strErr
  go_wp2_with fail
  refine (H2.out _).mono ?_
  rintro e w2 ⟨⟨A2, c2, rfl⟩, hb2⟩
  have hw2 : Below w.heap.size w w2 := bUp hw1 hb2
  go_wp2_with fail
  refine (H3.out _).mono ?_
  rintro e w3 ⟨⟨A3, c3, rfl⟩, hb3⟩
  have a0 := (Blk.new w2 #[.int .i64 3, .int .i64 2] 36).keep hb3
  have z3 := a0.lt
  have hw3 : Below w.heap.size w w3 := bUp (bUp hw2 (bBox _ _)) hb3
  have hw3' : Below w.heap.size w (w3.alloc (.cells #[.int .i64 3, .int .i64 1] 36)) := bUp hw3 (bBox _ _)
  have HA0 := Lib.hid (a0.alloc (.cells #[.int .i64 3, .int .i64 1] 36))
  clear a0
  go_wp2_with fail
  refine (H4.out _ hw3').mono ?_
  rintro e w4 ⟨A4, c4, rfl, h4', hb4⟩
  have b0 := HA0.out.keep hb4
  have b1 := (Blk.new w3 #[.int .i64 3, .int .i64 1] 36).keep hb4
  have d0 := b0.cell 0
  have d1 := b0.cell 1
  have d2 := b1.cell 0
  have d3 := b1.cell 1
  have z4 := b0.lt
  have z5 := b1.lt
  have hw4 : Below w.heap.size w w4 := bUp hw3' hb4
  have H4' := Lib.hid h4'
  clear h4'
  clear b0 b1
  go_wp2_with fail
  refine (rfSame [65, 778] A4 (some ⟨w4.heap.size, 0, none⟩) c4 2 _ (H4'.out.keep (bBox w4 (.cells (intVals [65, 778]).toArray 3))) (ints_new w4 [65, 778] 3) (by simp)).mono ?_
  rintro e w5 ⟨rfl, hb5⟩
  go_wp2_with fail
  go_ret
  exact ⟨rfl, bUp (bUp hw4 (bBox _ _)) hb5⟩

set_option maxHeartbeats 1000000 in
set_option maxRecDepth 100000 in
theorem lawTexts5 (zs : List Int) (A : Option Addr) (cap : Nat) (w : World) (hA : IntsAt w A zs) (hl : zs.length ≤ 9223372036854775807) (hT : WfInts zs) (hE : Env w) :
    Calls Tryd.prog 3 #[.slice A zs.length cap] w fun e w' => e = .returned (.bool true) ∧ Below w.heap.size w w' := by
  by_cases h40 : zs.length ≤ 40
  · have hg : decide ((40 : Int) < (zs.length : Int)) = false := by simp; omega
    have h1 := esText zs A cap w hA hT (by omega) hE.dig
    have h2 := fun w' (hb : Below w.heap.size w w') => rfText5 zs A cap w' (hA.keep hb) (by omega)
    obtain ⟨s, er, hs⟩ : ∃ s er, textEV zs = strErr s er := by
      unfold textEV
      split
      · exact ⟨_, _, rfl⟩
      · exact ⟨_, _, rfl⟩
    rw [hs] at h1 h2
    have q1 : (s == s) = true := by simp
    have q2 : (er == er) = true := by simp
    have H1 := Lib.hid h1
    have H2 := Lib.hid h2
    have HA := Lib.hid hA
    have HT := Lib.hid hT
    have HE := Lib.hid hE
    have Hs := Lib.hid hs
    clear h1 h2 hA hT hE hs
    go_enter Tryd.func3, Tryd.ntmps3
    go_wp2_with fail
    refine H1.out.mono ?_
    rintro e w1 ⟨rfl, hb1⟩
    unfold strErr
    go_wp2_with fail
    refine (H2.out _ hb1).mono ?_
    rintro e w2 ⟨rfl, hb2⟩
    unfold strErr
    go_wp2_with fail
    refine (alive05 _ (HE.out.keep (bUp hb1 hb2))).mono ?_
    rintro e w3 ⟨rfl, hb3⟩
    go_wp2_with fail
    go_ret
    exact ⟨rfl, bUp (bUp hb1 hb2) hb3⟩
  · have hg : decide ((40 : Int) < (zs.length : Int)) = true := by simp; omega
    have HA := Lib.hid hA
    have HT := Lib.hid hT
    have HE := Lib.hid hE
    clear hA hT hE
    go_enter Tryd.func3, Tryd.ntmps3
    go_wp2_with fail
    refine (alive05 _ HE.out).mono ?_
    rintro e w3 ⟨rfl, hb3⟩
    go_wp2_with fail
    go_ret
    exact ⟨rfl, hb3⟩
end Go.Proofs.YtgkogbjlbcllmaaDoor
