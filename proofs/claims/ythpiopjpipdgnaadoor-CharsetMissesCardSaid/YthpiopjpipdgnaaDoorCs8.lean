/- The chapter's example: alive -/
import Derived.Test.YthpiopjpipdgnaaDoorCs7
import Derived.Test.YthpiopjpipdgnaaDoorCs5
namespace Go.Proofs.YthpiopjpipdgnaaDoor
open Go.RowKit Go.Sort

def exText : List UInt8 := [52, 49, 32, 48, 48, 52, 49, 10, 10, 51, 70, 32, 48, 48, 51, 70]
def exCodes : List Int := ((List.replicate 256 (-1)).set 65 65).set 63 63
theorem exParse : parseC exText = (some exCodes, 0, 0) := by decide +kernel
theorem exLen : exCodes.length = 256 := by decide +kernel
theorem exCheck : checkC exCodes = 0 := by decide +kernel
theorem exEncode : encV exCodes [233, 65] 2 (idxF exCodes) = strFault [63, 65] 0 0 := by kernel_rfl
theorem exWf : WfInts [233, 65] := by intro z hz; simp at hz; omega

theorem exEnc (A B : Option Addr) (cap cap2 : Nat) (w : World) (hA : IntsAt w A exCodes) (hB : IntsAt w B [233, 65]) (hD : Dig w) :
    Calls Tryd.prog 15 #[.agg #[.slice A 256 cap], .slice B 2 cap2, .int .i64 2] w fun e w' => e = .returned (strFault [63, 65] 0 0) ∧ Below w.heap.size w w' := by
  have h := csEncode exCodes [233, 65] A B cap cap2 2 w hA (by rw [exLen]; omega) hB (by simp) exWf hD
  rw [exLen, exEncode] at h
  exact h
theorem exChk (A : Option Addr) (cap : Nat) (w : World) (hA : IntsAt w A exCodes) :
    Calls Tryd.prog 12 #[.agg #[.slice A 256 cap]] w fun e w' => e = .returned (.int .i64 0) ∧ Below w.heap.size w w' := by
  have h := csCheck exCodes A cap w hA (by rw [exLen]; omega)
  rw [exLen, exCheck] at h
  exact h

theorem eqFault0 (w : World) : (binOp .eql 30 (.agg #[.int .i64 0, .int .i64 0]) (.agg #[.int .i64 0, .int .i64 0])).run Tryd.prog w = .ok (.bool true) w := by kernel_rfl

set_option maxHeartbeats 1000000 in
set_option maxRecDepth 100000 in
theorem alive06 (w : World) (hE : Env w) :
    Calls Tryd.prog 14 #[] w fun e w' => e = .returned (.bool true) ∧ Below w.heap.size w w' := by
  have HP := Lib.hid (csParse exText w hE (by decide))
  have HE := Lib.hid hE
  clear hE
  go_enter Tryd.func14, Tryd.ntmps14
  go_wp2_with fail
  refine HP.out.mono ?_
  rintro e w1 ⟨A, c, he, hA, hb1⟩
  rw [exParse] at he hA
  have hl : ((some exCodes, (0 : Int), (0 : Int)) : POut).1.getD [] = exCodes := rfl
  rw [hl] at hA he
  rw [exLen] at he
  subst he
  have HA := Lib.hid hA
  clear hA
  clear HP hl
  go_wp2_with fail
  have hb2 : Below w1.heap.size w1 (((w1.alloc (.cells #[.slice A 256 c] 24)).alloc (.cells #[.int .i64 0, .int .i64 0] 30)).alloc (.cells #[.int .i64 233, .int .i64 65] 3)) := bUp (bUp (bBox _ _) (bBox _ _)) (bBox _ _)
  refine (exEnc A _ c 2 _ (HA.out.keep hb2) ?_ ((HE.out.keep (bUp hb1 hb2)).dig)).mono ?_
  · intro _
    refine ⟨w1.heap.size + 1 + 1, 0, rfl, by simp, fun j hj => ?_⟩
    have hbk := Blk.new ((w1.alloc (.cells #[.slice A 256 c] 24)).alloc (.cells #[.int .i64 0, .int .i64 0] 30)) #[.int .i64 233, .int .i64 65] 3
    simp only [World.size_alloc] at hbk
    rw [hbk.cell]
    obtain rfl | rfl : j = 0 ∨ j = 1 := by simp at hj; omega
    · rfl
    · rfl
  rintro e w2 ⟨rfl, hb3⟩
  have B0 : Blk w2 w1.heap.size #[.slice A 256 c] 24 := (((Blk.new w1 _ _).alloc _).alloc _).keep hb3
  have B1 : Blk w2 (w1.heap.size + 1) #[.int .i64 0, .int .i64 0] 30 := by
    have := ((Blk.new (w1.alloc (.cells #[.slice A 256 c] 24)) #[.int .i64 0, .int .i64 0] 30).alloc (.cells #[.int .i64 233, .int .i64 65] 3)).keep hb3
    simpa using this
  have a0 := B0.cell 0
  have a1 := B1.cell 0
  have a2 := B1.cell 1
  have hsz := B1.lt
  have hsz0 := B0.lt
  have hbw : Below w.heap.size w w2 := bUp (bUp hb1 hb2) hb3
  have HA2 := Lib.hid (HA.out.keep (bUp hb2 hb3))
  have heq := eqFault0
  clear B0 B1 hb2 hb3
  unfold strFault
  go_wp2_with fail
  refine (exChk A c _ (HA2.out.keep (bBox _ _))).mono ?_
  rintro e w3 ⟨rfl, hb4⟩
  have B2 : Blk w3 w2.heap.size #[.int .i64 0, .int .i64 0] 30 := (Blk.new w2 _ _).keep hb4
  have a3 := B2.cell 0
  have a4 := B2.cell 1
  have hbw' : Below w.heap.size w w3 := bUp (bUp hbw (bBox _ _)) hb4
  clear B2 hb4
  go_wp2_with fail
  go_ret
  exact ⟨rfl, hbw'⟩
end Go.Proofs.YthpiopjpipdgnaaDoor
