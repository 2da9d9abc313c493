/- alive -/
import Derived.Test.YtafmdeipcepaiaaDoorLn14
namespace Go.Proofs.YtafmdeipcepaiaaDoor
open Go.RowKit Go.Sort

def aliveT : List UInt8 := [10, 48, 48, 52, 49, 46, 46, 48, 48, 53, 65, 59, 32, 76, 117, 32, 35, 32, 108, 101, 116, 116, 101, 114, 115, 10]
theorem alive_good : goodL (linesOf aliveT) = [⟨2, 65, 90, [[76, 117]], [108, 101, 116, 116, 101, 114, 115]⟩] := by kernel_rfl
theorem alive_bad : badL (linesOf aliveT) = none := by kernel_rfl
theorem anyLu : AnyOk [76, 117] := anyAscii (by decide) (by decide)

set_option maxHeartbeats 8000000 in
set_option maxRecDepth 100000 in
theorem lnAlive (w : World) (hE : Env w) :
    Calls Tryd.prog 10 #[] w fun e w' => e = .returned (.bool true) ∧ Below w.heap.size w w' := by
  have HP := Lib.hid (lnParse aliveT w hE (by decide))
  unfold ParseOut at HP
  rw [alive_bad, alive_good] at HP
  unfold aliveT at HP
  go_enter Tryd.func10, Tryd.ntmps10
  go_wp2_with fail
  refine HP.out.mono ?_
  rintro e w1 ⟨⟨A, cp, rfl, hO⟩, hb1⟩
  obtain ⟨b, off, rfl, hlt, hcs⟩ := hO.lines (by simp)
  obtain ⟨p0, p1, p2, ⟨F, fc, p3, s3⟩, p4⟩ := hcs 0 (by simp)
  simp only [lineAt, Nat.zero_mul, Nat.add_zero] at p0 p1 p2 p3 p4 s3
  clear hO hcs
  go_wp2_with fail
  refine (rfStrings [[76, 117]] F (some ⟨w1.heap.size + 1, 0, none⟩) fc 1 _ (StrsAt.keep s3 (bUp (bBox w1 _) (bBox _ _))) ?_ (by decide)).mono ?_
  · intro _
    refine ⟨w1.heap.size + 1, 0, rfl, by simp, fun j hj => ?_⟩
    obtain rfl : j = 0 := by simp at hj; omega
    rw [show w1.heap.size + 1 = (w1.alloc (.cells #[.int .i64 0, .int .i64 0] 26)).heap.size by simp]
    exact (Blk.new _ _ _).cell 0
  rintro e w2 ⟨rfl, hb2⟩
  have h12 : Below w1.heap.size w1 w2 := bUp (bUp (bBox w1 _) (bBox _ _)) hb2
  have S3 := Lib.hid (StrsAt.keep s3 h12)
  have q0 := (h12.cell (p := ⟨b, off, none⟩) hlt).trans p0
  have q1 := (h12.cell (p := ⟨b, off + 1, none⟩) hlt).trans p1
  have q2 := (h12.cell (p := ⟨b, off + 2, none⟩) hlt).trans p2
  have q3 := (h12.cell (p := ⟨b, off + 3, none⟩) hlt).trans p3
  have q4 := (h12.cell (p := ⟨b, off + 4, none⟩) hlt).trans p4
  clear p0 p1 p2 p3 p4 s3
  go_wp2_with fail
  refine (lnCheck ⟨2, 65, 90, [[76, 117]], [108, 101, 116, 116, 101, 114, 115]⟩ F fc w2 S3.out (by decide) (fun f hf => by simp at hf; subst hf; exact ⟨by decide, anyLu⟩) (by decide)).mono ?_
  rintro e w3 ⟨rfl, hb3⟩
  rw [show chkL ⟨2, 65, 90, [[76, 117]], [108, 101, 116, 116, 101, 114, 115]⟩ = 0 by kernel_rfl]
  go_wp2_with fail
  go_ret
  exact ⟨rfl, bUp (bUp hb1 h12) hb3⟩
end Go.Proofs.YtafmdeipcepaiaaDoor
