/- The law CharsetEncodes: its walk -/
import Derived.Test.YthpiopjpipdgnaaDoorCsL1
import Derived.Test.YthpiopjpipdgnaaDoorCs11
import Derived.Test.YthpiopjpipdgnaaDoorEqF
namespace Go.Proofs.YthpiopjpipdgnaaDoor
open Go.RowKit Go.Sort

theorem encFrom_form (f : Int → Option Int) (pol : Int) : ∀ (t : List Int) (i : Nat) (acc : List UInt8), ∃ l e n, encFrom f pol t i acc = strFault l e n
  | [], _, acc => ⟨acc, 0, 0, rfl⟩
  | x :: r, i, acc => by
    unfold encFrom
    split
    · exact encFrom_form f pol r _ _
    · split
      · exact ⟨_, _, _, rfl⟩
      · exact encFrom_form f pol r _ _
theorem encV_form (zs text : List Int) (pol : Int) (f : Int → Option Int) : ∃ l e n, encV zs text pol f = strFault l e n := by
  unfold encV
  split
  · exact ⟨_, _, _, rfl⟩
  · split
    · exact ⟨_, _, _, rfl⟩
    · exact encFrom_form _ _ _ _ _
theorem encV_same (zs text : List Int) (pol : Int) : encV zs text pol (idxF zs) = encV zs text pol (byteF zs) := by
  by_cases h : checkC zs = 0
  · rw [idxF_eq h]
  · simp [encV, h]

set_option maxHeartbeats 1000000 in
set_option maxRecDepth 100000 in
theorem lawEncodes (zs text : List Int) (A B : Option Addr) (cap cap2 : Nat) (pol : Int) (w : World) (hA : IntsAt w A zs) (hl : zs.length ≤ 9223372036854775807) (hB : IntsAt w B text) (hl2 : text.length ≤ 9223372036854775807) (hT : WfInts text) (hE : Env w) :
    Calls Tryd.prog 4 #[.agg #[.slice A zs.length cap], .slice B text.length cap2, .int .i64 pol] w fun e w' => e = .returned (.bool true) ∧ Below w.heap.size w w' := by
  by_cases h : zs.length ≤ 300
  · have hf : fewB zs = true := by simp [fewB, h]
    by_cases h40 : text.length ≤ 40
    · have hg : decide ((40 : Int) < (text.length : Int)) = false := by simp; omega
      obtain ⟨l, er, n, hv⟩ := encV_form zs text pol (idxF zs)
      have hv2 : encV zs text pol (byteF zs) = strFault l er n := by rw [← encV_same]; exact hv
      have h1 := fun w' (hb : Below w.heap.size w w') => csEncode zs text A B cap cap2 pol w' (hA.keep hb) h (hB.keep hb) (by omega) hT (hE.keep hb).dig
      have h2 := fun w' (hb : Below w.heap.size w w') => rfEncode zs text A B cap cap2 pol w' (hA.keep hb) h (hB.keep hb) (by omega)
      rw [hv] at h1
      rw [hv2] at h2
      have heq := eqFaultSame er n
      have hss : (l == l) = true := by simp
      have H1 := Lib.hid h1
      have H2 := Lib.hid h2
      have HA := Lib.hid hA
      have HB := Lib.hid hB
      have HT := Lib.hid hT
      have HE := Lib.hid hE
      have Hf := Lib.hid hf
      have Hv := Lib.hid hv
      have Hv2 := Lib.hid hv2
      clear h1 h2 hA hB hT hE hf hv hv2
      go_enter Tryd.func4, Tryd.ntmps4
      go_wp2_with fail
      refine (csFew zs A cap _ hl).mono ?_
      rintro e w1 ⟨rfl, hb1⟩
      rw [Hf.out]
      have B0 := (Blk.new w #[.slice A zs.length cap] 24).keep hb1
      have c0 := B0.cell 0
      have hbw1 : Below w.heap.size w w1 := bUp (bBox _ _) hb1
      go_wp2_with fail
      refine (H1.out _ hbw1).mono ?_
      rintro e w2 ⟨rfl, hb2⟩
      unfold strFault
      have c2 := (B0.keep hb2).cell 0
      have hsz := (B0.keep hb2).lt
      go_wp2_with fail
      refine (H2.out _ (bUp (bUp hbw1 hb2) (bBox _ _))).mono ?_
      rintro e w3 ⟨rfl, hb3⟩
      unfold strFault
      have B1 := (Blk.new w2 #[.int .i64 er, .int .i64 n] 30).keep hb3
      have a0 := B1.cell 0
      have a1 := B1.cell 1
      have hsz1 := B1.lt
      have hbw3 : Below w.heap.size w w3 := bUp (bUp (bUp hbw1 hb2) (bBox _ _)) hb3
      clear B0 B1 c0 c2
      go_wp2_with fail
      refine (alive06 _ (HE.out.keep (bUp hbw3 (bBox _ _)))).mono ?_
      rintro e w4 ⟨rfl, hb4⟩
      go_wp2_with fail
      go_ret
      exact ⟨rfl, bUp (bUp hbw3 (bBox _ _)) hb4⟩
    · have hg : decide ((40 : Int) < (text.length : Int)) = true := by simp; omega
      have HA := Lib.hid hA
      have HB := Lib.hid hB
      have HT := Lib.hid hT
      have HE := Lib.hid hE
      have Hf := Lib.hid hf
      clear hA hB hT hE hf
      go_enter Tryd.func4, Tryd.ntmps4
      go_wp2_with fail
      refine (csFew zs A cap _ hl).mono ?_
      rintro e w1 ⟨rfl, hb1⟩
      rw [Hf.out]
      have hbw1 : Below w.heap.size w w1 := bUp (bBox _ _) hb1
      go_wp2_with fail
      refine (alive06 _ (HE.out.keep hbw1)).mono ?_
      rintro e w4 ⟨rfl, hb4⟩
      go_wp2_with fail
      go_ret
      exact ⟨rfl, bUp hbw1 hb4⟩
  · have hf : fewB zs = false := by simp [fewB, h]
    have HA := Lib.hid hA
    have HB := Lib.hid hB
    have HT := Lib.hid hT
    have HE := Lib.hid hE
    have Hf := Lib.hid hf
    clear hA hB hT hE hf
    go_enter Tryd.func4, Tryd.ntmps4
    go_wp2_with fail
    refine (csFew zs A cap _ hl).mono ?_
    rintro e w1 ⟨rfl, hb1⟩
    rw [Hf.out]
    have hbw1 : Below w.heap.size w w1 := bUp (bBox _ _) hb1
    go_wp2_with fail
    refine (alive06 _ (HE.out.keep hbw1)).mono ?_
    rintro e w4 ⟨rfl, hb4⟩
    go_wp2_with fail
    go_ret
    exact ⟨rfl, bUp hbw1 hb4⟩
end Go.Proofs.YthpiopjpipdgnaaDoor
