/- The law CharsetParses: its walk -/
import Derived.Test.YthpiopjpipdgnaaDoorCsL2
import Derived.Test.YthpiopjpipdgnaaDoorCs14
import Derived.Test.YthpiopjpipdgnaaDoorEq
namespace Go.Proofs.YthpiopjpipdgnaaDoor
open Go.RowKit Go.Sort

theorem parseFrom_len : ∀ (ps : List (List UInt8)) (i : Nat) (cs : List Int), ((parseFrom ps i cs).1.getD []).length ≤ cs.length
  | [], _, _ => Nat.le_refl _
  | p :: ps, i, cs => by
    unfold parseFrom
    split
    · exact parseFrom_len ps (i + 1) cs
    · split
      · simp
      · split
        · simp
        · exact Nat.le_trans (parseFrom_len ps (i + 1) _) (by simp)
theorem parseC_len (l : List UInt8) : ((parseC l).1.getD []).length ≤ 256 := by
  unfold parseC
  split
  · simp
  · exact Nat.le_trans (parseFrom_len _ _ _) (by rw [List.length_replicate]; exact Nat.le_refl _)

set_option maxHeartbeats 1000000 in
set_option maxRecDepth 100000 in
theorem lawParses (l : List UInt8) (w : World) (hl : l.length ≤ 9223372036854775807) (hE : Env w) :
    Calls Tryd.prog 5 #[.string ⟨l.toArray⟩] w fun e w' => e = .returned (.bool true) ∧ Below w.heap.size w w' := by
  by_cases h1 : 3000 < l.length ∧ l.length ≤ 65536
  · have q1 : decide ((3000 : Int) < l.length) = true := by simp; omega
    have q2 : decide ((l.length : Int) ≤ 65536) = true := by simp; omega
    have HE := Lib.hid hE
    clear hE
    clear h1
    go_enter Tryd.func5, Tryd.ntmps5
    go_wp2_with fail
    refine (alive06 _ HE.out).mono ?_
    rintro e w4 ⟨rfl, hb4⟩
    go_wp2_with fail
    go_ret
    exact ⟨rfl, hb4⟩
  · have hp1 := csParse l w hE hl
    have hp2 := fun w' => rf6Parse l w' hl
    have hlen := parseC_len l
    generalize parseC l = r at hp1 hp2 hlen
    obtain ⟨o, er, n⟩ := r
    have heq := eqFaultSame er n
    obtain ⟨cs, hcs⟩ : ∃ cs, o.getD [] = cs := ⟨_, rfl⟩
    rw [hcs] at hlen
    have Hp1 := Lib.hid hp1
    have Hp2 := Lib.hid hp2
    have HE := Lib.hid hE
    have Hcs := Lib.hid hcs
    clear hp1 hp2 hE hcs
    by_cases h3 : 3000 < l.length
    · have q1 : decide ((3000 : Int) < l.length) = true := by simp; omega
      have q2 : decide ((l.length : Int) ≤ 65536) = false := by simp; omega
      clear h1
      go_enter Tryd.func5, Tryd.ntmps5
      go_wp2_with fail
      refine Hp1.out.mono ?_
      rintro e w1 ⟨A, c, rfl, hA, hb1⟩
      dsimp only at hA ⊢
      rw [Hcs.out] at hA ⊢
      have HA := Lib.hid hA
      clear hA
      go_wp2_with fail
      refine (Hp2.out _).mono ?_
      rintro e w2 ⟨B, c2, rfl, hB, hb2⟩
      dsimp only at hB ⊢
      rw [Hcs.out] at hB ⊢
      have HB := Lib.hid hB
      clear hB
      have b0 := ((Blk.new w1 #[.slice A cs.length c] 24).alloc (.cells #[.int .i64 er, .int .i64 n] 30)).keep hb2
      have b1 : Blk w2 (w1.heap.size + 1) #[.int .i64 er, .int .i64 n] 30 := by
        have := (Blk.new (w1.alloc (.cells #[.slice A cs.length c] 24)) #[.int .i64 er, .int .i64 n] 30).keep hb2
        simpa using this
      have z0 := b0.lt
      have z1 := b1.lt
      have a0 := b0.cell 0
      have hbw : Below w.heap.size w w2 := bUp (bUp (bUp hb1 (bBox _ _)) (bBox _ _)) hb2
      have HA2 := Lib.hid (HA.out.keep (bUp (bUp (bBox _ _) (bBox _ _)) hb2))
      have Hb1 := Lib.hid b1
      clear b0 b1
      go_wp2_with fail
      refine (rfEqual cs cs A B c c2 _ (HA2.out.keep (bUp (bBox _ _) (bBox _ _))) (HB.out.keep (bUp (bBox _ _) (bBox _ _))) (by omega) (by omega)).mono ?_
      rintro e w3 ⟨rfl, hb3⟩
      have a1 := ((Hb1.out.alloc (.cells #[.slice B cs.length c2] 24)).alloc (.cells #[.int .i64 er, .int .i64 n] 30)).keep hb3
      have a2 : Blk w3 (w2.heap.size + 1) #[.int .i64 er, .int .i64 n] 30 := by
        have := (Blk.new (w2.alloc (.cells #[.slice B cs.length c2] 24)) #[.int .i64 er, .int .i64 n] 30).keep hb3
        simpa using this
      have d0 := a1.cell 0
      have d1 := a1.cell 1
      have d2 := a2.cell 0
      have d3 := a2.cell 1
      have hbw3 : Below w.heap.size w w3 := bUp (bUp (bUp hbw (bBox _ _)) (bBox _ _)) hb3
      have hdd : decide (cs = cs) = true := by simp
      rw [hdd]
      clear a1 a2 hdd a0
      go_wp2_with fail
      refine (alive06 _ (HE.out.keep hbw3)).mono ?_
      rintro e w4 ⟨rfl, hb4⟩
      go_wp2_with fail
      go_ret
      exact ⟨rfl, bUp hbw3 hb4⟩
    · have q1 : decide ((3000 : Int) < l.length) = false := by simp; omega
      clear h1
      go_enter Tryd.func5, Tryd.ntmps5
      go_wp2_with fail
      refine Hp1.out.mono ?_
      rintro e w1 ⟨A, c, rfl, hA, hb1⟩
      dsimp only at hA ⊢
      rw [Hcs.out] at hA ⊢
      have HA := Lib.hid hA
      clear hA
      go_wp2_with fail
      refine (Hp2.out _).mono ?_
      rintro e w2 ⟨B, c2, rfl, hB, hb2⟩
      dsimp only at hB ⊢
      rw [Hcs.out] at hB ⊢
      have HB := Lib.hid hB
      clear hB
      have b0 := ((Blk.new w1 #[.slice A cs.length c] 24).alloc (.cells #[.int .i64 er, .int .i64 n] 30)).keep hb2
      have b1 : Blk w2 (w1.heap.size + 1) #[.int .i64 er, .int .i64 n] 30 := by
        have := (Blk.new (w1.alloc (.cells #[.slice A cs.length c] 24)) #[.int .i64 er, .int .i64 n] 30).keep hb2
        simpa using this
      have z0 := b0.lt
      have z1 := b1.lt
      have a0 := b0.cell 0
      have hbw : Below w.heap.size w w2 := bUp (bUp (bUp hb1 (bBox _ _)) (bBox _ _)) hb2
      have HA2 := Lib.hid (HA.out.keep (bUp (bUp (bBox _ _) (bBox _ _)) hb2))
      have Hb1 := Lib.hid b1
      clear b0 b1
      go_wp2_with fail
      refine (rfEqual cs cs A B c c2 _ (HA2.out.keep (bUp (bBox _ _) (bBox _ _))) (HB.out.keep (bUp (bBox _ _) (bBox _ _))) (by omega) (by omega)).mono ?_
      rintro e w3 ⟨rfl, hb3⟩
      have a1 := ((Hb1.out.alloc (.cells #[.slice B cs.length c2] 24)).alloc (.cells #[.int .i64 er, .int .i64 n] 30)).keep hb3
      have a2 : Blk w3 (w2.heap.size + 1) #[.int .i64 er, .int .i64 n] 30 := by
        have := (Blk.new (w2.alloc (.cells #[.slice B cs.length c2] 24)) #[.int .i64 er, .int .i64 n] 30).keep hb3
        simpa using this
      have d0 := a1.cell 0
      have d1 := a1.cell 1
      have d2 := a2.cell 0
      have d3 := a2.cell 1
      have hbw3 : Below w.heap.size w w3 := bUp (bUp (bUp hbw (bBox _ _)) (bBox _ _)) hb3
      have hdd : decide (cs = cs) = true := by simp
      rw [hdd]
      clear a1 a2 hdd a0
      go_wp2_with fail
      refine (alive06 _ (HE.out.keep hbw3)).mono ?_
      rintro e w4 ⟨rfl, hb4⟩
      go_wp2_with fail
      go_ret
      exact ⟨rfl, bUp hbw3 hb4⟩
end Go.Proofs.YthpiopjpipdgnaaDoor
