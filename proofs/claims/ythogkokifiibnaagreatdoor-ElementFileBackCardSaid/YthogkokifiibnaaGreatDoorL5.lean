/- ElementFileBack: the walk -/
import Derived.Test.YthogkokifiibnaaGreatDoorL4
import Derived.Test.YthogkokifiibnaaGreatDoorP8
namespace Go.Proofs.YthogkokifiibnaaGreatDoor
open Go.RowKit Go.Sort

theorem WfC.names {c : CollD} (h : OkC c) : ∀ g ∈ c.groups, g.name.length ≤ 9223372036854775807 := fun g hg => by have := name_short (h.g g hg).2.2; omega
set_option maxHeartbeats 16000000 in
set_option maxRecDepth 100000 in
theorem lawEFileBack (es : List EntryD) (gs : List GroupD) (b s t : Int) (AE AG : Option Addr) (cE cG : Nat) (l : List UInt8) (w : World) (hN : EntsAt w AE es) (hG : GroupsAt w AG gs) (hne : es.length ≤ 9223372036854775807) (hng : gs.length ≤ 9223372036854775807) (hcl : ∀ e ∈ es, e.codes.length ≤ 9223372036854775807) (hll : ∀ e ∈ es, e.els.length ≤ 9223372036854775807) (hml : ∀ g ∈ gs, g.name.length ≤ 9223372036854775807) (hw : WfC ⟨es, gs, b, s, t⟩) (hs : l.length ≤ 9223372036854775807) (hE : EnvF w) :
    Calls Tryz.prog 7 #[.agg #[.slice AE es.length cE, .slice AG gs.length cG, .int .i64 b, .int .i64 s, .int .i64 t], .string ⟨l.toArray⟩] w fun e w' => e = .returned (.bool true) ∧ Below w.heap.size w w' := by
  have hFw := fun w' h1 h2 => rfFew es gs b s t AE AG cE cG w' h1 h2 hne hng hcl hll hml
  cases hf : fewC es gs with
  | false =>
    rw [hf] at hFw
    have HFw := Lib.hid hFw
    have HN := Lib.hid hN
    have HG := Lib.hid hG
    have Hcl := Lib.hid hcl
    have Hll := Lib.hid hll
    have Hml := Lib.hid hml
    have Hw := Lib.hid hw
    have HE := Lib.hid hE
    have Hf := Lib.hid hf
    clear hFw hN hG hcl hll hml hw hE hf
    go_enter Tryz.func7, Tryz.ntmps7
    go_wp2_with fail
    refine (HFw.out _ (HN.out.keep (bBox w _)) (HG.out.keep (bBox w _))).mono ?_
    rintro e w1 ⟨rfl, hb1⟩
    go_wp2_with fail
    refine (elAlive _ (HE.out.keep (bUp (bBox w _) hb1))).mono ?_
    rintro e w2 ⟨rfl, hb2⟩
    go_wp2_with fail
    go_ret
    exact ⟨rfl, bUp (bUp (bBox w _) hb1) hb2⟩
  | true =>
    rw [hf] at hFw
    have hfw := fewC_yes hf
    by_cases h1500 : l.length ≤ 1500
    · have hg : decide ((1500 : Int) < (l.length : Int)) = false := by simp; omega
      have hFT := fun w' h1 h2 h3 => elFileText es gs b s t AE AG cE cG w' h1 h2 h3 (by have := hfw.e; omega) (by have := hfw.g; omega) (fun e he => by have := hfw.c e he; omega) (fun e he => by have := hfw.l e he; omega) hml hw
      have hSa := fun w' E1 G1 e1 g1 h1 h2 h3 h4 => rfSame es gs b s t E1 G1 AE AG e1 g1 cE cG w' h1 h2 h3 h4 (by have := hfw.e; omega) (by have := hfw.g; omega) (fun e he => by have := hfw.c e he; omega) (fun e he => by have := hfw.l e he; omega)
      have HPl := Lib.hid (fun w' hE' => elParseFile l w' hE' hs)
      unfold FileOut at HPl
      have hrd := parse_reads (l := l) (by omega)
      have hsh := fun c => read_short (c := c) (l := l) (by omega)
      generalize parseF l = pl at HPl hrd hsh
      have HRd := Lib.hid hrd
      have HSh := Lib.hid hsh
      clear hrd hsh
      by_cases hc : chkF ⟨es, gs, b, s, t⟩ = 0
      · have hok := chkF_ok hc
        have hshort := file_short hfw hok hw
        have f1 : fileT ⟨es, gs, b, s, t⟩ = (fileP ⟨es, gs, b, s, t⟩, 0) := by unfold fileT; rw [if_pos hc]
        have f3 := file_reads hok hw (by omega)
        rw [f1] at hFT
        dsimp only at hFT
        generalize fileP ⟨es, gs, b, s, t⟩ = fp at hFT f3 hshort
        have HP := Lib.hid (fun w' hE' => elParseFile fp w' hE' (by omega))
        unfold FileOut at HP
        rw [f3] at HP
        dsimp only at HP
        have HFw := Lib.hid hFw
        have HFT := Lib.hid hFT
        have HSa := Lib.hid hSa
        have HN := Lib.hid hN
        have HG := Lib.hid hG
        have Hcl := Lib.hid hcl
        have Hll := Lib.hid hll
        have Hml := Lib.hid hml
        have Hw := Lib.hid hw
        have HE := Lib.hid hE
        have Hf := Lib.hid hf
        have Hfw := Lib.hid hfw
        have Hok := Lib.hid hok
        have Hc := Lib.hid hc
        have F1 := Lib.hid f1
        have F3 := Lib.hid f3
        clear hFw hFT hSa hN hG hcl hll hml hw hE hf hfw hok hc f1 f3
        go_enter Tryz.func7, Tryz.ntmps7
        go_wp2_with fail
        refine (HFw.out _ (HN.out.keep (bBox w _)) (HG.out.keep (bBox w _))).mono ?_
        rintro e w1 ⟨rfl, hb1⟩
        have hB := (Blk.new w #[.slice AE es.length cE, .slice AG gs.length cG, .int .i64 b, .int .i64 s, .int .i64 t] 35).keep hb1
        have h01 := bUp (bBox w (.cells #[.slice AE es.length cE, .slice AG gs.length cG, .int .i64 b, .int .i64 s, .int .i64 t] 35)) hb1
        have HB := Lib.hid hB
        have H01 := Lib.hid h01
        have a0 : w1.cell? ⟨w.heap.size, 0, none⟩ = some (.slice AE es.length cE) := hB.cell 0
        have a1 : w1.cell? ⟨w.heap.size, 1, none⟩ = some (.slice AG gs.length cG) := hB.cell 1
        have a2 : w1.cell? ⟨w.heap.size, 2, none⟩ = some (.int .i64 b) := hB.cell 2
        have a3 : w1.cell? ⟨w.heap.size, 3, none⟩ = some (.int .i64 s) := hB.cell 3
        have a4 : w1.cell? ⟨w.heap.size, 4, none⟩ = some (.int .i64 t) := hB.cell 4
        clear hB h01 hb1
        go_wp2_with fail
        refine (HFT.out _ (HN.out.keep H01.out) (HG.out.keep H01.out) (HE.out.keep H01.out)).mono ?_
        rintro e w2 ⟨rfl, hb2⟩
        have HB2 := Lib.hid (HB.out.keep hb2)
        have H02 := Lib.hid (bUp H01.out hb2)
        clear hb2 a0 a1 a2 a3 a4
        go_wp2_with fail
        refine (HP.out _ (HE.out.keep H02.out)).mono ?_
        rintro e w3 ⟨E3, e3, G3, g3, rfl, hE3, hG3, hb3⟩
        have hB3 := HB2.out.keep hb3
        have H03 := Lib.hid (bUp H02.out hb3)
        have HE3 := Lib.hid hE3
        have HG3 := Lib.hid hG3
        have a0 : w3.cell? ⟨w.heap.size, 0, none⟩ = some (.slice AE es.length cE) := hB3.cell 0
        have a1 : w3.cell? ⟨w.heap.size, 1, none⟩ = some (.slice AG gs.length cG) := hB3.cell 1
        have a2 : w3.cell? ⟨w.heap.size, 2, none⟩ = some (.int .i64 b) := hB3.cell 2
        have a3 : w3.cell? ⟨w.heap.size, 3, none⟩ = some (.int .i64 s) := hB3.cell 3
        have a4 : w3.cell? ⟨w.heap.size, 4, none⟩ = some (.int .i64 t) := hB3.cell 4
        have z1 := hB3.lt
        have y1 := Nat.le_of_lt z1
        have x1 : w.heap.size ≤ w3.heap.size + 1 := by omega
        have u1 : w.heap.size < w3.heap.size + 1 := by omega
        clear hb3 hE3 hG3 hB3
        go_wp2_with fail
        refine (HSa.out _ E3 G3 e3 g3 (HE3.out.keep (bUp (bBox _ _) (bBox _ _))) (HG3.out.keep (bUp (bBox _ _) (bBox _ _))) ((HN.out.keep H03.out).keep (bUp (bBox _ _) (bBox _ _))) ((HG.out.keep H03.out).keep (bUp (bBox _ _) (bBox _ _)))).mono ?_
        rintro e w4 ⟨rfl, hb4⟩
        have H04 := Lib.hid (bUp (bUp H03.out (bUp (bBox _ _) (bBox _ _))) hb4)
        clear hb4 a0 a1 a2 a3 a4 z1 y1 x1 u1
        go_wp2_with fail
        refine (HPl.out _ (HE.out.keep H04.out)).mono ?_
        rintro e w5 ⟨E5, e5, G5, g5, rfl, hE5, hG5, hb5⟩
        have H05 := Lib.hid (bUp H04.out hb5)
        have HE5 := Lib.hid hE5
        have HG5 := Lib.hid hG5
        clear hb5 hE5 hG5
        obtain ⟨pc, pf, pa⟩ := pl
        rcases HRd.out with ⟨r1, r2, r3⟩ | ⟨r1, r2, r3, r4, r5, r6⟩
        · dsimp only at r1 r2 r3
          subst r2
          have q3 : (pf != 0) = true := by simp [r1]
          have q4 : decide ((1 : Int) ≤ pa) = true := by simp [r3]
          have HZ := Lib.hid (fun w' E1 G1 e1 g1 => rfSame [] [] 0 0 0 E1 G1 none none e1 g1 0 0 w' EntsAt.nil GroupsAt.nil EntsAt.nil GroupsAt.nil (by simp) (by simp) (fun e he => by cases he) (fun e he => by cases he))
          have R1 := Lib.hid r1
          have R3 := Lib.hid r3
          clear r1 r3
          clear HPl HRd HSh
          dsimp only [zeroC] at *
          go_wp2_with fail
          refine (HZ.out _ E5 G5 e5 g5).mono ?_
          rintro e w6 ⟨rfl, hb6⟩
          have hw6 := bUp (bUp H05.out (bUp (bBox _ _) (bBox _ _))) hb6
          clear hb6
          go_wp2_with fail
          refine (elAlive _ (HE.out.keep hw6)).mono ?_
          rintro e w7 ⟨rfl, hb7⟩
          go_wp2_with fail
          go_ret
          exact ⟨rfl, bUp hw6 hb7⟩
        · dsimp only at r1 r2 r3 r4 r5 r6
          injection r1 with r1a r1b
          subst r1a r1b
          have hs2 := HSh.out pc rfl
          have hft2 : fileT pc = (fileP pc, 0) := by unfold fileT; rw [if_pos (ok_chkF r2)]
          have hrd2 := file_reads r2 r3 (by omega)
          obtain ⟨es2, gs2, b2, s2, t2⟩ := pc
          dsimp only at r4 r5 r6 HE5 HG5
          have hF2 := fun w' h1 h2 h3 => elFileText es2 gs2 b2 s2 t2 E5 G5 e5 g5 w' h1 h2 h3 (by omega) (by omega) (fun e he => by have := (r6 e he).1; omega) (fun e he => by have := (r6 e he).2; omega) (WfC.names r2) r3
          rw [hft2] at hF2
          dsimp only at hF2
          generalize fileP ⟨es2, gs2, b2, s2, t2⟩ = fp2 at hF2 hrd2 hs2
          have HP2 := Lib.hid (fun w' hE' => elParseFile fp2 w' hE' (by omega))
          unfold FileOut at HP2
          rw [hrd2] at HP2
          dsimp only at HP2
          have HS2 := Lib.hid (fun w' E1 G1 e1 g1 h1 h2 h3 h4 => rfSame es2 gs2 b2 s2 t2 E5 G5 E1 G1 e5 g5 e1 g1 w' h1 h2 h3 h4 (by omega) (by omega) (fun e he => by have := (r6 e he).1; omega) (fun e he => by have := (r6 e he).2; omega))
          have HF2 := Lib.hid hF2
          have R2 := Lib.hid r2
          have R3 := Lib.hid r3
          have R6 := Lib.hid r6
          have Hft2 := Lib.hid hft2
          have Hrd2 := Lib.hid hrd2
          have Hs2 := Lib.hid hs2
          clear r2 r3 r6 hft2 hrd2 hs2
          clear HPl HRd HSh hF2
          go_wp2_with fail
          refine (HF2.out _ (HE5.out.keep (bUp (bBox _ _) (bBox _ _))) (HG5.out.keep (bUp (bBox _ _) (bBox _ _))) (HE.out.keep (bUp H05.out (bUp (bBox _ _) (bBox _ _))))).mono ?_
          rintro e w6 ⟨rfl, hb6⟩
          have h56 := bUp (bUp (bBox w5 (.cells #[.slice E5 es2.length e5, .slice G5 gs2.length g5, .int .i64 b2, .int .i64 s2, .int .i64 t2] 35)) (bBox _ (.cells #[.int .i64 0, .int .i64 0] 39))) hb6
          have hB6 := ((Blk.new w5 #[.slice E5 es2.length e5, .slice G5 gs2.length g5, .int .i64 b2, .int .i64 s2, .int .i64 t2] 35).alloc (.cells #[.int .i64 0, .int .i64 0] 39)).keep hb6
          have HB6 := Lib.hid hB6
          have H06 := Lib.hid (bUp H05.out h56)
          have HE6 := Lib.hid (HE5.out.keep h56)
          have HG6 := Lib.hid (HG5.out.keep h56)
          clear hb6 hB6 h56
          go_wp2_with fail
          refine (HP2.out _ (HE.out.keep H06.out)).mono ?_
          rintro e w7 ⟨E7, e7, G7, g7, rfl, hE7, hG7, hb7⟩
          have hB7 := HB6.out.keep hb7
          have H07 := Lib.hid (bUp H06.out hb7)
          have HE7 := Lib.hid hE7
          have HG7 := Lib.hid hG7
          have HE6b := Lib.hid (HE6.out.keep hb7)
          have HG6b := Lib.hid (HG6.out.keep hb7)
          have a0 : w7.cell? ⟨w5.heap.size, 0, none⟩ = some (.slice E5 es2.length e5) := hB7.cell 0
          have a1 : w7.cell? ⟨w5.heap.size, 1, none⟩ = some (.slice G5 gs2.length g5) := hB7.cell 1
          have a2 : w7.cell? ⟨w5.heap.size, 2, none⟩ = some (.int .i64 b2) := hB7.cell 2
          have a3 : w7.cell? ⟨w5.heap.size, 3, none⟩ = some (.int .i64 s2) := hB7.cell 3
          have a4 : w7.cell? ⟨w5.heap.size, 4, none⟩ = some (.int .i64 t2) := hB7.cell 4
          have z1 := hB7.lt
          have y1 := Nat.le_of_lt z1
          have x1 : w5.heap.size ≤ w7.heap.size + 1 := by omega
          have u1 : w5.heap.size < w7.heap.size + 1 := by omega
          clear hb7 hE7 hG7 hB7
          go_wp2_with fail
          refine (HS2.out _ E7 G7 e7 g7 (HE6b.out.keep (bUp (bBox _ _) (bBox _ _))) (HG6b.out.keep (bUp (bBox _ _) (bBox _ _))) (HE7.out.keep (bUp (bBox _ _) (bBox _ _))) (HG7.out.keep (bUp (bBox _ _) (bBox _ _)))).mono ?_
          rintro e w8 ⟨rfl, hb8⟩
          have hw8 := bUp (bUp H07.out (bUp (bBox _ _) (bBox _ _))) hb8
          clear hb8
          go_wp2_with fail
          refine (elAlive _ (HE.out.keep hw8)).mono ?_
          rintro e w9 ⟨rfl, hb9⟩
          go_wp2_with fail
          go_ret
          exact ⟨rfl, bUp hw8 hb9⟩
      · have f1 : fileT ⟨es, gs, b, s, t⟩ = ([], chkF ⟨es, gs, b, s, t⟩) := by unfold fileT; rw [if_neg hc]
        rw [f1] at hFT
        have q1 : (chkF ⟨es, gs, b, s, t⟩ == 0) = false := by simp [hc]
        dsimp only at hFT
        generalize chkF ⟨es, gs, b, s, t⟩ = ce at hFT q1 f1
        have HP := Lib.hid (fun w' hE' => elParseFile [] w' hE' (by simp))
        unfold FileOut at HP
        rw [show parseF [] = (zeroC, (3, 1)) from rfl] at HP
        dsimp only at HP
        have HFw := Lib.hid hFw
        have HFT := Lib.hid hFT
        have HSa := Lib.hid hSa
        have HN := Lib.hid hN
        have HG := Lib.hid hG
        have Hcl := Lib.hid hcl
        have Hll := Lib.hid hll
        have Hml := Lib.hid hml
        have Hw := Lib.hid hw
        have HE := Lib.hid hE
        have Hf := Lib.hid hf
        have Hfw := Lib.hid hfw
        have F1 := Lib.hid f1
        clear hFw hFT hSa hN hG hcl hll hml hw hE hf hfw f1
        clear hc
        go_enter Tryz.func7, Tryz.ntmps7
        go_wp2_with fail
        refine (HFw.out _ (HN.out.keep (bBox w _)) (HG.out.keep (bBox w _))).mono ?_
        rintro e w1 ⟨rfl, hb1⟩
        have hB := (Blk.new w #[.slice AE es.length cE, .slice AG gs.length cG, .int .i64 b, .int .i64 s, .int .i64 t] 35).keep hb1
        have h01 := bUp (bBox w (.cells #[.slice AE es.length cE, .slice AG gs.length cG, .int .i64 b, .int .i64 s, .int .i64 t] 35)) hb1
        have HB := Lib.hid hB
        have H01 := Lib.hid h01
        have a0 : w1.cell? ⟨w.heap.size, 0, none⟩ = some (.slice AE es.length cE) := hB.cell 0
        have a1 : w1.cell? ⟨w.heap.size, 1, none⟩ = some (.slice AG gs.length cG) := hB.cell 1
        have a2 : w1.cell? ⟨w.heap.size, 2, none⟩ = some (.int .i64 b) := hB.cell 2
        have a3 : w1.cell? ⟨w.heap.size, 3, none⟩ = some (.int .i64 s) := hB.cell 3
        have a4 : w1.cell? ⟨w.heap.size, 4, none⟩ = some (.int .i64 t) := hB.cell 4
        clear hB h01 hb1
        go_wp2_with fail
        refine (HFT.out _ (HN.out.keep H01.out) (HG.out.keep H01.out) (HE.out.keep H01.out)).mono ?_
        rintro e w2 ⟨rfl, hb2⟩
        have HB2 := Lib.hid (HB.out.keep hb2)
        have H02 := Lib.hid (bUp H01.out hb2)
        clear hb2 a0 a1 a2 a3 a4
        go_wp2_with fail
        refine (HP.out _ (HE.out.keep H02.out)).mono ?_
        rintro e w3 ⟨E3, e3, G3, g3, rfl, hE3, hG3, hb3⟩
        have H04 := Lib.hid (bUp (bUp H02.out hb3) (bUp (bBox w3 (.cells #[.slice E3 zeroC.entries.length e3, .slice G3 zeroC.groups.length g3, .int .i64 zeroC.base, .int .i64 zeroC.second, .int .i64 zeroC.third] 35)) (bBox _ (.cells #[.int .i64 3, .int .i64 1] 39))))
        clear hE3 hG3 hb3
        go_wp2_with fail
        refine (HPl.out _ (HE.out.keep H04.out)).mono ?_
        rintro e w5 ⟨E5, e5, G5, g5, rfl, hE5, hG5, hb5⟩
        have H05 := Lib.hid (bUp H04.out hb5)
        have HE5 := Lib.hid hE5
        have HG5 := Lib.hid hG5
        clear hb5 hE5 hG5
        obtain ⟨pc, pf, pa⟩ := pl
        rcases HRd.out with ⟨r1, r2, r3⟩ | ⟨r1, r2, r3, r4, r5, r6⟩
        · dsimp only at r1 r2 r3
          subst r2
          have q3 : (pf != 0) = true := by simp [r1]
          have q4 : decide ((1 : Int) ≤ pa) = true := by simp [r3]
          have HZ := Lib.hid (fun w' E1 G1 e1 g1 => rfSame [] [] 0 0 0 E1 G1 none none e1 g1 0 0 w' EntsAt.nil GroupsAt.nil EntsAt.nil GroupsAt.nil (by simp) (by simp) (fun e he => by cases he) (fun e he => by cases he))
          have R1 := Lib.hid r1
          have R3 := Lib.hid r3
          clear r1 r3
          clear HPl HRd HSh
          dsimp only [zeroC] at *
          go_wp2_with fail
          refine (HZ.out _ E5 G5 e5 g5).mono ?_
          rintro e w6 ⟨rfl, hb6⟩
          have hw6 := bUp (bUp H05.out (bUp (bBox _ _) (bBox _ _))) hb6
          clear hb6
          go_wp2_with fail
          refine (elAlive _ (HE.out.keep hw6)).mono ?_
          rintro e w7 ⟨rfl, hb7⟩
          go_wp2_with fail
          go_ret
          exact ⟨rfl, bUp hw6 hb7⟩
        · dsimp only at r1 r2 r3 r4 r5 r6
          injection r1 with r1a r1b
          subst r1a r1b
          have hs2 := HSh.out pc rfl
          have hft2 : fileT pc = (fileP pc, 0) := by unfold fileT; rw [if_pos (ok_chkF r2)]
          have hrd2 := file_reads r2 r3 (by omega)
          obtain ⟨es2, gs2, b2, s2, t2⟩ := pc
          dsimp only at r4 r5 r6 HE5 HG5
          have hF2 := fun w' h1 h2 h3 => elFileText es2 gs2 b2 s2 t2 E5 G5 e5 g5 w' h1 h2 h3 (by omega) (by omega) (fun e he => by have := (r6 e he).1; omega) (fun e he => by have := (r6 e he).2; omega) (WfC.names r2) r3
          rw [hft2] at hF2
          dsimp only at hF2
          generalize fileP ⟨es2, gs2, b2, s2, t2⟩ = fp2 at hF2 hrd2 hs2
          have HP2 := Lib.hid (fun w' hE' => elParseFile fp2 w' hE' (by omega))
          unfold FileOut at HP2
          rw [hrd2] at HP2
          dsimp only at HP2
          have HS2 := Lib.hid (fun w' E1 G1 e1 g1 h1 h2 h3 h4 => rfSame es2 gs2 b2 s2 t2 E5 G5 E1 G1 e5 g5 e1 g1 w' h1 h2 h3 h4 (by omega) (by omega) (fun e he => by have := (r6 e he).1; omega) (fun e he => by have := (r6 e he).2; omega))
          have HF2 := Lib.hid hF2
          have R2 := Lib.hid r2
          have R3 := Lib.hid r3
          have R6 := Lib.hid r6
          have Hft2 := Lib.hid hft2
          have Hrd2 := Lib.hid hrd2
          have Hs2 := Lib.hid hs2
          clear r2 r3 r6 hft2 hrd2 hs2
          clear HPl HRd HSh hF2
          go_wp2_with fail
          refine (HF2.out _ (HE5.out.keep (bUp (bBox _ _) (bBox _ _))) (HG5.out.keep (bUp (bBox _ _) (bBox _ _))) (HE.out.keep (bUp H05.out (bUp (bBox _ _) (bBox _ _))))).mono ?_
          rintro e w6 ⟨rfl, hb6⟩
          have h56 := bUp (bUp (bBox w5 (.cells #[.slice E5 es2.length e5, .slice G5 gs2.length g5, .int .i64 b2, .int .i64 s2, .int .i64 t2] 35)) (bBox _ (.cells #[.int .i64 0, .int .i64 0] 39))) hb6
          have hB6 := ((Blk.new w5 #[.slice E5 es2.length e5, .slice G5 gs2.length g5, .int .i64 b2, .int .i64 s2, .int .i64 t2] 35).alloc (.cells #[.int .i64 0, .int .i64 0] 39)).keep hb6
          have HB6 := Lib.hid hB6
          have H06 := Lib.hid (bUp H05.out h56)
          have HE6 := Lib.hid (HE5.out.keep h56)
          have HG6 := Lib.hid (HG5.out.keep h56)
          clear hb6 hB6 h56
          go_wp2_with fail
          refine (HP2.out _ (HE.out.keep H06.out)).mono ?_
          rintro e w7 ⟨E7, e7, G7, g7, rfl, hE7, hG7, hb7⟩
          have hB7 := HB6.out.keep hb7
          have H07 := Lib.hid (bUp H06.out hb7)
          have HE7 := Lib.hid hE7
          have HG7 := Lib.hid hG7
          have HE6b := Lib.hid (HE6.out.keep hb7)
          have HG6b := Lib.hid (HG6.out.keep hb7)
          have a0 : w7.cell? ⟨w5.heap.size, 0, none⟩ = some (.slice E5 es2.length e5) := hB7.cell 0
          have a1 : w7.cell? ⟨w5.heap.size, 1, none⟩ = some (.slice G5 gs2.length g5) := hB7.cell 1
          have a2 : w7.cell? ⟨w5.heap.size, 2, none⟩ = some (.int .i64 b2) := hB7.cell 2
          have a3 : w7.cell? ⟨w5.heap.size, 3, none⟩ = some (.int .i64 s2) := hB7.cell 3
          have a4 : w7.cell? ⟨w5.heap.size, 4, none⟩ = some (.int .i64 t2) := hB7.cell 4
          have z1 := hB7.lt
          have y1 := Nat.le_of_lt z1
          have x1 : w5.heap.size ≤ w7.heap.size + 1 := by omega
          have u1 : w5.heap.size < w7.heap.size + 1 := by omega
          clear hb7 hE7 hG7 hB7
          go_wp2_with fail
          refine (HS2.out _ E7 G7 e7 g7 (HE6b.out.keep (bUp (bBox _ _) (bBox _ _))) (HG6b.out.keep (bUp (bBox _ _) (bBox _ _))) (HE7.out.keep (bUp (bBox _ _) (bBox _ _))) (HG7.out.keep (bUp (bBox _ _) (bBox _ _)))).mono ?_
          rintro e w8 ⟨rfl, hb8⟩
          have hw8 := bUp (bUp H07.out (bUp (bBox _ _) (bBox _ _))) hb8
          clear hb8
          go_wp2_with fail
          refine (elAlive _ (HE.out.keep hw8)).mono ?_
          rintro e w9 ⟨rfl, hb9⟩
          go_wp2_with fail
          go_ret
          exact ⟨rfl, bUp hw8 hb9⟩
    · have hg : decide ((1500 : Int) < (l.length : Int)) = true := by simp; omega
      have HFw := Lib.hid hFw
      have HN := Lib.hid hN
      have HG := Lib.hid hG
      have Hcl := Lib.hid hcl
      have Hll := Lib.hid hll
      have Hml := Lib.hid hml
      have Hw := Lib.hid hw
      have HE := Lib.hid hE
      have Hf := Lib.hid hf
      have Hfw := Lib.hid hfw
      have H1500 := Lib.hid h1500
      clear hFw hN hG hcl hll hml hw hE hf hfw h1500
      go_enter Tryz.func7, Tryz.ntmps7
      go_wp2_with fail
      refine (HFw.out _ (HN.out.keep (bBox w _)) (HG.out.keep (bBox w _))).mono ?_
      rintro e w1 ⟨rfl, hb1⟩
      go_wp2_with fail
      refine (elAlive _ (HE.out.keep (bUp (bBox w _) hb1))).mono ?_
      rintro e w2 ⟨rfl, hb2⟩
      go_wp2_with fail
      go_ret
      exact ⟨rfl, bUp (bUp (bBox w _) hb1) hb2⟩
end Go.Proofs.YthogkokifiibnaaGreatDoor
