/- ElementComments: the walk -/
import Derived.Test.YthogkokifiibnaaGreatDoorFw
import Derived.Test.YthogkokifiibnaaGreatDoorR6
import Derived.Test.YthogkokifiibnaaGreatDoorP8
namespace Go.Proofs.YthogkokifiibnaaGreatDoor
open Go.RowKit Go.Sort

set_option maxHeartbeats 8000000 in
set_option maxRecDepth 100000 in
theorem lawEComments (es : List EntryD) (gs : List GroupD) (b s t : Int) (AE AG : Option Addr) (cE cG : Nat) (note : List UInt8) (w : World) (hN : EntsAt w AE es) (hG : GroupsAt w AG gs) (hne : es.length ≤ 9223372036854775807) (hng : gs.length ≤ 9223372036854775807) (hcl : ∀ e ∈ es, e.codes.length ≤ 9223372036854775807) (hll : ∀ e ∈ es, e.els.length ≤ 9223372036854775807) (hml : ∀ g ∈ gs, g.name.length ≤ 9223372036854775807) (hw : WfC ⟨es, gs, b, s, t⟩) (hs : note.length ≤ 9223372036854775807) (hE : EnvF w) :
    Calls Tryz.prog 8 #[.agg #[.slice AE es.length cE, .slice AG gs.length cG, .int .i64 b, .int .i64 s, .int .i64 t], .string ⟨note.toArray⟩] w fun e w' => e = .returned (.bool true) ∧ Below w.heap.size w w' := by
  have hFw := fun w' h1 h2 => rfFew es gs b s t AE AG cE cG w' h1 h2 hne hng hcl hll hml
  cases hf : fewC es gs with
  | false =>
    rw [hf] at hFw
    have HFw := Lib.hid hFw
    have HN := Lib.hid hN
    have HG := Lib.hid hG
    have Hcl := Lib.hid hcl
    have Hll := Lib.hid hll
    have Hml := Lib.hid hml
    have Hw := Lib.hid hw
    have HE := Lib.hid hE
    have Hf := Lib.hid hf
    clear hFw hN hG hcl hll hml hw hE hf
    go_enter Tryz.func8, Tryz.ntmps8
    go_wp2_with fail
    refine (HFw.out _ (HN.out.keep (bBox w _)) (HG.out.keep (bBox w _))).mono ?_
    rintro e w1 ⟨rfl, hb1⟩
    go_wp2_with fail
    refine (elAlive _ (HE.out.keep (bUp (bBox w _) hb1))).mono ?_
    rintro e w2 ⟨rfl, hb2⟩
    go_wp2_with fail
    go_ret
    exact ⟨rfl, bUp (bUp (bBox w _) hb1) hb2⟩
  | true =>
    rw [hf] at hFw
    have hfw := fewC_yes hf
    by_cases h40 : note.length ≤ 40
    · have hg : decide ((40 : Int) < (note.length : Int)) = false := by simp; omega
      have hFT := fun w' h1 h2 h3 => elFileText es gs b s t AE AG cE cG w' h1 h2 h3 (by have := hfw.e; omega) (by have := hfw.g; omega) (fun e he => by have := hfw.c e he; omega) (fun e he => by have := hfw.l e he; omega) hml hw
      have hSa := fun w' E1 G1 e1 g1 h1 h2 h3 h4 => rfSame es gs b s t E1 G1 AE AG e1 g1 cE cG w' h1 h2 h3 h4 (by have := hfw.e; omega) (by have := hfw.g; omega) (fun e he => by have := hfw.c e he; omega) (fun e he => by have := hfw.l e he; omega)
      have HFl := Lib.hid (fun (h : chkF ⟨es, gs, b, s, t⟩ = 0) => (show fileT ⟨es, gs, b, s, t⟩ = (fileP ⟨es, gs, b, s, t⟩, 0) ∧ (fileP ⟨es, gs, b, s, t⟩).length ≤ 10000 ∧ ((10 : UInt8) ∉ note → parseF ([32, 32, 35] ++ note ++ [10, 10] ++ fileP ⟨es, gs, b, s, t⟩ ++ [35] ++ note) = (⟨es, gs, b, s, t⟩, (0, 0))) from ⟨by unfold fileT; rw [if_pos h], file_short hfw (chkF_ok h) hw, fun hn => comments_parse (chkF_ok h) hw hn (file_short hfw (chkF_ok h) hw) h40⟩))
      have HFw := Lib.hid hFw
      have HFT := Lib.hid hFT
      have HSa := Lib.hid hSa
      have HN := Lib.hid hN
      have HG := Lib.hid hG
      have Hcl := Lib.hid hcl
      have Hll := Lib.hid hll
      have Hml := Lib.hid hml
      have Hw := Lib.hid hw
      have HE := Lib.hid hE
      have Hf := Lib.hid hf
      have Hfw := Lib.hid hfw
      clear hFw hFT hSa hN hG hcl hll hml hw hE hf hfw
      go_enter Tryz.func8, Tryz.ntmps8
      go_wp2_with fail
      refine (HFw.out _ (HN.out.keep (bBox w _)) (HG.out.keep (bBox w _))).mono ?_
      rintro e w1 ⟨rfl, hb1⟩
      have hB := (Blk.new w #[.slice AE es.length cE, .slice AG gs.length cG, .int .i64 b, .int .i64 s, .int .i64 t] 35).keep hb1
      have h01 := bUp (bBox w (.cells #[.slice AE es.length cE, .slice AG gs.length cG, .int .i64 b, .int .i64 s, .int .i64 t] 35)) hb1
      have HB := Lib.hid hB
      have H01 := Lib.hid h01
      clear hB h01 hb1
      go_wp2_with fail
      go_loop [5] (fun i => ∃ k : Nat, k ≤ note.length ∧ i = .int .i64 k ∧ Hid ((10 : UInt8) ∉ note.take k)) (fun i => note.length - (intOf i).toNat)
      case atStart => exact ⟨0, Nat.zero_le _, rfl, Lib.hid (by simp)⟩
      case round =>
        obtain ⟨k, hk, rfl, HK⟩ := hrel
        by_cases hlt : k < note.length
        · have hki : (k : Int) < note.length := by omega
          have hbt := btN_lt note k
          by_cases h10 : btN note k = 10
          · have e1 : ((btN note k : Int) == 10) = true := by simp; omega
            have H10 := Lib.hid h10
            clear h10
            go_wp2_with fail
            refine (elAlive _ (HE.out.keep H01.out)).mono ?_
            rintro e w2 ⟨rfl, hb2⟩
            go_wp2_with fail
            go_ret
            exact ⟨rfl, bUp H01.out hb2⟩
          · have e1 : ((btN note k : Int) == 10) = false := by simp; omega
            have HK2 := Lib.hid (show (10 : UInt8) ∉ note.take (k + 1) from fun hm => by
              rw [List.take_add_one, List.getElem?_eq_getElem hlt] at hm
              rcases List.mem_append.1 hm with hm | hm
              · exact HK.out hm
              · simp at hm
                exact h10 (by rw [btN_get hlt, ← hm]; rfl))
            have H10 := Lib.hid h10
            clear h10
            go_wp2_with fail
            go_round
            case rel => exact ⟨k + 1, by omega, by go_num, HK2⟩
            case measure => simp [intOf]; omega
        · obtain rfl : k = note.length := by omega
          have hki : ¬ (note.length : Int) < note.length := by omega
          have hn10 := HK.out
          rw [List.take_length] at hn10
          have a0 : w1.cell? ⟨w.heap.size, 0, none⟩ = some (.slice AE es.length cE) := HB.out.cell 0
          have a1 : w1.cell? ⟨w.heap.size, 1, none⟩ = some (.slice AG gs.length cG) := HB.out.cell 1
          have a2 : w1.cell? ⟨w.heap.size, 2, none⟩ = some (.int .i64 b) := HB.out.cell 2
          have a3 : w1.cell? ⟨w.heap.size, 3, none⟩ = some (.int .i64 s) := HB.out.cell 3
          have a4 : w1.cell? ⟨w.heap.size, 4, none⟩ = some (.int .i64 t) := HB.out.cell 4
          by_cases hc : chkF ⟨es, gs, b, s, t⟩ = 0
          · obtain ⟨f1, f2, f3⟩ := HFl.out hc
            have f3 := f3 hn10
            rw [f1] at HFT
            dsimp only at HFT
            generalize fileP ⟨es, gs, b, s, t⟩ = fp at HFT f2 f3
            have k1 : (⟨#[32, 32, 35]⟩ : ByteArray) ++ ⟨note.toArray⟩ = ⟨([32, 32, 35] ++ note).toArray⟩ := catE [32, 32, 35] note
            have k2 : (⟨([32, 32, 35] ++ note).toArray⟩ : ByteArray) ++ ⟨#[10, 10]⟩ = ⟨([32, 32, 35] ++ note ++ [10, 10]).toArray⟩ := catE _ [10, 10]
            have k3 : (⟨([32, 32, 35] ++ note ++ [10, 10]).toArray⟩ : ByteArray) ++ ⟨fp.toArray⟩ = ⟨([32, 32, 35] ++ note ++ [10, 10] ++ fp).toArray⟩ := catE _ fp
            have k4 : (⟨([32, 32, 35] ++ note ++ [10, 10] ++ fp).toArray⟩ : ByteArray) ++ ⟨#[35]⟩ = ⟨([32, 32, 35] ++ note ++ [10, 10] ++ fp ++ [35]).toArray⟩ := catE _ [35]
            have k5 : (⟨([32, 32, 35] ++ note ++ [10, 10] ++ fp ++ [35]).toArray⟩ : ByteArray) ++ ⟨note.toArray⟩ = ⟨([32, 32, 35] ++ note ++ [10, 10] ++ fp ++ [35] ++ note).toArray⟩ := catE _ note
            have l1 : ([32, 32, 35] ++ note).length ≤ 20000 := by simp; omega
            have l2 : ([32, 32, 35] ++ note ++ [10, 10]).length ≤ 20000 := by simp; omega
            have l3 : ([32, 32, 35] ++ note ++ [10, 10] ++ fp).length ≤ 20000 := by simp; omega
            have l4 : ([32, 32, 35] ++ note ++ [10, 10] ++ fp ++ [35]).length ≤ 20000 := by simp; omega
            have l5 : ([32, 32, 35] ++ note ++ [10, 10] ++ fp ++ [35] ++ note).length ≤ 20000 := by simp; omega
            have HP := Lib.hid (fun w' hE' => elParseFile ([32, 32, 35] ++ note ++ [10, 10] ++ fp ++ [35] ++ note) w' hE' (by omega))
            unfold FileOut at HP
            rw [f3] at HP
            dsimp only at HP
            generalize [32, 32, 35] ++ note ++ [10, 10] ++ fp ++ [35] ++ note = q5 at HP k5 l5 f3
            generalize [32, 32, 35] ++ note ++ [10, 10] ++ fp ++ [35] = q4 at k4 k5 l4
            generalize [32, 32, 35] ++ note ++ [10, 10] ++ fp = q3 at k3 k4 l3
            generalize [32, 32, 35] ++ note ++ [10, 10] = q2 at k2 k3 l2
            generalize [32, 32, 35] ++ note = q1 at k1 k2 l1
            have Hn10 := Lib.hid hn10
            have Hc := Lib.hid hc
            have F1 := Lib.hid f1
            have F3 := Lib.hid f3
            clear hn10 hc f1 f3
            go_wp2_with fail
            refine (HFT.out _ (HN.out.keep H01.out) (HG.out.keep H01.out) (HE.out.keep H01.out)).mono ?_
            rintro e w2 ⟨rfl, hb2⟩
            have HB2 := Lib.hid (HB.out.keep hb2)
            have H02 := Lib.hid (bUp H01.out hb2)
            clear hb2 a0 a1 a2 a3 a4
            go_wp2_with fail
            refine (HP.out _ (HE.out.keep H02.out)).mono ?_
            rintro e w3 ⟨E3, e3, G3, g3, rfl, hE3, hG3, hb3⟩
            have hB3 := HB2.out.keep hb3
            have H03 := Lib.hid (bUp H02.out hb3)
            have HE3 := Lib.hid hE3
            have HG3 := Lib.hid hG3
            have a0 : w3.cell? ⟨w.heap.size, 0, none⟩ = some (.slice AE es.length cE) := hB3.cell 0
            have a1 : w3.cell? ⟨w.heap.size, 1, none⟩ = some (.slice AG gs.length cG) := hB3.cell 1
            have a2 : w3.cell? ⟨w.heap.size, 2, none⟩ = some (.int .i64 b) := hB3.cell 2
            have a3 : w3.cell? ⟨w.heap.size, 3, none⟩ = some (.int .i64 s) := hB3.cell 3
            have a4 : w3.cell? ⟨w.heap.size, 4, none⟩ = some (.int .i64 t) := hB3.cell 4
            have z1 := hB3.lt
            have y1 := Nat.le_of_lt z1
            have x1 : w.heap.size ≤ w3.heap.size + 1 := by omega
            have u1 : w.heap.size < w3.heap.size + 1 := by omega
            clear hb3 hE3 hG3 hB3
            go_wp2_with fail
            refine (HSa.out _ E3 G3 e3 g3 (HE3.out.keep (bUp (bBox _ _) (bBox _ _))) (HG3.out.keep (bUp (bBox _ _) (bBox _ _))) ((HN.out.keep H03.out).keep (bUp (bBox _ _) (bBox _ _))) ((HG.out.keep H03.out).keep (bUp (bBox _ _) (bBox _ _)))).mono ?_
            rintro e w4 ⟨rfl, hb4⟩
            have hw4 := bUp (bUp H03.out (bUp (bBox _ _) (bBox _ _))) hb4
            clear hb4
            go_wp2_with fail
            refine (elAlive _ (HE.out.keep hw4)).mono ?_
            rintro e w5 ⟨rfl, hb5⟩
            go_wp2_with fail
            go_ret
            exact ⟨rfl, bUp hw4 hb5⟩
          · have f1 : fileT ⟨es, gs, b, s, t⟩ = ([], chkF ⟨es, gs, b, s, t⟩) := by unfold fileT; rw [if_neg hc]
            rw [f1] at HFT
            have q1 : (chkF ⟨es, gs, b, s, t⟩ != 0) = true := by simp [hc]
            dsimp only at HFT
            clear HFl
            generalize chkF ⟨es, gs, b, s, t⟩ = ce at HFT q1 f1
            have Hn10 := Lib.hid hn10
            have F1 := Lib.hid f1
            clear hn10 f1
            clear hc
            go_wp2_with fail
            refine (HFT.out _ (HN.out.keep H01.out) (HG.out.keep H01.out) (HE.out.keep H01.out)).mono ?_
            rintro e w2 ⟨rfl, hb2⟩
            have H02 := Lib.hid (bUp H01.out hb2)
            clear hb2
            go_wp2_with fail
            refine (elAlive _ (HE.out.keep H02.out)).mono ?_
            rintro e w5 ⟨rfl, hb5⟩
            go_wp2_with fail
            go_ret
            exact ⟨rfl, bUp H02.out hb5⟩
    · have hg : decide ((40 : Int) < (note.length : Int)) = true := by simp; omega
      have HFw := Lib.hid hFw
      have HN := Lib.hid hN
      have HG := Lib.hid hG
      have Hcl := Lib.hid hcl
      have Hll := Lib.hid hll
      have Hml := Lib.hid hml
      have Hw := Lib.hid hw
      have HE := Lib.hid hE
      have Hf := Lib.hid hf
      have Hfw := Lib.hid hfw
      have H40 := Lib.hid h40
      clear hFw hN hG hcl hll hml hw hE hf hfw h40
      go_enter Tryz.func8, Tryz.ntmps8
      go_wp2_with fail
      refine (HFw.out _ (HN.out.keep (bBox w _)) (HG.out.keep (bBox w _))).mono ?_
      rintro e w1 ⟨rfl, hb1⟩
      go_wp2_with fail
      refine (elAlive _ (HE.out.keep (bUp (bBox w _) hb1))).mono ?_
      rintro e w2 ⟨rfl, hb2⟩
      go_wp2_with fail
      go_ret
      exact ⟨rfl, bUp (bUp (bBox w _) hb1) hb2⟩
end Go.Proofs.YthogkokifiibnaaGreatDoor
