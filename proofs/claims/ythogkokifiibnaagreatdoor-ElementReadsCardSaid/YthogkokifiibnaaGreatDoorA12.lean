/- The chapter's examples: plain. alive -/
import Derived.Test.YthogkokifiibnaaGreatDoorA9
import Derived.Test.YthogkokifiibnaaGreatDoorA10
import Derived.Test.YthogkokifiibnaaGreatDoorA11
namespace Go.Proofs.YthogkokifiibnaaGreatDoor
open Go.RowKit Go.Sort

theorem ito1 : Lib.itoa 1 = [49] := by rw [itoa_dec (by decide)]; exact Lib.decDigits_one (by decide)
theorem ito2 : Lib.itoa 2 = [50] := by rw [itoa_dec (by decide)]; exact Lib.decDigits_one (by decide)
theorem ito3 : Lib.itoa 3 = [51] := by rw [itoa_dec (by decide)]; exact Lib.decDigits_one (by decide)
theorem ito16 : Lib.itoa 16 = [49, 54] := by rw [itoa_dec (by decide)]; exact Lib.decDigits_two (by decide) (by decide)
theorem ito31 : Lib.itoa 31 = [51, 49] := by rw [itoa_dec (by decide)]; exact Lib.decDigits_two (by decide) (by decide)
def latin : List UInt8 := [108, 97, 116, 105, 110]
def gLat : GroupD := ⟨latin, 16, 31⟩
def elA : ElemD := ⟨16, 32, 2, false⟩
def eA : EntryD := ⟨[97], [elA]⟩
def cB : CollD := ⟨[], [], 1, 2, 3⟩
theorem bB : bLine cB = [64, 98, 97, 115, 101, 32, 49, 32, 50, 32, 51] := by simp [bLine, lineP, cB, ito1, ito2, ito3, wBase]
theorem bG : gLine gLat = [64, 103, 114, 111, 117, 112, 32, 108, 97, 116, 105, 110, 32, 49, 54, 32, 51, 49] := by simp [gLine, lineP, gLat, latin, ito16, ito31, wGroup]
theorem bE : eLine eA = [48, 48, 54, 49, 59, 32, 91, 46, 48, 48, 49, 48, 46, 48, 48, 50, 48, 46, 48, 48, 48, 50, 93] := by decide +kernel
theorem stepF_of {s : StF} {l l' : List UInt8} (h : contentP l = contentP l') : stepF s l = stepF s l' := by unfold stepF; rw [h]
theorem okB : OkC cB := ⟨⟨by decide, by decide, by decide⟩, (fun x hx => by cases hx), (fun x hx => by cases hx)⟩
theorem wfB : WfC cB := ⟨by decide, by decide, by decide, fun x hx => by cases hx⟩
theorem namLat : nameB gLat.name = true := by decide +kernel
theorem chkA : chksE eA.els = 0 := by decide +kernel
theorem valA : allValid eA.codes = true := by decide +kernel

def aliveF : List UInt8 := ([64, 98, 97, 115, 101, 32, 49, 32, 50, 32, 51, 10, 64, 103, 114, 111, 117, 112, 32, 108, 97, 116, 105, 110, 32, 49, 54, 32, 51, 49, 32, 35] : List UInt8).append [32, 108, 101, 116, 116, 101, 114, 115, 10, 48, 48, 54, 49, 59, 32, 91, 46, 48, 48, 49, 48, 46, 48, 48, 50, 48, 46, 48, 48, 48, 50, 93, 10]
theorem alive_lines : linesL aliveF = [[64, 98, 97, 115, 101, 32, 49, 32, 50, 32, 51], [64, 103, 114, 111, 117, 112, 32, 108, 97, 116, 105, 110, 32, 49, 54, 32, 51, 49, 32, 35, 32, 108, 101, 116, 116, 101, 114, 115], [48, 48, 54, 49, 59, 32, 91, 46, 48, 48, 49, 48, 46, 48, 48, 50, 48, 46, 48, 48, 48, 50, 93]] := by decide +kernel
theorem alive_content : contentP [64, 103, 114, 111, 117, 112, 32, 108, 97, 116, 105, 110, 32, 49, 54, 32, 51, 49, 32, 35, 32, 108, 101, 116, 116, 101, 114, 115] = [64, 103, 114, 111, 117, 112, 32, 108, 97, 116, 105, 110, 32, 49, 54, 32, 51, 49] := by decide +kernel
theorem alive_parse : parseF aliveF = (⟨[eA], [gLat], 1, 2, 3⟩, (0, 0)) := by
  unfold parseF
  rw [if_neg (by decide), alive_lines, ← bB, ← bE]
  have h1 := step_base okB wfB 0 (0, 0)
  have h2 : stepF ⟨⟨⟨[], [], 1, 2, 3⟩, true⟩, (0, 0), 1⟩ [64, 103, 114, 111, 117, 112, 32, 108, 97, 116, 105, 110, 32, 49, 54, 32, 51, 49, 32, 35, 32, 108, 101, 116, 116, 101, 114, 115] = some ⟨⟨⟨[], [gLat], 1, 2, 3⟩, true⟩, (0, 0), 2⟩ := by
    rw [stepF_of (l' := gLine gLat) (by rw [alive_content, bG]; decide +kernel)]
    exact step_group (g := gLat) (by decide) (by decide) namLat (by decide) (by decide) [] 1 2 3 1 (0, 0)
  have h3 := step_entry (e := eA) valA chkA ⟨[], [gLat], 1, 2, 3⟩ 2 (0, 0)
  have e1 : stepF startF (bLine cB) = some ⟨⟨⟨[], [], 1, 2, 3⟩, true⟩, (0, 0), 1⟩ := h1
  rw [runF, e1]
  dsimp only
  rw [runF, h2]
  dsimp only
  rw [runF, h3]
  rfl
def aliveG : List UInt8 := [64, 98, 97, 115, 101, 32, 49, 32, 50, 32, 51, 10, 48, 48, 54, 49, 59, 10]
theorem aliveG_lines : linesL aliveG = [[64, 98, 97, 115, 101, 32, 49, 32, 50, 32, 51], [48, 48, 54, 49, 59]] := by decide +kernel
theorem alive_fault : parseF aliveG = (zeroC, (3, 2)) := by
  unfold parseF
  rw [if_neg (by decide), aliveG_lines, ← bB]
  have e1 : stepF startF (bLine cB) = some ⟨⟨⟨[], [], 1, 2, 3⟩, true⟩, (0, 0), 1⟩ := step_base okB wfB 0 (0, 0)
  have e2 : stepF ⟨⟨⟨[], [], 1, 2, 3⟩, true⟩, (0, 0), 1⟩ [48, 48, 54, 49, 59] = none := by
    unfold stepF
    rw [show contentP [48, 48, 54, 49, 59] = [48, 48, 54, 49, 59] by decide +kernel]
    unfold stepT
    rw [if_neg (by simp)]
    have hb : baseP ⟨⟨[], [], 1, 2, 3⟩, true⟩ [48, 48, 54, 49, 59] = none := by simp [baseP]
    have hg : groupP ⟨⟨[], [], 1, 2, 3⟩, true⟩ [48, 48, 54, 49, 59] = none := by
      unfold groupP
      rw [decide_eq_false (head_group (by decide))]
      simp
    have he : entryP ⟨⟨[], [], 1, 2, 3⟩, true⟩ [48, 48, 54, 49, 59] = none := by
      unfold entryP entP
      rw [show (Lib.cut [48, 48, 54, 49, 59] [59, 32]).2.2 = false by decide +kernel]
      rfl
    dsimp only
    rw [hb]
    dsimp only
    rw [hg]
    dsimp only
    rw [he]
  rw [runF, e1]
  dsimp only
  rw [runF, e2]
  rfl
theorem alive_text : fileT ⟨[], [gLat], 1, 2, 3⟩ = ([64, 98, 97, 115, 101, 32, 49, 32, 50, 32, 51, 10, 64, 103, 114, 111, 117, 112, 32, 108, 97, 116, 105, 110, 32, 49, 54, 32, 51, 49, 10], 0) := by
  have hc : chkF ⟨[], [gLat], 1, 2, 3⟩ = 0 := by decide +kernel
  unfold fileT
  rw [if_pos hc]
  congr 1
  have e : fileP ⟨[], [gLat], 1, 2, 3⟩ = nl (bLine cB) ++ nl (gLine gLat) := by simp [fileP, fileLs, bLine, cB]
  rw [e, bB, bG]
  rfl
theorem alive_one : textE [elA] = ([91, 46, 48, 48, 49, 48, 46, 48, 48, 50, 48, 46, 48, 48, 48, 50, 93], 0) := by decide +kernel
end Go.Proofs.YthogkokifiibnaaGreatDoor
namespace Go.Proofs.YthogkokifiibnaaGreatDoor
open Go.RowKit Go.Sort

theorem elems_one (w : World) : ElemsAt (w.alloc (.cells #[.int .i64 16, .int .i64 32, .int .i64 2, .bool false] 45)) (some ⟨w.heap.size, 0, none⟩) [elA] := by
  intro _
  refine ⟨w.heap.size, 0, rfl, by simp, fun j hj => ?_⟩
  obtain rfl : j = 0 := by simp at hj; omega
  exact ⟨cell_box _ _ _ _, cell_box _ _ _ _, cell_box _ _ _ _, cell_box _ _ _ _⟩
theorem elems_two (w : World) (X : Obj) : ElemsAt ((w.alloc X).alloc (.cells #[.int .i64 16, .int .i64 32, .int .i64 2, .bool false] 45)) (some ⟨w.heap.size + 1, 0, none⟩) [elA] := by
  have h := elems_one (w.alloc X)
  rwa [show (w.alloc X).heap.size = w.heap.size + 1 by simp] at h
theorem groups_one (w : World) (A : Nat) (hA : A = w.heap.size) : GroupsAt (w.alloc (.cells #[.string ⟨#[108, 97, 116, 105, 110]⟩, .int .i64 16, .int .i64 31] 47)) (some ⟨A, 0, none⟩) [gLat] := by
  subst hA
  intro _
  refine ⟨w.heap.size, 0, rfl, by simp, fun j hj => ?_⟩
  obtain rfl : j = 0 := by simp at hj; omega
  exact ⟨cell_box _ _ _ _, cell_box _ _ _ _, cell_box _ _ _ _⟩

set_option maxHeartbeats 4000000 in
set_option maxRecDepth 100000 in
theorem elAlive (w : World) (hE : EnvF w) :
    Calls Tryz.prog 9 #[] w fun e w' => e = .returned (.bool true) ∧ Below w.heap.size w w' := by
  have HT := Lib.hid (fun w' A c h => elText [elA] A c w' h (by simp))
  rw [alive_one] at HT
  have HP1 := Lib.hid (fun w' hE' => elParseFile aliveF w' hE' (by decide))
  unfold FileOut at HP1
  rw [alive_parse] at HP1
  unfold aliveF at HP1
  have HP2 := Lib.hid (fun w' hE' => elParseFile aliveG w' hE' (by decide))
  unfold FileOut at HP2
  rw [alive_fault] at HP2
  unfold aliveG at HP2
  have HF := Lib.hid (fun w' AG cG hG hE' => elFileText [] [gLat] 1 2 3 none AG 0 cG w' EntsAt.nil hG hE' (by simp) (by simp) (fun e he => by cases he) (fun e he => by cases he) (fun g hg => by simp at hg; subst hg; decide) ⟨by decide, by decide, by decide, fun x hx => by simp at hx; subst hx; decide⟩)
  rw [alive_text] at HF
  dsimp only at HT HP1 HP2 HF
  have HE := Lib.hid hE
  clear hE
  go_enter Tryz.func9, Tryz.ntmps9
  go_wp2_with fail
  refine (HT.out _ _ _ (elems_two w _)).mono ?_
  rintro e w1 ⟨rfl, hb1⟩
  have hBa := ((Blk.new w #[.int .i64 16, .int .i64 32, .int .i64 2, .bool false] 45).alloc (.cells #[.int .i64 16, .int .i64 32, .int .i64 2, .bool false] 45)).keep hb1
  have h01 := bUp (bUp (bBox w _) (bBox _ _)) hb1
  have HBa := Lib.hid hBa
  have H01 := Lib.hid h01
  clear hBa h01 hb1
  go_wp2_with fail
  refine (HP1.out _ (HE.out.keep H01.out)).mono ?_
  rintro e w2 ⟨AE, cE, AG, cG, rfl, hEn, hGr, hb2⟩
  have HBa2 := Lib.hid (HBa.out.keep hb2)
  have H02 := Lib.hid (bUp H01.out hb2)
  have HEn := Lib.hid hEn
  clear hb2 hGr hEn
  go_wp2_with fail
  refine (HP2.out _ (HE.out.keep (bUp H02.out (bUp (bBox _ _) (bBox _ _))))).mono ?_
  rintro e w4 ⟨AE2, cE2, AG2, cG2, rfl, _, _, hb4⟩
  have hBc := ((Blk.new w2 #[.slice AE 1 cE, .slice AG 1 cG, .int .i64 1, .int .i64 2, .int .i64 3] 35).alloc (.cells #[.int .i64 0, .int .i64 0] 39)).keep hb4
  have hBf := (Blk.new (w2.alloc (.cells #[.slice AE 1 cE, .slice AG 1 cG, .int .i64 1, .int .i64 2, .int .i64 3] 35)) #[.int .i64 0, .int .i64 0] 39).keep hb4
  rw [show (w2.alloc (.cells #[.slice AE 1 cE, .slice AG 1 cG, .int .i64 1, .int .i64 2, .int .i64 3] 35)).heap.size = w2.heap.size + 1 by simp] at hBf
  have h24 := bUp (bUp (bBox w2 (.cells #[.slice AE 1 cE, .slice AG 1 cG, .int .i64 1, .int .i64 2, .int .i64 3] 35)) (bBox _ (.cells #[.int .i64 0, .int .i64 0] 39))) hb4
  have HBa4 := Lib.hid (HBa2.out.keep h24)
  have HBc4 := Lib.hid hBc
  have HBf4 := Lib.hid hBf
  have HEn4 := Lib.hid (HEn.out.keep h24)
  have H04 := Lib.hid (bUp H02.out h24)
  clear hBc hBf h24 hb4 HBa HBa2 HEn H01 H02
  go_wp2_with fail
  refine (HF.out _ _ _ (groups_one _ _ (by simp)) (HE.out.keep (bUp H04.out (bUp (bUp (bBox _ _) (bBox _ _)) (bBox _ _))))).mono ?_
  rintro e w6 ⟨rfl, hb6⟩
  have h46 := bUp (bUp (bUp (bBox w4 (.cells #[.slice AE2 0 cE2, .slice AG2 0 cG2, .int .i64 0, .int .i64 0, .int .i64 0] 35)) (bBox _ (.cells #[.int .i64 3, .int .i64 2] 39))) (bBox _ (.cells #[.string ⟨#[108, 97, 116, 105, 110]⟩, .int .i64 16, .int .i64 31] 47))) hb6
  have hBg := ((Blk.new (w4.alloc (.cells #[.slice AE2 0 cE2, .slice AG2 0 cG2, .int .i64 0, .int .i64 0, .int .i64 0] 35)) #[.int .i64 3, .int .i64 2] 39).alloc (.cells #[.string ⟨#[108, 97, 116, 105, 110]⟩, .int .i64 16, .int .i64 31] 47)).keep hb6
  rw [show (w4.alloc (.cells #[.slice AE2 0 cE2, .slice AG2 0 cG2, .int .i64 0, .int .i64 0, .int .i64 0] 35)).heap.size = w4.heap.size + 1 by simp] at hBg
  have hBa := HBa4.out.keep h46
  have hBc := HBc4.out.keep h46
  have hBf := HBf4.out.keep h46
  obtain ⟨b1, o1, C1, cc1, L1, c2, rfl, h1, p0, _, p1, hL⟩ := (HEn4.out.keep h46).at_ (k := 0) (by simp)
  have r1 : w6.cell? ⟨b1, o1 + 1, none⟩ = some (.slice L1 1 c2) := p1
  clear p0 p1
  have HL : Hid (ElemsAt w6 L1 [elA]) := Lib.hid hL
  have a0 : w6.cell? ⟨w.heap.size, 0, none⟩ = some (.int .i64 16) := hBa.cell 0
  have a1 : w6.cell? ⟨w.heap.size, 1, none⟩ = some (.int .i64 32) := hBa.cell 1
  have a2 : w6.cell? ⟨w.heap.size, 2, none⟩ = some (.int .i64 2) := hBa.cell 2
  have a3 : w6.cell? ⟨w.heap.size, 3, none⟩ = some (.bool false) := hBa.cell 3
  have d0 : w6.cell? ⟨w2.heap.size, 0, none⟩ = some (.slice (some ⟨b1, o1, none⟩) 1 cE) := hBc.cell 0
  have d4 : w6.cell? ⟨w2.heap.size, 4, none⟩ = some (.int .i64 3) := hBc.cell 4
  have f0 : w6.cell? ⟨w2.heap.size + 1, 0, none⟩ = some (.int .i64 0) := hBf.cell 0
  have f1 : w6.cell? ⟨w2.heap.size + 1, 1, none⟩ = some (.int .i64 0) := hBf.cell 1
  have g0 : w6.cell? ⟨w4.heap.size + 1, 0, none⟩ = some (.int .i64 3) := hBg.cell 0
  have g1 : w6.cell? ⟨w4.heap.size + 1, 1, none⟩ = some (.int .i64 2) := hBg.cell 1
  have z1 := hBa.lt
  have z2 := hBc.lt
  have z3 := hBf.lt
  have z4 := hBg.lt
  have H06 := Lib.hid (bUp H04.out h46)
  have HSm : Hid (∀ w' A B c1 c2, ElemsAt w' A [elA] → ElemsAt w' B [elA] → Calls Tryz.prog 12 #[.slice A 1 c1, .slice B 1 c2] w' fun e w'' => e = .returned (.bool true) ∧ Below w'.heap.size w' w'') := Lib.hid (fun w' A B c1 c2 hA hB => rfSameE [elA] A B c1 c2 w' hA hB (by simp))
  have hbx : Below w6.heap.size w6 (w6.alloc (.cells #[.int .i64 16, .int .i64 32, .int .i64 2, .bool false] 45)).drew := (bBox w6 _).drew
  have HL2 := Lib.hid (HL.out.keep hbx)
  have HL3 := Lib.hid ((elems_one w6).keep (Below.refl _ _).drew)
  have Hbx := Lib.hid hbx
  clear hbx hL hBa hBc hBf hBg h46 hb6 HBa4 HBc4 HBf4 HEn4 H04
  go_wp2_with fail
  generalize (⟨#[91, 46, 48, 48, 49, 48, 46, 48, 48, 50, 48, 46, 48, 48, 48, 50, 93]⟩ : ByteArray) = S1
  generalize (⟨#[64, 98, 97, 115, 101, 32, 49, 32, 50, 32, 51, 10, 64, 103, 114, 111, 117, 112, 32, 108, 97, 116, 105, 110, 32, 49, 54, 32, 51, 49, 10]⟩ : ByteArray) = S2
  refine wp_region_any (by kernel_rfl) ?_
  change wpAny _ _ _ _ _ _ _ (World.drew _)
  have hbd : Below w6.heap.size w6 w6.drew := (Below.refl _ _).drew
  generalize w6.drew = wd at hbd
  have y1 : b1 < wd.heap.size := block_lt_of_cell (cell_keep hbd r1)
  have y2 : w2.heap.size < wd.heap.size := block_lt_of_cell (cell_keep hbd d0)
  replace a0 := cell_keep hbd a0
  replace a1 := cell_keep hbd a1
  replace a2 := cell_keep hbd a2
  replace a3 := cell_keep hbd a3
  replace d0 := cell_keep hbd d0
  replace d4 := cell_keep hbd d4
  replace f0 := cell_keep hbd f0
  replace f1 := cell_keep hbd f1
  replace g0 := cell_keep hbd g0
  replace g1 := cell_keep hbd g1
  replace r1 := cell_keep hbd r1
  refine wpAny_take (i := 0) (v := .string S1) rfl (by kernel_rfl) (by kernel_rfl) (by kernel_rfl) (fun _ _ _ h => h) (Or.inl ⟨by kernel_rfl, fun w => by go_simp⟩) ?_
  refine wpAny_take (i := 1) (v := .bool true) rfl (by kernel_rfl) (by kernel_rfl) (by kernel_rfl) (fun _ _ _ h => h) (Or.inl ⟨by kernel_rfl, fun w => by go_simp⟩) ?_
  refine wpAny_take (i := 2) (v := .bool true) rfl (by kernel_rfl) (by kernel_rfl) (by kernel_rfl) (fun _ _ _ h => h) (Or.inl ⟨by kernel_rfl, fun w => by go_simp⟩) ?_
  refine wpAny_take (i := 3) (v := .int .i64 0) rfl (by kernel_rfl) (by kernel_rfl) (by kernel_rfl) (fun _ _ _ h => h) (Or.inl ⟨by kernel_rfl, fun w => by go_simp⟩) ?_
  refine wpAny_take (i := 4) (v := .bool true) rfl (by kernel_rfl) (by kernel_rfl) (by kernel_rfl) (fun _ _ _ h => h) (Or.inl ⟨by kernel_rfl, fun w => by go_simp⟩) ?_
  refine wpAny_take (i := 5) (v := .bool true) rfl (by kernel_rfl) (by kernel_rfl) (by kernel_rfl) (fun _ _ _ h => h) (Or.inl ⟨by kernel_rfl, fun w => by go_simp⟩) ?_
  refine wpAny_take (i := 6) (v := .bool true) rfl (by kernel_rfl) (by kernel_rfl) (by kernel_rfl) (fun _ _ _ h => h) (Or.inl ⟨by kernel_rfl, fun w => by go_simp⟩) ?_
  refine wpAny_take (i := 8) (v := .agg #[.int .i64 0, .int .i64 0]) rfl (by kernel_rfl) (by kernel_rfl) (by kernel_rfl) (fun _ _ _ h => h) (Or.inl ⟨by kernel_rfl, fun w => by go_simp⟩) ?_
  refine wpAny_ready (rs := [7]) (by kernel_rfl) (by simp) ?_
  refine AllReady.cons rfl (fun K hK => ?_) AllReady.nil
  go_simp
  refine hK _ _ ?_
  clear hK K
  refine wpAny_take (i := 9) (v := .bool true) rfl (by kernel_rfl) (by kernel_rfl) (by kernel_rfl) (fun _ _ _ h => h) (Or.inl ⟨by kernel_rfl, fun w => by go_simp⟩) ?_
  refine wpAny_take (i := 10) (v := .bool true) rfl (by kernel_rfl) (by kernel_rfl) (by kernel_rfl) (fun _ _ _ h => h) (Or.inl ⟨by kernel_rfl, fun w => by go_simp⟩) ?_
  refine wpAny_take (i := 11) (v := .bool true) rfl (by kernel_rfl) (by kernel_rfl) (by kernel_rfl) (fun _ _ _ h => h) (Or.inl ⟨by kernel_rfl, fun w => by go_simp⟩) ?_
  refine wpAny_take (i := 12) (v := .pointer (some ⟨w2.heap.size, 0, none⟩)) rfl (by kernel_rfl) (by kernel_rfl) (by kernel_rfl) (fun _ _ _ h => h) (Or.inl ⟨by kernel_rfl, fun w => by go_simp⟩) ?_
  refine wpAny_ready (rs := [13]) (by kernel_rfl) (by simp) ?_
  refine AllReady.cons rfl (fun K hK => ?_) AllReady.nil
  go_simp
  refine hK _ _ ?_
  clear hK K
  refine wpAny_take (i := 14) (v := .int .i64 1) rfl (by kernel_rfl) (by kernel_rfl) (by kernel_rfl) (fun _ _ _ h => h) (Or.inl ⟨by kernel_rfl, fun w => by go_simp⟩) ?_
  refine wpAny_take (i := 15) (v := .bool true) rfl (by kernel_rfl) (by kernel_rfl) (by kernel_rfl) (fun _ _ _ h => h) (Or.inl ⟨by kernel_rfl, fun w => by go_simp⟩) ?_
  refine wpAny_take (i := 16) (v := .bool true) rfl (by kernel_rfl) (by kernel_rfl) (by kernel_rfl) (fun _ _ _ h => h) (Or.inl ⟨by kernel_rfl, fun w => by go_simp⟩) ?_
  refine wpAny_take (i := 17) (v := .bool true) rfl (by kernel_rfl) (by kernel_rfl) (by kernel_rfl) (fun _ _ _ h => h) (Or.inl ⟨by kernel_rfl, fun w => by go_simp⟩) ?_
  refine wpAny_take (i := 18) (v := .pointer (some ⟨w2.heap.size, 0, none⟩)) rfl (by kernel_rfl) (by kernel_rfl) (by kernel_rfl) (fun _ _ _ h => h) (Or.inl ⟨by kernel_rfl, fun w => by go_simp⟩) ?_
  refine wpAny_ready (rs := [19, 23]) (by kernel_rfl) (by simp) ?_
  refine AllReady.cons rfl (fun K hK => ?_) (AllReady.cons rfl (fun K hK => ?_) AllReady.nil)
  · go_simp
    refine hK _ _ ?_
    clear hK K
    refine wpAny_take (i := 20) (v := .pointer (some ⟨b1, o1, none⟩)) rfl (by kernel_rfl) (by kernel_rfl) (by kernel_rfl) (fun _ _ _ h => h) (Or.inl ⟨by kernel_rfl, fun w => by go_simp⟩) ?_
    refine wpAny_take (i := 21) (v := .pointer (some ⟨b1, o1 + 1, none⟩)) rfl (by kernel_rfl) (by kernel_rfl) (by kernel_rfl) (fun _ _ _ h => h) (Or.inl ⟨by kernel_rfl, fun w => by go_simp⟩) ?_
    refine wpAny_ready (rs := [22, 23]) (by kernel_rfl) (by simp) ?_
    refine AllReady.cons rfl (fun K hK => ?_) (AllReady.cons rfl (fun K hK => ?_) AllReady.nil)
    · go_simp
      refine hK _ _ ?_
      clear hK K
      refine wpAny_ready (rs := [23]) (by kernel_rfl) (by simp) ?_
      refine AllReady.cons rfl (fun K hK => ?_) AllReady.nil
      go_simp
      refine hK _ _ ?_
      clear hK K
      refine wpAny_ready (rs := [24]) (by kernel_rfl) (by simp) ?_
      refine AllReady.cons rfl (fun K hK => ?_) AllReady.nil
      go_simp
      refine hK _ _ ?_
      clear hK K
      refine wpAny_ready (rs := [25]) (by kernel_rfl) (by simp) ?_
      refine AllReady.cons rfl (fun K hK => ?_) AllReady.nil
      go_simp
      refine (HSm.out _ L1 (some ⟨wd.heap.size, 0, none⟩) c2 1 ((HL.out.keep hbd).keep (bBox wd _)) (elems_one wd)).mono ?_
      rintro e w7 ⟨rfl, hb7⟩
      refine hK _ _ ?_
      clear hK K
      have h67 := bUp (bBox wd _) hb7
      have d5 := cell_keep h67 d4
      have g2 := cell_keep h67 g0
      have g3 := cell_keep h67 g1
      have H67 := Lib.hid (bUp H06.out (bUp hbd h67))
      clear hb7 h67
      refine wpAny_take (i := 26) (v := .bool true) rfl (by kernel_rfl) (by kernel_rfl) (by kernel_rfl) (fun _ _ _ h => h) (Or.inl ⟨by kernel_rfl, fun w => by go_simp⟩) ?_
      refine wpAny_take (i := 27) (v := .bool true) rfl (by kernel_rfl) (by kernel_rfl) (by kernel_rfl) (fun _ _ _ h => h) (Or.inl ⟨by kernel_rfl, fun w => by go_simp⟩) ?_
      refine wpAny_take (i := 28) (v := .pointer (some ⟨w2.heap.size, 4, none⟩)) rfl (by kernel_rfl) (by kernel_rfl) (by kernel_rfl) (fun _ _ _ h => h) (Or.inl ⟨by kernel_rfl, fun w => by go_simp⟩) ?_
      refine wpAny_ready (rs := [29]) (by kernel_rfl) (by simp) ?_
      refine AllReady.cons rfl (fun K hK => ?_) AllReady.nil
      go_simp
      refine hK _ _ ?_
      clear hK K
      refine wpAny_take (i := 30) (v := .bool true) rfl (by kernel_rfl) (by kernel_rfl) (by kernel_rfl) (fun _ _ _ h => h) (Or.inl ⟨by kernel_rfl, fun w => by go_simp⟩) ?_
      refine wpAny_take (i := 31) (v := .bool true) rfl (by kernel_rfl) (by kernel_rfl) (by kernel_rfl) (fun _ _ _ h => h) (Or.inl ⟨by kernel_rfl, fun w => by go_simp⟩) ?_
      refine wpAny_take (i := 32) (v := .bool true) rfl (by kernel_rfl) (by kernel_rfl) (by kernel_rfl) (fun _ _ _ h => h) (Or.inl ⟨by kernel_rfl, fun w => by go_simp⟩) ?_
      refine wpAny_take (i := 34) (v := .agg #[.int .i64 3, .int .i64 2]) rfl (by kernel_rfl) (by kernel_rfl) (by kernel_rfl) (fun _ _ _ h => h) (Or.inl ⟨by kernel_rfl, fun w => by go_simp⟩) ?_
      refine wpAny_ready (rs := [33]) (by kernel_rfl) (by simp) ?_
      refine AllReady.cons rfl (fun K hK => ?_) AllReady.nil
      go_simp
      refine hK _ _ ?_
      clear hK K
      refine wpAny_take (i := 35) (v := .bool true) rfl (by kernel_rfl) (by kernel_rfl) (by kernel_rfl) (fun _ _ _ h => h) (Or.inl ⟨by kernel_rfl, fun w => by go_simp⟩) ?_
      refine wpAny_take (i := 36) (v := .bool true) rfl (by kernel_rfl) (by kernel_rfl) (by kernel_rfl) (fun _ _ _ h => h) (Or.inl ⟨by kernel_rfl, fun w => by go_simp⟩) ?_
      refine wpAny_take (i := 37) (v := .bool true) rfl (by kernel_rfl) (by kernel_rfl) (by kernel_rfl) (fun _ _ _ h => h) (Or.inl ⟨by kernel_rfl, fun w => by go_simp⟩) ?_
      refine wpAny_take (i := 38) (v := .string S2) rfl (by kernel_rfl) (by kernel_rfl) (by kernel_rfl) (fun _ _ _ h => h) (Or.inl ⟨by kernel_rfl, fun w => by go_simp⟩) ?_
      refine wpAny_take (i := 39) (v := .bool true) rfl (by kernel_rfl) (by kernel_rfl) (by kernel_rfl) (fun _ _ _ h => h) (Or.inl ⟨by kernel_rfl, fun w => by go_simp⟩) ?_
      refine wpAny_take (i := 40) (v := .bool true) rfl (by kernel_rfl) (by kernel_rfl) (by kernel_rfl) (fun _ _ _ h => h) (Or.inl ⟨by kernel_rfl, fun w => by go_simp⟩) ?_
      refine wpAny_take (i := 41) (v := .bool true) rfl (by kernel_rfl) (by kernel_rfl) (by kernel_rfl) (fun _ _ _ h => h) (Or.inl ⟨by kernel_rfl, fun w => by go_simp⟩) ?_
      refine wpAny_take (i := 42) (v := .int .i64 0) rfl (by kernel_rfl) (by kernel_rfl) (by kernel_rfl) (fun _ _ _ h => h) (Or.inl ⟨by kernel_rfl, fun w => by go_simp⟩) ?_
      refine wpAny_take (i := 43) (v := .bool true) rfl (by kernel_rfl) (by kernel_rfl) (by kernel_rfl) (fun _ _ _ h => h) (Or.inl ⟨by kernel_rfl, fun w => by go_simp⟩) ?_
      refine wpAny_take (i := 44) (v := .bool true) rfl (by kernel_rfl) (by kernel_rfl) (by kernel_rfl) (fun _ _ _ h => h) (Or.inl ⟨by kernel_rfl, fun w => by go_simp⟩) ?_
      refine wpAny_take (i := 45) (v := .bool true) rfl (by kernel_rfl) (by kernel_rfl) (by kernel_rfl) (fun _ _ _ h => h) (Or.inl ⟨by kernel_rfl, fun w => by go_simp⟩) ?_
      refine wpAny_done (by kernel_rfl) ?_ _
      go_wp2_with fail
      go_ret
      exact ⟨by kernel_rfl, H67.out⟩
    · go_simp
      refine hK _ _ ?_
      clear hK K
      refine wpAny_ready (rs := [22, 24]) (by kernel_rfl) (by simp) ?_
      refine AllReady.cons rfl (fun K hK => ?_) (AllReady.cons rfl (fun K hK => ?_) AllReady.nil)
      · go_simp
        refine hK _ _ ?_
        clear hK K
        refine wpAny_ready (rs := [24]) (by kernel_rfl) (by simp) ?_
        refine AllReady.cons rfl (fun K hK => ?_) AllReady.nil
        go_simp
        refine hK _ _ ?_
        clear hK K
        refine wpAny_ready (rs := [25]) (by kernel_rfl) (by simp) ?_
        refine AllReady.cons rfl (fun K hK => ?_) AllReady.nil
        go_simp
        refine (HSm.out _ L1 (some ⟨wd.heap.size, 0, none⟩) c2 1 ((HL.out.keep hbd).keep (bBox wd _)) (elems_one wd)).mono ?_
        rintro e w7 ⟨rfl, hb7⟩
        refine hK _ _ ?_
        clear hK K
        have h67 := bUp (bBox wd _) hb7
        have d5 := cell_keep h67 d4
        have g2 := cell_keep h67 g0
        have g3 := cell_keep h67 g1
        have H67 := Lib.hid (bUp H06.out (bUp hbd h67))
        clear hb7 h67
        refine wpAny_take (i := 26) (v := .bool true) rfl (by kernel_rfl) (by kernel_rfl) (by kernel_rfl) (fun _ _ _ h => h) (Or.inl ⟨by kernel_rfl, fun w => by go_simp⟩) ?_
        refine wpAny_take (i := 27) (v := .bool true) rfl (by kernel_rfl) (by kernel_rfl) (by kernel_rfl) (fun _ _ _ h => h) (Or.inl ⟨by kernel_rfl, fun w => by go_simp⟩) ?_
        refine wpAny_take (i := 28) (v := .pointer (some ⟨w2.heap.size, 4, none⟩)) rfl (by kernel_rfl) (by kernel_rfl) (by kernel_rfl) (fun _ _ _ h => h) (Or.inl ⟨by kernel_rfl, fun w => by go_simp⟩) ?_
        refine wpAny_ready (rs := [29]) (by kernel_rfl) (by simp) ?_
        refine AllReady.cons rfl (fun K hK => ?_) AllReady.nil
        go_simp
        refine hK _ _ ?_
        clear hK K
        refine wpAny_take (i := 30) (v := .bool true) rfl (by kernel_rfl) (by kernel_rfl) (by kernel_rfl) (fun _ _ _ h => h) (Or.inl ⟨by kernel_rfl, fun w => by go_simp⟩) ?_
        refine wpAny_take (i := 31) (v := .bool true) rfl (by kernel_rfl) (by kernel_rfl) (by kernel_rfl) (fun _ _ _ h => h) (Or.inl ⟨by kernel_rfl, fun w => by go_simp⟩) ?_
        refine wpAny_take (i := 32) (v := .bool true) rfl (by kernel_rfl) (by kernel_rfl) (by kernel_rfl) (fun _ _ _ h => h) (Or.inl ⟨by kernel_rfl, fun w => by go_simp⟩) ?_
        refine wpAny_take (i := 34) (v := .agg #[.int .i64 3, .int .i64 2]) rfl (by kernel_rfl) (by kernel_rfl) (by kernel_rfl) (fun _ _ _ h => h) (Or.inl ⟨by kernel_rfl, fun w => by go_simp⟩) ?_
        refine wpAny_ready (rs := [33]) (by kernel_rfl) (by simp) ?_
        refine AllReady.cons rfl (fun K hK => ?_) AllReady.nil
        go_simp
        refine hK _ _ ?_
        clear hK K
        refine wpAny_take (i := 35) (v := .bool true) rfl (by kernel_rfl) (by kernel_rfl) (by kernel_rfl) (fun _ _ _ h => h) (Or.inl ⟨by kernel_rfl, fun w => by go_simp⟩) ?_
        refine wpAny_take (i := 36) (v := .bool true) rfl (by kernel_rfl) (by kernel_rfl) (by kernel_rfl) (fun _ _ _ h => h) (Or.inl ⟨by kernel_rfl, fun w => by go_simp⟩) ?_
        refine wpAny_take (i := 37) (v := .bool true) rfl (by kernel_rfl) (by kernel_rfl) (by kernel_rfl) (fun _ _ _ h => h) (Or.inl ⟨by kernel_rfl, fun w => by go_simp⟩) ?_
        refine wpAny_take (i := 38) (v := .string S2) rfl (by kernel_rfl) (by kernel_rfl) (by kernel_rfl) (fun _ _ _ h => h) (Or.inl ⟨by kernel_rfl, fun w => by go_simp⟩) ?_
        refine wpAny_take (i := 39) (v := .bool true) rfl (by kernel_rfl) (by kernel_rfl) (by kernel_rfl) (fun _ _ _ h => h) (Or.inl ⟨by kernel_rfl, fun w => by go_simp⟩) ?_
        refine wpAny_take (i := 40) (v := .bool true) rfl (by kernel_rfl) (by kernel_rfl) (by kernel_rfl) (fun _ _ _ h => h) (Or.inl ⟨by kernel_rfl, fun w => by go_simp⟩) ?_
        refine wpAny_take (i := 41) (v := .bool true) rfl (by kernel_rfl) (by kernel_rfl) (by kernel_rfl) (fun _ _ _ h => h) (Or.inl ⟨by kernel_rfl, fun w => by go_simp⟩) ?_
        refine wpAny_take (i := 42) (v := .int .i64 0) rfl (by kernel_rfl) (by kernel_rfl) (by kernel_rfl) (fun _ _ _ h => h) (Or.inl ⟨by kernel_rfl, fun w => by go_simp⟩) ?_
        refine wpAny_take (i := 43) (v := .bool true) rfl (by kernel_rfl) (by kernel_rfl) (by kernel_rfl) (fun _ _ _ h => h) (Or.inl ⟨by kernel_rfl, fun w => by go_simp⟩) ?_
        refine wpAny_take (i := 44) (v := .bool true) rfl (by kernel_rfl) (by kernel_rfl) (by kernel_rfl) (fun _ _ _ h => h) (Or.inl ⟨by kernel_rfl, fun w => by go_simp⟩) ?_
        refine wpAny_take (i := 45) (v := .bool true) rfl (by kernel_rfl) (by kernel_rfl) (by kernel_rfl) (fun _ _ _ h => h) (Or.inl ⟨by kernel_rfl, fun w => by go_simp⟩) ?_
        refine wpAny_done (by kernel_rfl) ?_ _
        go_wp2_with fail
        go_ret
        exact ⟨by kernel_rfl, H67.out⟩
      · go_simp
        refine hK _ _ ?_
        clear hK K
        refine wpAny_ready (rs := [22]) (by kernel_rfl) (by simp) ?_
        refine AllReady.cons rfl (fun K hK => ?_) AllReady.nil
        go_simp
        refine hK _ _ ?_
        clear hK K
        refine wpAny_ready (rs := [25]) (by kernel_rfl) (by simp) ?_
        refine AllReady.cons rfl (fun K hK => ?_) AllReady.nil
        go_simp
        refine (HSm.out _ L1 (some ⟨wd.heap.size, 0, none⟩) c2 1 ((HL.out.keep hbd).keep (bBox wd _)) (elems_one wd)).mono ?_
        rintro e w7 ⟨rfl, hb7⟩
        refine hK _ _ ?_
        clear hK K
        have h67 := bUp (bBox wd _) hb7
        have d5 := cell_keep h67 d4
        have g2 := cell_keep h67 g0
        have g3 := cell_keep h67 g1
        have H67 := Lib.hid (bUp H06.out (bUp hbd h67))
        clear hb7 h67
        refine wpAny_take (i := 26) (v := .bool true) rfl (by kernel_rfl) (by kernel_rfl) (by kernel_rfl) (fun _ _ _ h => h) (Or.inl ⟨by kernel_rfl, fun w => by go_simp⟩) ?_
        refine wpAny_take (i := 27) (v := .bool true) rfl (by kernel_rfl) (by kernel_rfl) (by kernel_rfl) (fun _ _ _ h => h) (Or.inl ⟨by kernel_rfl, fun w => by go_simp⟩) ?_
        refine wpAny_take (i := 28) (v := .pointer (some ⟨w2.heap.size, 4, none⟩)) rfl (by kernel_rfl) (by kernel_rfl) (by kernel_rfl) (fun _ _ _ h => h) (Or.inl ⟨by kernel_rfl, fun w => by go_simp⟩) ?_
        refine wpAny_ready (rs := [29]) (by kernel_rfl) (by simp) ?_
        refine AllReady.cons rfl (fun K hK => ?_) AllReady.nil
        go_simp
        refine hK _ _ ?_
        clear hK K
        refine wpAny_take (i := 30) (v := .bool true) rfl (by kernel_rfl) (by kernel_rfl) (by kernel_rfl) (fun _ _ _ h => h) (Or.inl ⟨by kernel_rfl, fun w => by go_simp⟩) ?_
        refine wpAny_take (i := 31) (v := .bool true) rfl (by kernel_rfl) (by kernel_rfl) (by kernel_rfl) (fun _ _ _ h => h) (Or.inl ⟨by kernel_rfl, fun w => by go_simp⟩) ?_
        refine wpAny_take (i := 32) (v := .bool true) rfl (by kernel_rfl) (by kernel_rfl) (by kernel_rfl) (fun _ _ _ h => h) (Or.inl ⟨by kernel_rfl, fun w => by go_simp⟩) ?_
        refine wpAny_take (i := 34) (v := .agg #[.int .i64 3, .int .i64 2]) rfl (by kernel_rfl) (by kernel_rfl) (by kernel_rfl) (fun _ _ _ h => h) (Or.inl ⟨by kernel_rfl, fun w => by go_simp⟩) ?_
        refine wpAny_ready (rs := [33]) (by kernel_rfl) (by simp) ?_
        refine AllReady.cons rfl (fun K hK => ?_) AllReady.nil
        go_simp
        refine hK _ _ ?_
        clear hK K
        refine wpAny_take (i := 35) (v := .bool true) rfl (by kernel_rfl) (by kernel_rfl) (by kernel_rfl) (fun _ _ _ h => h) (Or.inl ⟨by kernel_rfl, fun w => by go_simp⟩) ?_
        refine wpAny_take (i := 36) (v := .bool true) rfl (by kernel_rfl) (by kernel_rfl) (by kernel_rfl) (fun _ _ _ h => h) (Or.inl ⟨by kernel_rfl, fun w => by go_simp⟩) ?_
        refine wpAny_take (i := 37) (v := .bool true) rfl (by kernel_rfl) (by kernel_rfl) (by kernel_rfl) (fun _ _ _ h => h) (Or.inl ⟨by kernel_rfl, fun w => by go_simp⟩) ?_
        refine wpAny_take (i := 38) (v := .string S2) rfl (by kernel_rfl) (by kernel_rfl) (by kernel_rfl) (fun _ _ _ h => h) (Or.inl ⟨by kernel_rfl, fun w => by go_simp⟩) ?_
        refine wpAny_take (i := 39) (v := .bool true) rfl (by kernel_rfl) (by kernel_rfl) (by kernel_rfl) (fun _ _ _ h => h) (Or.inl ⟨by kernel_rfl, fun w => by go_simp⟩) ?_
        refine wpAny_take (i := 40) (v := .bool true) rfl (by kernel_rfl) (by kernel_rfl) (by kernel_rfl) (fun _ _ _ h => h) (Or.inl ⟨by kernel_rfl, fun w => by go_simp⟩) ?_
        refine wpAny_take (i := 41) (v := .bool true) rfl (by kernel_rfl) (by kernel_rfl) (by kernel_rfl) (fun _ _ _ h => h) (Or.inl ⟨by kernel_rfl, fun w => by go_simp⟩) ?_
        refine wpAny_take (i := 42) (v := .int .i64 0) rfl (by kernel_rfl) (by kernel_rfl) (by kernel_rfl) (fun _ _ _ h => h) (Or.inl ⟨by kernel_rfl, fun w => by go_simp⟩) ?_
        refine wpAny_take (i := 43) (v := .bool true) rfl (by kernel_rfl) (by kernel_rfl) (by kernel_rfl) (fun _ _ _ h => h) (Or.inl ⟨by kernel_rfl, fun w => by go_simp⟩) ?_
        refine wpAny_take (i := 44) (v := .bool true) rfl (by kernel_rfl) (by kernel_rfl) (by kernel_rfl) (fun _ _ _ h => h) (Or.inl ⟨by kernel_rfl, fun w => by go_simp⟩) ?_
        refine wpAny_take (i := 45) (v := .bool true) rfl (by kernel_rfl) (by kernel_rfl) (by kernel_rfl) (fun _ _ _ h => h) (Or.inl ⟨by kernel_rfl, fun w => by go_simp⟩) ?_
        refine wpAny_done (by kernel_rfl) ?_ _
        go_wp2_with fail
        go_ret
        exact ⟨by kernel_rfl, H67.out⟩
  · go_simp
    refine hK _ _ ?_
    clear hK K
    refine wpAny_ready (rs := [19, 24]) (by kernel_rfl) (by simp) ?_
    refine AllReady.cons rfl (fun K hK => ?_) (AllReady.cons rfl (fun K hK => ?_) AllReady.nil)
    · go_simp
      refine hK _ _ ?_
      clear hK K
      refine wpAny_take (i := 20) (v := .pointer (some ⟨b1, o1, none⟩)) rfl (by kernel_rfl) (by kernel_rfl) (by kernel_rfl) (fun _ _ _ h => h) (Or.inl ⟨by kernel_rfl, fun w => by go_simp⟩) ?_
      refine wpAny_take (i := 21) (v := .pointer (some ⟨b1, o1 + 1, none⟩)) rfl (by kernel_rfl) (by kernel_rfl) (by kernel_rfl) (fun _ _ _ h => h) (Or.inl ⟨by kernel_rfl, fun w => by go_simp⟩) ?_
      refine wpAny_ready (rs := [22, 24]) (by kernel_rfl) (by simp) ?_
      refine AllReady.cons rfl (fun K hK => ?_) (AllReady.cons rfl (fun K hK => ?_) AllReady.nil)
      · go_simp
        refine hK _ _ ?_
        clear hK K
        refine wpAny_ready (rs := [24]) (by kernel_rfl) (by simp) ?_
        refine AllReady.cons rfl (fun K hK => ?_) AllReady.nil
        go_simp
        refine hK _ _ ?_
        clear hK K
        refine wpAny_ready (rs := [25]) (by kernel_rfl) (by simp) ?_
        refine AllReady.cons rfl (fun K hK => ?_) AllReady.nil
        go_simp
        refine (HSm.out _ L1 (some ⟨wd.heap.size, 0, none⟩) c2 1 ((HL.out.keep hbd).keep (bBox wd _)) (elems_one wd)).mono ?_
        rintro e w7 ⟨rfl, hb7⟩
        refine hK _ _ ?_
        clear hK K
        have h67 := bUp (bBox wd _) hb7
        have d5 := cell_keep h67 d4
        have g2 := cell_keep h67 g0
        have g3 := cell_keep h67 g1
        have H67 := Lib.hid (bUp H06.out (bUp hbd h67))
        clear hb7 h67
        refine wpAny_take (i := 26) (v := .bool true) rfl (by kernel_rfl) (by kernel_rfl) (by kernel_rfl) (fun _ _ _ h => h) (Or.inl ⟨by kernel_rfl, fun w => by go_simp⟩) ?_
        refine wpAny_take (i := 27) (v := .bool true) rfl (by kernel_rfl) (by kernel_rfl) (by kernel_rfl) (fun _ _ _ h => h) (Or.inl ⟨by kernel_rfl, fun w => by go_simp⟩) ?_
        refine wpAny_take (i := 28) (v := .pointer (some ⟨w2.heap.size, 4, none⟩)) rfl (by kernel_rfl) (by kernel_rfl) (by kernel_rfl) (fun _ _ _ h => h) (Or.inl ⟨by kernel_rfl, fun w => by go_simp⟩) ?_
        refine wpAny_ready (rs := [29]) (by kernel_rfl) (by simp) ?_
        refine AllReady.cons rfl (fun K hK => ?_) AllReady.nil
        go_simp
        refine hK _ _ ?_
        clear hK K
        refine wpAny_take (i := 30) (v := .bool true) rfl (by kernel_rfl) (by kernel_rfl) (by kernel_rfl) (fun _ _ _ h => h) (Or.inl ⟨by kernel_rfl, fun w => by go_simp⟩) ?_
        refine wpAny_take (i := 31) (v := .bool true) rfl (by kernel_rfl) (by kernel_rfl) (by kernel_rfl) (fun _ _ _ h => h) (Or.inl ⟨by kernel_rfl, fun w => by go_simp⟩) ?_
        refine wpAny_take (i := 32) (v := .bool true) rfl (by kernel_rfl) (by kernel_rfl) (by kernel_rfl) (fun _ _ _ h => h) (Or.inl ⟨by kernel_rfl, fun w => by go_simp⟩) ?_
        refine wpAny_take (i := 34) (v := .agg #[.int .i64 3, .int .i64 2]) rfl (by kernel_rfl) (by kernel_rfl) (by kernel_rfl) (fun _ _ _ h => h) (Or.inl ⟨by kernel_rfl, fun w => by go_simp⟩) ?_
        refine wpAny_ready (rs := [33]) (by kernel_rfl) (by simp) ?_
        refine AllReady.cons rfl (fun K hK => ?_) AllReady.nil
        go_simp
        refine hK _ _ ?_
        clear hK K
        refine wpAny_take (i := 35) (v := .bool true) rfl (by kernel_rfl) (by kernel_rfl) (by kernel_rfl) (fun _ _ _ h => h) (Or.inl ⟨by kernel_rfl, fun w => by go_simp⟩) ?_
        refine wpAny_take (i := 36) (v := .bool true) rfl (by kernel_rfl) (by kernel_rfl) (by kernel_rfl) (fun _ _ _ h => h) (Or.inl ⟨by kernel_rfl, fun w => by go_simp⟩) ?_
        refine wpAny_take (i := 37) (v := .bool true) rfl (by kernel_rfl) (by kernel_rfl) (by kernel_rfl) (fun _ _ _ h => h) (Or.inl ⟨by kernel_rfl, fun w => by go_simp⟩) ?_
        refine wpAny_take (i := 38) (v := .string S2) rfl (by kernel_rfl) (by kernel_rfl) (by kernel_rfl) (fun _ _ _ h => h) (Or.inl ⟨by kernel_rfl, fun w => by go_simp⟩) ?_
        refine wpAny_take (i := 39) (v := .bool true) rfl (by kernel_rfl) (by kernel_rfl) (by kernel_rfl) (fun _ _ _ h => h) (Or.inl ⟨by kernel_rfl, fun w => by go_simp⟩) ?_
        refine wpAny_take (i := 40) (v := .bool true) rfl (by kernel_rfl) (by kernel_rfl) (by kernel_rfl) (fun _ _ _ h => h) (Or.inl ⟨by kernel_rfl, fun w => by go_simp⟩) ?_
        refine wpAny_take (i := 41) (v := .bool true) rfl (by kernel_rfl) (by kernel_rfl) (by kernel_rfl) (fun _ _ _ h => h) (Or.inl ⟨by kernel_rfl, fun w => by go_simp⟩) ?_
        refine wpAny_take (i := 42) (v := .int .i64 0) rfl (by kernel_rfl) (by kernel_rfl) (by kernel_rfl) (fun _ _ _ h => h) (Or.inl ⟨by kernel_rfl, fun w => by go_simp⟩) ?_
        refine wpAny_take (i := 43) (v := .bool true) rfl (by kernel_rfl) (by kernel_rfl) (by kernel_rfl) (fun _ _ _ h => h) (Or.inl ⟨by kernel_rfl, fun w => by go_simp⟩) ?_
        refine wpAny_take (i := 44) (v := .bool true) rfl (by kernel_rfl) (by kernel_rfl) (by kernel_rfl) (fun _ _ _ h => h) (Or.inl ⟨by kernel_rfl, fun w => by go_simp⟩) ?_
        refine wpAny_take (i := 45) (v := .bool true) rfl (by kernel_rfl) (by kernel_rfl) (by kernel_rfl) (fun _ _ _ h => h) (Or.inl ⟨by kernel_rfl, fun w => by go_simp⟩) ?_
        refine wpAny_done (by kernel_rfl) ?_ _
        go_wp2_with fail
        go_ret
        exact ⟨by kernel_rfl, H67.out⟩
      · go_simp
        refine hK _ _ ?_
        clear hK K
        refine wpAny_ready (rs := [22]) (by kernel_rfl) (by simp) ?_
        refine AllReady.cons rfl (fun K hK => ?_) AllReady.nil
        go_simp
        refine hK _ _ ?_
        clear hK K
        refine wpAny_ready (rs := [25]) (by kernel_rfl) (by simp) ?_
        refine AllReady.cons rfl (fun K hK => ?_) AllReady.nil
        go_simp
        refine (HSm.out _ L1 (some ⟨wd.heap.size, 0, none⟩) c2 1 ((HL.out.keep hbd).keep (bBox wd _)) (elems_one wd)).mono ?_
        rintro e w7 ⟨rfl, hb7⟩
        refine hK _ _ ?_
        clear hK K
        have h67 := bUp (bBox wd _) hb7
        have d5 := cell_keep h67 d4
        have g2 := cell_keep h67 g0
        have g3 := cell_keep h67 g1
        have H67 := Lib.hid (bUp H06.out (bUp hbd h67))
        clear hb7 h67
        refine wpAny_take (i := 26) (v := .bool true) rfl (by kernel_rfl) (by kernel_rfl) (by kernel_rfl) (fun _ _ _ h => h) (Or.inl ⟨by kernel_rfl, fun w => by go_simp⟩) ?_
        refine wpAny_take (i := 27) (v := .bool true) rfl (by kernel_rfl) (by kernel_rfl) (by kernel_rfl) (fun _ _ _ h => h) (Or.inl ⟨by kernel_rfl, fun w => by go_simp⟩) ?_
        refine wpAny_take (i := 28) (v := .pointer (some ⟨w2.heap.size, 4, none⟩)) rfl (by kernel_rfl) (by kernel_rfl) (by kernel_rfl) (fun _ _ _ h => h) (Or.inl ⟨by kernel_rfl, fun w => by go_simp⟩) ?_
        refine wpAny_ready (rs := [29]) (by kernel_rfl) (by simp) ?_
        refine AllReady.cons rfl (fun K hK => ?_) AllReady.nil
        go_simp
        refine hK _ _ ?_
        clear hK K
        refine wpAny_take (i := 30) (v := .bool true) rfl (by kernel_rfl) (by kernel_rfl) (by kernel_rfl) (fun _ _ _ h => h) (Or.inl ⟨by kernel_rfl, fun w => by go_simp⟩) ?_
        refine wpAny_take (i := 31) (v := .bool true) rfl (by kernel_rfl) (by kernel_rfl) (by kernel_rfl) (fun _ _ _ h => h) (Or.inl ⟨by kernel_rfl, fun w => by go_simp⟩) ?_
        refine wpAny_take (i := 32) (v := .bool true) rfl (by kernel_rfl) (by kernel_rfl) (by kernel_rfl) (fun _ _ _ h => h) (Or.inl ⟨by kernel_rfl, fun w => by go_simp⟩) ?_
        refine wpAny_take (i := 34) (v := .agg #[.int .i64 3, .int .i64 2]) rfl (by kernel_rfl) (by kernel_rfl) (by kernel_rfl) (fun _ _ _ h => h) (Or.inl ⟨by kernel_rfl, fun w => by go_simp⟩) ?_
        refine wpAny_ready (rs := [33]) (by kernel_rfl) (by simp) ?_
        refine AllReady.cons rfl (fun K hK => ?_) AllReady.nil
        go_simp
        refine hK _ _ ?_
        clear hK K
        refine wpAny_take (i := 35) (v := .bool true) rfl (by kernel_rfl) (by kernel_rfl) (by kernel_rfl) (fun _ _ _ h => h) (Or.inl ⟨by kernel_rfl, fun w => by go_simp⟩) ?_
        refine wpAny_take (i := 36) (v := .bool true) rfl (by kernel_rfl) (by kernel_rfl) (by kernel_rfl) (fun _ _ _ h => h) (Or.inl ⟨by kernel_rfl, fun w => by go_simp⟩) ?_
        refine wpAny_take (i := 37) (v := .bool true) rfl (by kernel_rfl) (by kernel_rfl) (by kernel_rfl) (fun _ _ _ h => h) (Or.inl ⟨by kernel_rfl, fun w => by go_simp⟩) ?_
        refine wpAny_take (i := 38) (v := .string S2) rfl (by kernel_rfl) (by kernel_rfl) (by kernel_rfl) (fun _ _ _ h => h) (Or.inl ⟨by kernel_rfl, fun w => by go_simp⟩) ?_
        refine wpAny_take (i := 39) (v := .bool true) rfl (by kernel_rfl) (by kernel_rfl) (by kernel_rfl) (fun _ _ _ h => h) (Or.inl ⟨by kernel_rfl, fun w => by go_simp⟩) ?_
        refine wpAny_take (i := 40) (v := .bool true) rfl (by kernel_rfl) (by kernel_rfl) (by kernel_rfl) (fun _ _ _ h => h) (Or.inl ⟨by kernel_rfl, fun w => by go_simp⟩) ?_
        refine wpAny_take (i := 41) (v := .bool true) rfl (by kernel_rfl) (by kernel_rfl) (by kernel_rfl) (fun _ _ _ h => h) (Or.inl ⟨by kernel_rfl, fun w => by go_simp⟩) ?_
        refine wpAny_take (i := 42) (v := .int .i64 0) rfl (by kernel_rfl) (by kernel_rfl) (by kernel_rfl) (fun _ _ _ h => h) (Or.inl ⟨by kernel_rfl, fun w => by go_simp⟩) ?_
        refine wpAny_take (i := 43) (v := .bool true) rfl (by kernel_rfl) (by kernel_rfl) (by kernel_rfl) (fun _ _ _ h => h) (Or.inl ⟨by kernel_rfl, fun w => by go_simp⟩) ?_
        refine wpAny_take (i := 44) (v := .bool true) rfl (by kernel_rfl) (by kernel_rfl) (by kernel_rfl) (fun _ _ _ h => h) (Or.inl ⟨by kernel_rfl, fun w => by go_simp⟩) ?_
        refine wpAny_take (i := 45) (v := .bool true) rfl (by kernel_rfl) (by kernel_rfl) (by kernel_rfl) (fun _ _ _ h => h) (Or.inl ⟨by kernel_rfl, fun w => by go_simp⟩) ?_
        refine wpAny_done (by kernel_rfl) ?_ _
        go_wp2_with fail
        go_ret
        exact ⟨by kernel_rfl, H67.out⟩
    · go_simp
      refine hK _ _ ?_
      clear hK K
      refine wpAny_ready (rs := [19]) (by kernel_rfl) (by simp) ?_
      refine AllReady.cons rfl (fun K hK => ?_) AllReady.nil
      go_simp
      refine hK _ _ ?_
      clear hK K
      refine wpAny_take (i := 20) (v := .pointer (some ⟨b1, o1, none⟩)) rfl (by kernel_rfl) (by kernel_rfl) (by kernel_rfl) (fun _ _ _ h => h) (Or.inl ⟨by kernel_rfl, fun w => by go_simp⟩) ?_
      refine wpAny_take (i := 21) (v := .pointer (some ⟨b1, o1 + 1, none⟩)) rfl (by kernel_rfl) (by kernel_rfl) (by kernel_rfl) (fun _ _ _ h => h) (Or.inl ⟨by kernel_rfl, fun w => by go_simp⟩) ?_
      refine wpAny_ready (rs := [22]) (by kernel_rfl) (by simp) ?_
      refine AllReady.cons rfl (fun K hK => ?_) AllReady.nil
      go_simp
      refine hK _ _ ?_
      clear hK K
      refine wpAny_ready (rs := [25]) (by kernel_rfl) (by simp) ?_
      refine AllReady.cons rfl (fun K hK => ?_) AllReady.nil
      go_simp
      refine (HSm.out _ L1 (some ⟨wd.heap.size, 0, none⟩) c2 1 ((HL.out.keep hbd).keep (bBox wd _)) (elems_one wd)).mono ?_
      rintro e w7 ⟨rfl, hb7⟩
      refine hK _ _ ?_
      clear hK K
      have h67 := bUp (bBox wd _) hb7
      have d5 := cell_keep h67 d4
      have g2 := cell_keep h67 g0
      have g3 := cell_keep h67 g1
      have H67 := Lib.hid (bUp H06.out (bUp hbd h67))
      clear hb7 h67
      refine wpAny_take (i := 26) (v := .bool true) rfl (by kernel_rfl) (by kernel_rfl) (by kernel_rfl) (fun _ _ _ h => h) (Or.inl ⟨by kernel_rfl, fun w => by go_simp⟩) ?_
      refine wpAny_take (i := 27) (v := .bool true) rfl (by kernel_rfl) (by kernel_rfl) (by kernel_rfl) (fun _ _ _ h => h) (Or.inl ⟨by kernel_rfl, fun w => by go_simp⟩) ?_
      refine wpAny_take (i := 28) (v := .pointer (some ⟨w2.heap.size, 4, none⟩)) rfl (by kernel_rfl) (by kernel_rfl) (by kernel_rfl) (fun _ _ _ h => h) (Or.inl ⟨by kernel_rfl, fun w => by go_simp⟩) ?_
      refine wpAny_ready (rs := [29]) (by kernel_rfl) (by simp) ?_
      refine AllReady.cons rfl (fun K hK => ?_) AllReady.nil
      go_simp
      refine hK _ _ ?_
      clear hK K
      refine wpAny_take (i := 30) (v := .bool true) rfl (by kernel_rfl) (by kernel_rfl) (by kernel_rfl) (fun _ _ _ h => h) (Or.inl ⟨by kernel_rfl, fun w => by go_simp⟩) ?_
      refine wpAny_take (i := 31) (v := .bool true) rfl (by kernel_rfl) (by kernel_rfl) (by kernel_rfl) (fun _ _ _ h => h) (Or.inl ⟨by kernel_rfl, fun w => by go_simp⟩) ?_
      refine wpAny_take (i := 32) (v := .bool true) rfl (by kernel_rfl) (by kernel_rfl) (by kernel_rfl) (fun _ _ _ h => h) (Or.inl ⟨by kernel_rfl, fun w => by go_simp⟩) ?_
      refine wpAny_take (i := 34) (v := .agg #[.int .i64 3, .int .i64 2]) rfl (by kernel_rfl) (by kernel_rfl) (by kernel_rfl) (fun _ _ _ h => h) (Or.inl ⟨by kernel_rfl, fun w => by go_simp⟩) ?_
      refine wpAny_ready (rs := [33]) (by kernel_rfl) (by simp) ?_
      refine AllReady.cons rfl (fun K hK => ?_) AllReady.nil
      go_simp
      refine hK _ _ ?_
      clear hK K
      refine wpAny_take (i := 35) (v := .bool true) rfl (by kernel_rfl) (by kernel_rfl) (by kernel_rfl) (fun _ _ _ h => h) (Or.inl ⟨by kernel_rfl, fun w => by go_simp⟩) ?_
      refine wpAny_take (i := 36) (v := .bool true) rfl (by kernel_rfl) (by kernel_rfl) (by kernel_rfl) (fun _ _ _ h => h) (Or.inl ⟨by kernel_rfl, fun w => by go_simp⟩) ?_
      refine wpAny_take (i := 37) (v := .bool true) rfl (by kernel_rfl) (by kernel_rfl) (by kernel_rfl) (fun _ _ _ h => h) (Or.inl ⟨by kernel_rfl, fun w => by go_simp⟩) ?_
      refine wpAny_take (i := 38) (v := .string S2) rfl (by kernel_rfl) (by kernel_rfl) (by kernel_rfl) (fun _ _ _ h => h) (Or.inl ⟨by kernel_rfl, fun w => by go_simp⟩) ?_
      refine wpAny_take (i := 39) (v := .bool true) rfl (by kernel_rfl) (by kernel_rfl) (by kernel_rfl) (fun _ _ _ h => h) (Or.inl ⟨by kernel_rfl, fun w => by go_simp⟩) ?_
      refine wpAny_take (i := 40) (v := .bool true) rfl (by kernel_rfl) (by kernel_rfl) (by kernel_rfl) (fun _ _ _ h => h) (Or.inl ⟨by kernel_rfl, fun w => by go_simp⟩) ?_
      refine wpAny_take (i := 41) (v := .bool true) rfl (by kernel_rfl) (by kernel_rfl) (by kernel_rfl) (fun _ _ _ h => h) (Or.inl ⟨by kernel_rfl, fun w => by go_simp⟩) ?_
      refine wpAny_take (i := 42) (v := .int .i64 0) rfl (by kernel_rfl) (by kernel_rfl) (by kernel_rfl) (fun _ _ _ h => h) (Or.inl ⟨by kernel_rfl, fun w => by go_simp⟩) ?_
      refine wpAny_take (i := 43) (v := .bool true) rfl (by kernel_rfl) (by kernel_rfl) (by kernel_rfl) (fun _ _ _ h => h) (Or.inl ⟨by kernel_rfl, fun w => by go_simp⟩) ?_
      refine wpAny_take (i := 44) (v := .bool true) rfl (by kernel_rfl) (by kernel_rfl) (by kernel_rfl) (fun _ _ _ h => h) (Or.inl ⟨by kernel_rfl, fun w => by go_simp⟩) ?_
      refine wpAny_take (i := 45) (v := .bool true) rfl (by kernel_rfl) (by kernel_rfl) (by kernel_rfl) (fun _ _ _ h => h) (Or.inl ⟨by kernel_rfl, fun w => by go_simp⟩) ?_
      refine wpAny_done (by kernel_rfl) ?_ _
      go_wp2_with fail
      go_ret
      exact ⟨by kernel_rfl, H67.out⟩
end Go.Proofs.YthogkokifiibnaaGreatDoor
