/- The chapter's examples: plain. -/
import Derived.Test.YthogkokifiibnaaDoorElP6
namespace Go.Proofs.YthogkokifiibnaaDoor
open Go.RowKit Go.Sort

theorem ito1 : Lib.itoa 1 = [49] := by rw [itoa_dec (by decide)]; exact Lib.decDigits_one (by decide)
theorem ito2 : Lib.itoa 2 = [50] := by rw [itoa_dec (by decide)]; exact Lib.decDigits_one (by decide)
theorem ito3 : Lib.itoa 3 = [51] := by rw [itoa_dec (by decide)]; exact Lib.decDigits_one (by decide)
theorem ito16 : Lib.itoa 16 = [49, 54] := by rw [itoa_dec (by decide)]; exact Lib.decDigits_two (by decide) (by decide)
theorem ito31 : Lib.itoa 31 = [51, 49] := by rw [itoa_dec (by decide)]; exact Lib.decDigits_two (by decide) (by decide)
def latin : List UInt8 := [108, 97, 116, 105, 110]
def gLat : GroupD := ⟨latin, 16, 31⟩
def elA : ElemD := ⟨16, 32, 2, false⟩
def eA : EntryD := ⟨[97], [elA]⟩
def cB : CollD := ⟨[], [], 1, 2, 3⟩
theorem bB : bLine cB = [64, 98, 97, 115, 101, 32, 49, 32, 50, 32, 51] := by simp [bLine, lineP, cB, ito1, ito2, ito3, wBase]
theorem bG : gLine gLat = [64, 103, 114, 111, 117, 112, 32, 108, 97, 116, 105, 110, 32, 49, 54, 32, 51, 49] := by simp [gLine, lineP, gLat, latin, ito16, ito31, wGroup]
theorem bE : eLine eA = [48, 48, 54, 49, 59, 32, 91, 46, 48, 48, 49, 48, 46, 48, 48, 50, 48, 46, 48, 48, 48, 50, 93] := by decide +kernel
theorem stepF_of {s : StF} {l l' : List UInt8} (h : contentP l = contentP l') : stepF s l = stepF s l' := by unfold stepF; rw [h]
theorem okB : OkC cB := ⟨⟨by decide, by decide, by decide⟩, (fun x hx => by cases hx), (fun x hx => by cases hx)⟩
theorem wfB : WfC cB := ⟨by decide, by decide, by decide, fun x hx => by cases hx⟩
theorem namLat : nameB gLat.name = true := by decide +kernel
theorem chkA : chksE eA.els = 0 := by decide +kernel
theorem valA : allValid eA.codes = true := by decide +kernel

def aliveF : List UInt8 := ([64, 98, 97, 115, 101, 32, 49, 32, 50, 32, 51, 10, 64, 103, 114, 111, 117, 112, 32, 108, 97, 116, 105, 110, 32, 49, 54, 32, 51, 49, 32, 35] : List UInt8).append [32, 108, 101, 116, 116, 101, 114, 115, 10, 48, 48, 54, 49, 59, 32, 91, 46, 48, 48, 49, 48, 46, 48, 48, 50, 48, 46, 48, 48, 48, 50, 93, 10]
theorem alive_lines : linesL aliveF = [[64, 98, 97, 115, 101, 32, 49, 32, 50, 32, 51], [64, 103, 114, 111, 117, 112, 32, 108, 97, 116, 105, 110, 32, 49, 54, 32, 51, 49, 32, 35, 32, 108, 101, 116, 116, 101, 114, 115], [48, 48, 54, 49, 59, 32, 91, 46, 48, 48, 49, 48, 46, 48, 48, 50, 48, 46, 48, 48, 48, 50, 93]] := by decide +kernel
theorem alive_content : contentP [64, 103, 114, 111, 117, 112, 32, 108, 97, 116, 105, 110, 32, 49, 54, 32, 51, 49, 32, 35, 32, 108, 101, 116, 116, 101, 114, 115] = [64, 103, 114, 111, 117, 112, 32, 108, 97, 116, 105, 110, 32, 49, 54, 32, 51, 49] := by decide +kernel
theorem alive_parse : parseF aliveF = (⟨[eA], [gLat], 1, 2, 3⟩, (0, 0)) := by
  unfold parseF
  rw [if_neg (by decide), alive_lines, ← bB, ← bE]
  have h1 := step_base okB wfB 0 (0, 0)
  have h2 : stepF ⟨⟨⟨[], [], 1, 2, 3⟩, true⟩, (0, 0), 1⟩ [64, 103, 114, 111, 117, 112, 32, 108, 97, 116, 105, 110, 32, 49, 54, 32, 51, 49, 32, 35, 32, 108, 101, 116, 116, 101, 114, 115] = some ⟨⟨⟨[], [gLat], 1, 2, 3⟩, true⟩, (0, 0), 2⟩ := by
    rw [stepF_of (l' := gLine gLat) (by rw [alive_content, bG]; decide +kernel)]
    exact step_group (g := gLat) (by decide) (by decide) namLat (by decide) (by decide) [] 1 2 3 1 (0, 0)
  have h3 := step_entry (e := eA) valA chkA ⟨[], [gLat], 1, 2, 3⟩ 2 (0, 0)
  have e1 : stepF startF (bLine cB) = some ⟨⟨⟨[], [], 1, 2, 3⟩, true⟩, (0, 0), 1⟩ := h1
  rw [runF, e1]
  dsimp only
  rw [runF, h2]
  dsimp only
  rw [runF, h3]
  rfl
def aliveG : List UInt8 := [64, 98, 97, 115, 101, 32, 49, 32, 50, 32, 51, 10, 48, 48, 54, 49, 59, 10]
theorem aliveG_lines : linesL aliveG = [[64, 98, 97, 115, 101, 32, 49, 32, 50, 32, 51], [48, 48, 54, 49, 59]] := by decide +kernel
theorem alive_fault : parseF aliveG = (zeroC, (3, 2)) := by
  unfold parseF
  rw [if_neg (by decide), aliveG_lines, ← bB]
  have e1 : stepF startF (bLine cB) = some ⟨⟨⟨[], [], 1, 2, 3⟩, true⟩, (0, 0), 1⟩ := step_base okB wfB 0 (0, 0)
  have e2 : stepF ⟨⟨⟨[], [], 1, 2, 3⟩, true⟩, (0, 0), 1⟩ [48, 48, 54, 49, 59] = none := by
    unfold stepF
    rw [show contentP [48, 48, 54, 49, 59] = [48, 48, 54, 49, 59] by decide +kernel]
    unfold stepT
    rw [if_neg (by simp)]
    have hb : baseP ⟨⟨[], [], 1, 2, 3⟩, true⟩ [48, 48, 54, 49, 59] = none := by simp [baseP]
    have hg : groupP ⟨⟨[], [], 1, 2, 3⟩, true⟩ [48, 48, 54, 49, 59] = none := by
      unfold groupP
      rw [decide_eq_false (head_group (by decide))]
      simp
    have he : entryP ⟨⟨[], [], 1, 2, 3⟩, true⟩ [48, 48, 54, 49, 59] = none := by
      unfold entryP entP
      rw [show (Lib.cut [48, 48, 54, 49, 59] [59, 32]).2.2 = false by decide +kernel]
      rfl
    dsimp only
    rw [hb]
    dsimp only
    rw [hg]
    dsimp only
    rw [he]
  rw [runF, e1]
  dsimp only
  rw [runF, e2]
  rfl
theorem alive_text : fileT ⟨[], [gLat], 1, 2, 3⟩ = ([64, 98, 97, 115, 101, 32, 49, 32, 50, 32, 51, 10, 64, 103, 114, 111, 117, 112, 32, 108, 97, 116, 105, 110, 32, 49, 54, 32, 51, 49, 10], 0) := by
  have hc : chkF ⟨[], [gLat], 1, 2, 3⟩ = 0 := by decide +kernel
  unfold fileT
  rw [if_pos hc]
  congr 1
  have e : fileP ⟨[], [gLat], 1, 2, 3⟩ = nl (bLine cB) ++ nl (gLine gLat) := by simp [fileP, fileLs, bLine, cB]
  rw [e, bB, bG]
  rfl
theorem alive_one : textE [elA] = ([91, 46, 48, 48, 49, 48, 46, 48, 48, 50, 48, 46, 48, 48, 48, 50, 93], 0) := by decide +kernel
end Go.Proofs.YthogkokifiibnaaDoor
