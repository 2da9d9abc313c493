/- Few of the reference; a small file is short -/
import Derived.Test.YthogkokifiibnaaGreatDoorR2
import Derived.Test.YthogkokifiibnaaGreatDoorA10
namespace Go.Proofs.YthogkokifiibnaaGreatDoor
open Go.RowKit Go.Sort

def fewE (e : EntryD) : Bool := decide (e.codes.length ≤ 16) && decide (e.els.length ≤ 16)
def fewG (g : GroupD) : Bool := decide (g.name.length ≤ 40)
def fewC (es : List EntryD) (gs : List GroupD) : Bool := decide (es.length ≤ 12) && decide (gs.length ≤ 8) && es.all fewE && gs.all fewG

set_option maxHeartbeats 4000000 in
set_option maxRecDepth 100000 in
theorem rfFew (es : List EntryD) (gs : List GroupD) (b s t : Int) (AE AG : Option Addr) (cE cG : Nat) (w : World) (hN : EntsAt w AE es) (hG : GroupsAt w AG gs) (hne : es.length ≤ 9223372036854775807) (hng : gs.length ≤ 9223372036854775807) (hcl : ∀ e ∈ es, e.codes.length ≤ 9223372036854775807) (hll : ∀ e ∈ es, e.els.length ≤ 9223372036854775807) (hml : ∀ g ∈ gs, g.name.length ≤ 9223372036854775807) :
    Calls Tryz.prog 16 #[.agg #[.slice AE es.length cE, .slice AG gs.length cG, .int .i64 b, .int .i64 s, .int .i64 t]] w fun e w' => e = .returned (.bool (fewC es gs)) ∧ Below w.heap.size w w' := by
  by_cases h12 : es.length ≤ 12
  · have d1 : decide ((12 : Int) < (es.length : Int)) = false := by simp; omega
    by_cases h8 : gs.length ≤ 8
    · have d2 : decide ((8 : Int) < (gs.length : Int)) = false := by simp; omega
      have HF := Lib.hid (show fewC es gs = (es.all fewE && gs.all fewG) by unfold fewC; rw [decide_eq_true h12, decide_eq_true h8]; rfl)
      generalize fewC es gs = fc at HF
      have HN := Lib.hid hN
      have HG := Lib.hid hG
      have Hcl := Lib.hid hcl
      have Hll := Lib.hid hll
      have Hml := Lib.hid hml
      clear hN hG hcl hll hml
      go_enter Tryz.func16, Tryz.ntmps16
      go_wp2_with fail
      have hB := Blk.new w #[.slice AE es.length cE, .slice AG gs.length cG, .int .i64 b, .int .i64 s, .int .i64 t] 35
      have hw1 := bBox w (.cells #[.slice AE es.length cE, .slice AG gs.length cG, .int .i64 b, .int .i64 s, .int .i64 t] 35)
      generalize w.alloc (.cells #[.slice AE es.length cE, .slice AG gs.length cG, .int .i64 b, .int .i64 s, .int .i64 t] 35) = w1 at hB hw1 ⊢
      have q0 : w1.cell? ⟨w.heap.size, 0, none⟩ = some (.slice AE es.length cE) := hB.cell 0
      have q1 : w1.cell? ⟨w.heap.size, 1, none⟩ = some (.slice AG gs.length cG) := hB.cell 1
      have HN1 := Lib.hid (HN.out.keep hw1)
      have HG1 := Lib.hid (HG.out.keep hw1)
      clear hB HN HG
      go_loop [3] (fun i => ∃ k : Nat, k ≤ es.length ∧ i = .int .i64 k ∧ Hid ((es.take k).all fewE = true)) (fun i => es.length - (intOf i).toNat)
      case atStart => exact ⟨0, Nat.zero_le _, rfl, Lib.hid rfl⟩
      case round =>
        obtain ⟨k, hk, rfl, HK⟩ := hrel
        by_cases hlt : k < es.length
        · obtain ⟨b1, o1, C1, c1, L1, c2, rfl, h1, p0, _, p1, _⟩ := HN1.out.at_ hlt
          have hki : (k : Int) < es.length := by omega
          have hbad := fun h => take_bad (p := fewE) (entAt_get hlt) h
          have hgood := fun h => take_good (p := fewE) (entAt_get hlt) HK.out h
          have hm1 := Hcl.out _ (entAt_mem hlt)
          have hm2 := Hll.out _ (entAt_mem hlt)
          generalize entAt es k = d at p0 p1 hbad hgood hm1 hm2
          obtain ⟨cs, ls⟩ := d
          dsimp only at p0 p1 hm1 hm2
          by_cases hc16 : cs.length ≤ 16
          · have e1 : decide ((16 : Int) < (cs.length : Int)) = false := by simp; omega
            have HSm := Lib.hid (fun w' => rfSmall ls L1 c2 w' hm2)
            by_cases hl16 : ls.length ≤ 16
            · have HR := Lib.hid (hgood (by simp [fewE, hc16, hl16]))
              rw [decide_eq_true hl16] at HSm
              have Hc16 := Lib.hid hc16
              have Hl16 := Lib.hid hl16
              clear hc16 hl16
              clear hbad hgood
              go_wp2_with fail
              refine (HSm.out _).mono ?_
              rintro e w2 ⟨rfl, rfl⟩
              go_wp2_with fail
              go_round
              case rel => exact ⟨k + 1, by omega, by go_num, HR⟩
              case measure => simp [intOf]; omega
            · have HR := Lib.hid (show fc = false by rw [HF.out, hbad (by simp [fewE, hl16])]; rfl)
              rw [decide_eq_false hl16] at HSm
              have Hc16 := Lib.hid hc16
              have Hl16 := Lib.hid hl16
              clear hc16 hl16
              clear hbad hgood
              go_wp2_with fail
              refine (HSm.out _).mono ?_
              rintro e w2 ⟨rfl, rfl⟩
              go_wp2_with fail
              go_ret
              exact ⟨by rw [HR.out]; rfl, hw1⟩
          · have e1 : decide ((16 : Int) < (cs.length : Int)) = true := by simp; omega
            have HR := Lib.hid (show fc = false by rw [HF.out, hbad (by simp [fewE, hc16])]; rfl)
            have Hc16 := Lib.hid hc16
            clear hc16
            clear hbad hgood
            go_wp2_with fail
            go_ret
            exact ⟨by rw [HR.out]; rfl, hw1⟩
        · obtain rfl : k = es.length := by omega
          have hki : ¬ (es.length : Int) < es.length := by omega
          have hA1 := HK.out
          rw [List.take_length] at hA1
          have HF2 := Lib.hid (show fc = gs.all fewG by rw [HF.out, hA1]; rfl)
          clear HK hA1 HF
          go_wp2_with fail
          go_loop [4] (fun i => ∃ k : Nat, k ≤ gs.length ∧ i = .int .i64 k ∧ Hid ((gs.take k).all fewG = true)) (fun i => gs.length - (intOf i).toNat)
          case atStart => exact ⟨0, Nat.zero_le _, rfl, Lib.hid rfl⟩
          case round =>
            obtain ⟨k, hk, rfl, HK⟩ := hrel
            by_cases hlt : k < gs.length
            · obtain ⟨b1, o1, rfl, h1, p0, p1, p2⟩ := HG1.out.at_ hlt
              have hki : (k : Int) < gs.length := by omega
              have hbad := fun h => take_bad (p := fewG) (groupAt_get hlt) h
              have hgood := fun h => take_good (p := fewG) (groupAt_get hlt) HK.out h
              have hm1 := Hml.out _ (groupAt_mem hlt)
              generalize groupAt gs k = d at p0 p1 p2 hbad hgood hm1
              obtain ⟨nm, lo, hi⟩ := d
              dsimp only at p0 p1 p2 hm1
              by_cases h40 : nm.length ≤ 40
              · have e1 : decide ((40 : Int) < (nm.length : Int)) = false := by simp; omega
                have HR := Lib.hid (hgood (by simp [fewG, h40]))
                have H40 := Lib.hid h40
                clear h40
                clear hbad hgood
                go_wp2_with fail
                go_round
                case rel => exact ⟨k + 1, by omega, by go_num, HR⟩
                case measure => simp [intOf]; omega
              · have e1 : decide ((40 : Int) < (nm.length : Int)) = true := by simp; omega
                have HR := Lib.hid (show fc = false by rw [HF2.out, hbad (by simp [fewG, h40])])
                have H40 := Lib.hid h40
                clear h40
                clear hbad hgood
                go_wp2_with fail
                go_ret
                exact ⟨by rw [HR.out]; rfl, hw1⟩
            · obtain rfl : k = gs.length := by omega
              have hki : ¬ (gs.length : Int) < gs.length := by omega
              have hA2 := HK.out
              rw [List.take_length] at hA2
              have HR := Lib.hid (show fc = true by rw [HF2.out, hA2])
              have HA2 := Lib.hid hA2
              clear hA2
              go_wp2_with fail
              go_ret
              exact ⟨by rw [HR.out]; rfl, hw1⟩
    · have d2 : decide ((8 : Int) < (gs.length : Int)) = true := by simp; omega
      have HF := Lib.hid (show fewC es gs = false by unfold fewC; rw [decide_eq_false h8]; simp)
      generalize fewC es gs = fc at HF
      have HN := Lib.hid hN
      have HG := Lib.hid hG
      have Hcl := Lib.hid hcl
      have Hll := Lib.hid hll
      have Hml := Lib.hid hml
      have H12 := Lib.hid h12
      have H8 := Lib.hid h8
      clear hN hG hcl hll hml h12 h8
      go_enter Tryz.func16, Tryz.ntmps16
      go_wp2_with fail
      go_ret
      exact ⟨by rw [HF.out]; rfl, bBox w _⟩
  · have d1 : decide ((12 : Int) < (es.length : Int)) = true := by simp; omega
    have HF := Lib.hid (show fewC es gs = false by unfold fewC; rw [decide_eq_false h12]; simp)
    generalize fewC es gs = fc at HF
    have HN := Lib.hid hN
    have HG := Lib.hid hG
    have Hcl := Lib.hid hcl
    have Hll := Lib.hid hll
    have Hml := Lib.hid hml
    have H12 := Lib.hid h12
    clear hN hG hcl hll hml h12
    go_enter Tryz.func16, Tryz.ntmps16
    go_wp2_with fail
    go_ret
    exact ⟨by rw [HF.out]; rfl, bBox w _⟩

/-- what few means -/
structure FewC (es : List EntryD) (gs : List GroupD) : Prop where
  e : es.length ≤ 12
  g : gs.length ≤ 8
  c : ∀ x ∈ es, x.codes.length ≤ 16
  l : ∀ x ∈ es, x.els.length ≤ 16
  n : ∀ x ∈ gs, x.name.length ≤ 40
theorem fewC_yes {es : List EntryD} {gs : List GroupD} (h : fewC es gs = true) : FewC es gs := by
  unfold fewC at h
  simp only [Bool.and_eq_true, decide_eq_true_eq] at h
  obtain ⟨⟨⟨h1, h2⟩, h3⟩, h4⟩ := h
  refine ⟨h1, h2, fun x hx => ?_, fun x hx => ?_, fun x hx => ?_⟩
  · have := List.all_eq_true.1 h3 x hx
    simp [fewE] at this
    exact this.1
  · have := List.all_eq_true.1 h3 x hx
    simp [fewE] at this
    exact this.2
  · have := List.all_eq_true.1 h4 x hx
    simpa [fewG] using this
theorem flat_le {α : Type} {f : α → List UInt8} {m : Nat} : ∀ (l : List α), (∀ x ∈ l, (f x).length ≤ m) → (l.flatMap f).length ≤ m * l.length
  | [], _ => by simp
  | x :: r, h => by
    have h1 := h x (by simp)
    have h2 := flat_le r (fun y hy => h y (by simp [hy]))
    rw [List.flatMap_cons, List.length_append, List.length_cons, Nat.mul_add]
    omega
/-- a small file is short -/
theorem file_short {es : List EntryD} {gs : List GroupD} {b s t : Int} (h : FewC es gs) (ho : OkC ⟨es, gs, b, s, t⟩) (hw : WfC ⟨es, gs, b, s, t⟩) : (fileP ⟨es, gs, b, s, t⟩).length ≤ 10000 := by
  have hb := ho.b
  have w1 := hw.b
  have w2 := hw.s
  have w3 := hw.t
  dsimp only at hb w1 w2 w3
  have h1 : (nl (bLine ⟨es, gs, b, s, t⟩)).length ≤ 100 := by
    have := line3_len (ws := wBase) (ns := [b, s, t]) (fun n hn => by simp at hn; rcases hn with rfl | rfl | rfl <;> omega)
    have e : bLine ⟨es, gs, b, s, t⟩ = lineP wBase [b, s, t] := rfl
    rw [nl_len, e]
    simp only [List.length_cons, List.length_nil, wBase] at this ⊢
    omega
  have h2 : (gs.flatMap fun g => nl (gLine g)).length ≤ 100 * gs.length := flat_le gs (fun g hg => by
    obtain ⟨g1, g2, g3⟩ := ho.g g hg
    obtain ⟨g4, g5⟩ := hw.g g hg
    have hn := name_short g3
    have := line3_len (ws := wGroup ++ 32 :: g.name) (ns := [g.lo, g.hi]) (fun n hn => by simp at hn; rcases hn with rfl | rfl <;> omega)
    have e : gLine g = lineP (wGroup ++ 32 :: g.name) [g.lo, g.hi] := rfl
    rw [nl_len, e]
    simp only [List.length_cons, List.length_nil, List.length_append, wGroup] at this ⊢
    omega)
  have h3 : (es.flatMap fun e => nl (eLine e)).length ≤ 400 * es.length := flat_le es (fun e he => by
    have k1 := h.c e he
    have k2 := h.l e he
    have k3 := codesL_le e.codes
    have k4 := flatE_length e.els
    rw [nl_len]
    unfold eLine
    simp only [List.length_append, List.length_cons, List.length_nil]
    omega)
  have e := file_split ⟨es, gs, b, s, t⟩
  rw [e, List.length_append, List.length_append]
  have k1 := h.e
  have k2 := h.g
  dsimp only
  omega
end Go.Proofs.YthogkokifiibnaaGreatDoor
