/- ElementOrders: Few of the reference, what follows a file, the walk -/
import Derived.Test.YthogkokifiibnaaDoorElL2
namespace Go.Proofs.YthogkokifiibnaaDoor
open Go.RowKit Go.Sort

def fewE (e : EntryD) : Bool := decide (e.codes.length ≤ 16) && decide (e.els.length ≤ 16)
def fewG (g : GroupD) : Bool := decide (g.name.length ≤ 40)
def fewC (es : List EntryD) (gs : List GroupD) : Bool := decide (es.length ≤ 12) && decide (gs.length ≤ 8) && es.all fewE && gs.all fewG

set_option maxHeartbeats 4000000 in
set_option maxRecDepth 100000 in
theorem rfFew (es : List EntryD) (gs : List GroupD) (b s t : Int) (AE AG : Option Addr) (cE cG : Nat) (w : World) (hN : EntsAt w AE es) (hG : GroupsAt w AG gs) (hne : es.length ≤ 9223372036854775807) (hng : gs.length ≤ 9223372036854775807) (hcl : ∀ e ∈ es, e.codes.length ≤ 9223372036854775807) (hll : ∀ e ∈ es, e.els.length ≤ 9223372036854775807) (hml : ∀ g ∈ gs, g.name.length ≤ 9223372036854775807) :
    Calls Tryd.prog 14 #[.agg #[.slice AE es.length cE, .slice AG gs.length cG, .int .i64 b, .int .i64 s, .int .i64 t]] w fun e w' => e = .returned (.bool (fewC es gs)) ∧ Below w.heap.size w w' := by
  by_cases h12 : es.length ≤ 12
  · have d1 : decide ((12 : Int) < (es.length : Int)) = false := by simp; omega
    by_cases h8 : gs.length ≤ 8
    · have d2 : decide ((8 : Int) < (gs.length : Int)) = false := by simp; omega
      have HF := Lib.hid (show fewC es gs = (es.all fewE && gs.all fewG) by unfold fewC; rw [decide_eq_true h12, decide_eq_true h8]; rfl)
      generalize fewC es gs = fc at HF
      have HN := Lib.hid hN
      have HG := Lib.hid hG
      have Hcl := Lib.hid hcl
      have Hll := Lib.hid hll
      have Hml := Lib.hid hml
      clear hN hG hcl hll hml
      go_enter Tryd.func14, Tryd.ntmps14
      go_wp2_with fail
      have hB := Blk.new w #[.slice AE es.length cE, .slice AG gs.length cG, .int .i64 b, .int .i64 s, .int .i64 t] 39
      have hw1 := bBox w (.cells #[.slice AE es.length cE, .slice AG gs.length cG, .int .i64 b, .int .i64 s, .int .i64 t] 39)
      generalize w.alloc (.cells #[.slice AE es.length cE, .slice AG gs.length cG, .int .i64 b, .int .i64 s, .int .i64 t] 39) = w1 at hB hw1 ⊢
      have q0 : w1.cell? ⟨w.heap.size, 0, none⟩ = some (.slice AE es.length cE) := hB.cell 0
      have q1 : w1.cell? ⟨w.heap.size, 1, none⟩ = some (.slice AG gs.length cG) := hB.cell 1
      have HN1 := Lib.hid (HN.out.keep hw1)
      have HG1 := Lib.hid (HG.out.keep hw1)
      clear hB HN HG
      go_loop [3] (fun i => ∃ k : Nat, k ≤ es.length ∧ i = .int .i64 k ∧ Hid ((es.take k).all fewE = true)) (fun i => es.length - (intOf i).toNat)
      case atStart => exact ⟨0, Nat.zero_le _, rfl, Lib.hid rfl⟩
      case round =>
        obtain ⟨k, hk, rfl, HK⟩ := hrel
        by_cases hlt : k < es.length
        · obtain ⟨b1, o1, C1, c1, L1, c2, rfl, h1, p0, _, p1, _⟩ := HN1.out.at_ hlt
          have hki : (k : Int) < es.length := by omega
          have hbad := fun h => take_bad (p := fewE) (entAt_get hlt) h
          have hgood := fun h => take_good (p := fewE) (entAt_get hlt) HK.out h
          have hm1 := Hcl.out _ (entAt_mem hlt)
          have hm2 := Hll.out _ (entAt_mem hlt)
          generalize entAt es k = d at p0 p1 hbad hgood hm1 hm2
          obtain ⟨cs, ls⟩ := d
          dsimp only at p0 p1 hm1 hm2
          by_cases hc16 : cs.length ≤ 16
          · have e1 : decide ((16 : Int) < (cs.length : Int)) = false := by simp; omega
            have HSm := Lib.hid (fun w' => rfSmall ls L1 c2 w' hm2)
            by_cases hl16 : ls.length ≤ 16
            · have HR := Lib.hid (hgood (by simp [fewE, hc16, hl16]))
              rw [decide_eq_true hl16] at HSm
              have Hc16 := Lib.hid hc16
              have Hl16 := Lib.hid hl16
              clear hc16 hl16
              clear hbad hgood
              go_wp2_with fail
              refine (HSm.out _).mono ?_
              rintro e w2 ⟨rfl, rfl⟩
              go_wp2_with fail
              go_round
              case rel => exact ⟨k + 1, by omega, by go_num, HR⟩
              case measure => simp [intOf]; omega
            · have HR := Lib.hid (show fc = false by rw [HF.out, hbad (by simp [fewE, hl16])]; rfl)
              rw [decide_eq_false hl16] at HSm
              have Hc16 := Lib.hid hc16
              have Hl16 := Lib.hid hl16
              clear hc16 hl16
              clear hbad hgood
              go_wp2_with fail
              refine (HSm.out _).mono ?_
              rintro e w2 ⟨rfl, rfl⟩
              go_wp2_with fail
              go_ret
              exact ⟨by rw [HR.out]; rfl, hw1⟩
          · have e1 : decide ((16 : Int) < (cs.length : Int)) = true := by simp; omega
            have HR := Lib.hid (show fc = false by rw [HF.out, hbad (by simp [fewE, hc16])]; rfl)
            have Hc16 := Lib.hid hc16
            clear hc16
            clear hbad hgood
            go_wp2_with fail
            go_ret
            exact ⟨by rw [HR.out]; rfl, hw1⟩
        · obtain rfl : k = es.length := by omega
          have hki : ¬ (es.length : Int) < es.length := by omega
          have hA1 := HK.out
          rw [List.take_length] at hA1
          have HF2 := Lib.hid (show fc = gs.all fewG by rw [HF.out, hA1]; rfl)
          clear HK hA1 HF
          go_wp2_with fail
          go_loop [4] (fun i => ∃ k : Nat, k ≤ gs.length ∧ i = .int .i64 k ∧ Hid ((gs.take k).all fewG = true)) (fun i => gs.length - (intOf i).toNat)
          case atStart => exact ⟨0, Nat.zero_le _, rfl, Lib.hid rfl⟩
          case round =>
            obtain ⟨k, hk, rfl, HK⟩ := hrel
            by_cases hlt : k < gs.length
            · obtain ⟨b1, o1, rfl, h1, p0, p1, p2⟩ := HG1.out.at_ hlt
              have hki : (k : Int) < gs.length := by omega
              have hbad := fun h => take_bad (p := fewG) (groupAt_get hlt) h
              have hgood := fun h => take_good (p := fewG) (groupAt_get hlt) HK.out h
              have hm1 := Hml.out _ (groupAt_mem hlt)
              generalize groupAt gs k = d at p0 p1 p2 hbad hgood hm1
              obtain ⟨nm, lo, hi⟩ := d
              dsimp only at p0 p1 p2 hm1
              by_cases h40 : nm.length ≤ 40
              · have e1 : decide ((40 : Int) < (nm.length : Int)) = false := by simp; omega
                have HR := Lib.hid (hgood (by simp [fewG, h40]))
                have H40 := Lib.hid h40
                clear h40
                clear hbad hgood
                go_wp2_with fail
                go_round
                case rel => exact ⟨k + 1, by omega, by go_num, HR⟩
                case measure => simp [intOf]; omega
              · have e1 : decide ((40 : Int) < (nm.length : Int)) = true := by simp; omega
                have HR := Lib.hid (show fc = false by rw [HF2.out, hbad (by simp [fewG, h40])])
                have H40 := Lib.hid h40
                clear h40
                clear hbad hgood
                go_wp2_with fail
                go_ret
                exact ⟨by rw [HR.out]; rfl, hw1⟩
            · obtain rfl : k = gs.length := by omega
              have hki : ¬ (gs.length : Int) < gs.length := by omega
              have hA2 := HK.out
              rw [List.take_length] at hA2
              have HR := Lib.hid (show fc = true by rw [HF2.out, hA2])
              have HA2 := Lib.hid hA2
              clear hA2
              go_wp2_with fail
              go_ret
              exact ⟨by rw [HR.out]; rfl, hw1⟩
    · have d2 : decide ((8 : Int) < (gs.length : Int)) = true := by simp; omega
      have HF := Lib.hid (show fewC es gs = false by unfold fewC; rw [decide_eq_false h8]; simp)
      generalize fewC es gs = fc at HF
      have HN := Lib.hid hN
      have HG := Lib.hid hG
      have Hcl := Lib.hid hcl
      have Hll := Lib.hid hll
      have Hml := Lib.hid hml
      have H12 := Lib.hid h12
      have H8 := Lib.hid h8
      clear hN hG hcl hll hml h12 h8
      go_enter Tryd.func14, Tryd.ntmps14
      go_wp2_with fail
      go_ret
      exact ⟨by rw [HF.out]; rfl, bBox w _⟩
  · have d1 : decide ((12 : Int) < (es.length : Int)) = true := by simp; omega
    have HF := Lib.hid (show fewC es gs = false by unfold fewC; rw [decide_eq_false h12]; simp)
    generalize fewC es gs = fc at HF
    have HN := Lib.hid hN
    have HG := Lib.hid hG
    have Hcl := Lib.hid hcl
    have Hll := Lib.hid hll
    have Hml := Lib.hid hml
    have H12 := Lib.hid h12
    clear hN hG hcl hll hml h12
    go_enter Tryd.func14, Tryd.ntmps14
    go_wp2_with fail
    go_ret
    exact ⟨by rw [HF.out]; rfl, bBox w _⟩

/-- what few means -/
structure FewC (es : List EntryD) (gs : List GroupD) : Prop where
  e : es.length ≤ 12
  g : gs.length ≤ 8
  c : ∀ x ∈ es, x.codes.length ≤ 16
  l : ∀ x ∈ es, x.els.length ≤ 16
  n : ∀ x ∈ gs, x.name.length ≤ 40
theorem fewC_yes {es : List EntryD} {gs : List GroupD} (h : fewC es gs = true) : FewC es gs := by
  unfold fewC at h
  simp only [Bool.and_eq_true, decide_eq_true_eq] at h
  obtain ⟨⟨⟨h1, h2⟩, h3⟩, h4⟩ := h
  refine ⟨h1, h2, fun x hx => ?_, fun x hx => ?_, fun x hx => ?_⟩
  · have := List.all_eq_true.1 h3 x hx
    simp [fewE] at this
    exact this.1
  · have := List.all_eq_true.1 h3 x hx
    simp [fewE] at this
    exact this.2
  · have := List.all_eq_true.1 h4 x hx
    simpa [fewG] using this
theorem flat_le {α : Type} {f : α → List UInt8} {m : Nat} : ∀ (l : List α), (∀ x ∈ l, (f x).length ≤ m) → (l.flatMap f).length ≤ m * l.length
  | [], _ => by simp
  | x :: r, h => by
    have h1 := h x (by simp)
    have h2 := flat_le r (fun y hy => h y (by simp [hy]))
    rw [List.flatMap_cons, List.length_append, List.length_cons, Nat.mul_add]
    omega
/-- a small file is short -/
theorem file_short {es : List EntryD} {gs : List GroupD} {b s t : Int} (h : FewC es gs) (ho : OkC ⟨es, gs, b, s, t⟩) (hw : WfC ⟨es, gs, b, s, t⟩) : (fileP ⟨es, gs, b, s, t⟩).length ≤ 10000 := by
  have hb := ho.b
  have w1 := hw.b
  have w2 := hw.s
  have w3 := hw.t
  dsimp only at hb w1 w2 w3
  have h1 : (nl (bLine ⟨es, gs, b, s, t⟩)).length ≤ 100 := by
    have := line3_len (ws := wBase) (ns := [b, s, t]) (fun n hn => by simp at hn; rcases hn with rfl | rfl | rfl <;> omega)
    have e : bLine ⟨es, gs, b, s, t⟩ = lineP wBase [b, s, t] := rfl
    rw [nl_len, e]
    simp only [List.length_cons, List.length_nil, wBase] at this ⊢
    omega
  have h2 : (gs.flatMap fun g => nl (gLine g)).length ≤ 100 * gs.length := flat_le gs (fun g hg => by
    obtain ⟨g1, g2, g3⟩ := ho.g g hg
    obtain ⟨g4, g5⟩ := hw.g g hg
    have hn := name_short g3
    have := line3_len (ws := wGroup ++ 32 :: g.name) (ns := [g.lo, g.hi]) (fun n hn => by simp at hn; rcases hn with rfl | rfl <;> omega)
    have e : gLine g = lineP (wGroup ++ 32 :: g.name) [g.lo, g.hi] := rfl
    rw [nl_len, e]
    simp only [List.length_cons, List.length_nil, List.length_append, wGroup] at this ⊢
    omega)
  have h3 : (es.flatMap fun e => nl (eLine e)).length ≤ 400 * es.length := flat_le es (fun e he => by
    have k1 := h.c e he
    have k2 := h.l e he
    have k3 := codesL_le e.codes
    have k4 := flatE_length e.els
    rw [nl_len]
    unfold eLine
    simp only [List.length_append, List.length_cons, List.length_nil]
    omega)
  have e := file_split ⟨es, gs, b, s, t⟩
  rw [e, List.length_append, List.length_append]
  have k1 := h.e
  have k2 := h.g
  dsimp only
  omega

def eA0 : EntryD := ⟨[97], []⟩
theorem eA0_line : eLine eA0 = [48, 48, 54, 49, 59, 32] := by decide +kernel
theorem orders_lines : linesL [64, 98, 97, 115, 101, 32, 49, 32, 50, 32, 51, 10] = [[64, 98, 97, 115, 101, 32, 49, 32, 50, 32, 51]] ∧ linesL [48, 48, 54, 49, 59, 32, 10, 64, 103, 114, 111, 117, 112, 32, 120, 32, 49, 32, 50, 10] = [[48, 48, 54, 49, 59, 32], [64, 103, 114, 111, 117, 112, 32, 120, 32, 49, 32, 50]] ∧ linesL [48, 48, 54, 49, 59, 32, 10] = [[48, 48, 54, 49, 59, 32]] := by decide +kernel
theorem base_again (c : CollD) (f : Int × Int) (n : Nat) : stepF ⟨⟨c, true⟩, f, n⟩ [64, 98, 97, 115, 101, 32, 49, 32, 50, 32, 51] = none := by
  unfold stepF
  rw [show contentP [64, 98, 97, 115, 101, 32, 49, 32, 50, 32, 51] = [64, 98, 97, 115, 101, 32, 49, 32, 50, 32, 51] by decide +kernel]
  unfold stepT
  rw [if_neg (by simp)]
  have hb : baseP ⟨c, true⟩ [64, 98, 97, 115, 101, 32, 49, 32, 50, 32, 51] = none := by simp [baseP]
  have hg : groupP ⟨c, true⟩ [64, 98, 97, 115, 101, 32, 49, 32, 50, 32, 51] = none := by
    unfold groupP
    rw [decide_eq_false (show ¬ piece (splitL 32 [64, 98, 97, 115, 101, 32, 49, 32, 50, 32, 51]) 0 = wGroup by decide +kernel)]
    simp
  have he : entryP ⟨c, true⟩ [64, 98, 97, 115, 101, 32, 49, 32, 50, 32, 51] = none := by
    unfold entryP entP
    rw [show (Lib.cut [64, 98, 97, 115, 101, 32, 49, 32, 50, 32, 51] [59, 32]).2.2 = false by decide +kernel]
    rfl
  dsimp only
  rw [hb]
  dsimp only
  rw [hg]
  dsimp only
  rw [he]
theorem group_late (c : CollD) (hc : 0 < c.entries.length) (f : Int × Int) (n : Nat) : stepF ⟨⟨c, true⟩, f, n⟩ [64, 103, 114, 111, 117, 112, 32, 120, 32, 49, 32, 50] = none := by
  unfold stepF
  rw [show contentP [64, 103, 114, 111, 117, 112, 32, 120, 32, 49, 32, 50] = [64, 103, 114, 111, 117, 112, 32, 120, 32, 49, 32, 50] by decide +kernel]
  unfold stepT
  rw [if_neg (by simp)]
  have hb : baseP ⟨c, true⟩ [64, 103, 114, 111, 117, 112, 32, 120, 32, 49, 32, 50] = none := by simp [baseP]
  have hg : groupP ⟨c, true⟩ [64, 103, 114, 111, 117, 112, 32, 120, 32, 49, 32, 50] = none := by
    unfold groupP
    dsimp only
    rw [decide_eq_true hc]
    simp
  have he : entryP ⟨c, true⟩ [64, 103, 114, 111, 117, 112, 32, 120, 32, 49, 32, 50] = none := by
    unfold entryP entP
    rw [show (Lib.cut [64, 103, 114, 111, 117, 112, 32, 120, 32, 49, 32, 50] [59, 32]).2.2 = false by decide +kernel]
    rfl
  dsimp only
  rw [hb]
  dsimp only
  rw [hg]
  dsimp only
  rw [he]
theorem entry_more (c : CollD) (n : Nat) : stepF ⟨⟨c, true⟩, (0, 0), n⟩ [48, 48, 54, 49, 59, 32] = some ⟨⟨⟨c.entries ++ [eA0], c.groups, c.base, c.second, c.third⟩, true⟩, (0, 0), n + 1⟩ := by
  rw [← eA0_line]
  exact step_entry (e := eA0) (by decide +kernel) (by decide +kernel) c n (0, 0)
theorem orders1 {c : CollD} (h : OkC c) (hw : WfC c) (hl : (fileP c).length ≤ 10000) : parseF (fileP c ++ [64, 98, 97, 115, 101, 32, 49, 32, 50, 32, 51, 10]) = (zeroC, (3, ((1 + c.groups.length + c.entries.length : Nat) : Int) + 1)) := by
  unfold parseF
  rw [if_neg (by simp; omega), run_file h hw, orders_lines.1, runF, base_again]
theorem orders2 {c : CollD} (h : OkC c) (hw : WfC c) (hl : (fileP c).length ≤ 10000) : parseF (fileP c ++ [48, 48, 54, 49, 59, 32, 10, 64, 103, 114, 111, 117, 112, 32, 120, 32, 49, 32, 50, 10]) = (zeroC, (3, ((1 + c.groups.length + c.entries.length + 1 : Nat) : Int) + 1)) := by
  unfold parseF
  rw [if_neg (by simp; omega), run_file h hw, orders_lines.2.1, runF, entry_more]
  dsimp only
  rw [runF, group_late _ (by simp)]
theorem orders3 {c : CollD} (h : OkC c) (hw : WfC c) (hl : (fileP c).length ≤ 10000) : parseF (fileP c ++ [48, 48, 54, 49, 59, 32, 10]) = (⟨c.entries ++ [eA0], c.groups, c.base, c.second, c.third⟩, (0, 0)) := by
  unfold parseF
  rw [if_neg (by simp; omega), run_file h hw, orders_lines.2.2, runF, entry_more]
  dsimp only
  rw [runF]
  rfl

set_option maxHeartbeats 8000000 in
set_option maxRecDepth 100000 in
theorem lawEOrders (es : List EntryD) (gs : List GroupD) (b s t : Int) (AE AG : Option Addr) (cE cG : Nat) (w : World) (hN : EntsAt w AE es) (hG : GroupsAt w AG gs) (hne : es.length ≤ 9223372036854775807) (hng : gs.length ≤ 9223372036854775807) (hcl : ∀ e ∈ es, e.codes.length ≤ 9223372036854775807) (hll : ∀ e ∈ es, e.els.length ≤ 9223372036854775807) (hml : ∀ g ∈ gs, g.name.length ≤ 9223372036854775807) (hw : WfC ⟨es, gs, b, s, t⟩) (hE : EnvF w) :
    Calls Tryd.prog 6 #[.agg #[.slice AE es.length cE, .slice AG gs.length cG, .int .i64 b, .int .i64 s, .int .i64 t]] w fun e w' => e = .returned (.bool true) ∧ Below w.heap.size w w' := by
  have hFw := fun w' h1 h2 => rfFew es gs b s t AE AG cE cG w' h1 h2 hne hng hcl hll hml
  cases hf : fewC es gs with
  | false =>
    rw [hf] at hFw
    have HFw := Lib.hid hFw
    have HN := Lib.hid hN
    have HG := Lib.hid hG
    have Hcl := Lib.hid hcl
    have Hll := Lib.hid hll
    have Hml := Lib.hid hml
    have Hw := Lib.hid hw
    have HE := Lib.hid hE
    have Hf := Lib.hid hf
    clear hFw hN hG hcl hll hml hw hE hf
    go_enter Tryd.func6, Tryd.ntmps6
    go_wp2_with fail
    refine (HFw.out _ (HN.out.keep (bBox w _)) (HG.out.keep (bBox w _))).mono ?_
    rintro e w1 ⟨rfl, hb1⟩
    go_wp2_with fail
    refine (elAlive _ (HE.out.keep (bUp (bBox w _) hb1))).mono ?_
    rintro e w2 ⟨rfl, hb2⟩
    go_wp2_with fail
    go_ret
    exact ⟨rfl, bUp (bUp (bBox w _) hb1) hb2⟩
  | true =>
    rw [hf] at hFw
    have hfw := fewC_yes hf
    have hFT := fun w' h1 h2 h3 => elFileText es gs b s t AE AG cE cG w' h1 h2 h3 (by have := hfw.e; omega) (by have := hfw.g; omega) (fun e he => by have := hfw.c e he; omega) (fun e he => by have := hfw.l e he; omega) hml hw
    have he12 := hfw.e
    have hg8 := hfw.g
    by_cases hc : chkF ⟨es, gs, b, s, t⟩ = 0
    · have hok := chkF_ok hc
      have hsh := file_short hfw hok hw
      have ht : fileT ⟨es, gs, b, s, t⟩ = (fileP ⟨es, gs, b, s, t⟩, 0) := by unfold fileT; rw [if_pos hc]
      rw [ht] at hFT
      have o1 := orders1 hok hw hsh
      have o2 := orders2 hok hw hsh
      have o3 := orders3 hok hw hsh
      dsimp only at hFT o1 o2 o3
      generalize fileP ⟨es, gs, b, s, t⟩ = fp at hFT o1 o2 o3 hsh
      have HP1 := Lib.hid (fun w' hE' => elParseFile (fp ++ [64, 98, 97, 115, 101, 32, 49, 32, 50, 32, 51, 10]) w' hE' (by simp; omega))
      have HP2 := Lib.hid (fun w' hE' => elParseFile (fp ++ [48, 48, 54, 49, 59, 32, 10, 64, 103, 114, 111, 117, 112, 32, 120, 32, 49, 32, 50, 10]) w' hE' (by simp; omega))
      have HP3 := Lib.hid (fun w' hE' => elParseFile (fp ++ [48, 48, 54, 49, 59, 32, 10]) w' hE' (by simp; omega))
      unfold FileOut at HP1 HP2 HP3
      rw [o1] at HP1
      rw [o2] at HP2
      rw [o3] at HP3
      dsimp only at HP1 HP2 HP3
      have k1 : (⟨fp.toArray⟩ : ByteArray) ++ ⟨#[64, 98, 97, 115, 101, 32, 49, 32, 50, 32, 51, 10]⟩ = ⟨(fp ++ [64, 98, 97, 115, 101, 32, 49, 32, 50, 32, 51, 10]).toArray⟩ := catE fp [64, 98, 97, 115, 101, 32, 49, 32, 50, 32, 51, 10]
      have k2 : (⟨fp.toArray⟩ : ByteArray) ++ ⟨#[48, 48, 54, 49, 59, 32, 10, 64, 103, 114, 111, 117, 112, 32, 120, 32, 49, 32, 50, 10]⟩ = ⟨(fp ++ [48, 48, 54, 49, 59, 32, 10, 64, 103, 114, 111, 117, 112, 32, 120, 32, 49, 32, 50, 10]).toArray⟩ := catE fp [48, 48, 54, 49, 59, 32, 10, 64, 103, 114, 111, 117, 112, 32, 120, 32, 49, 32, 50, 10]
      have k3 : (⟨fp.toArray⟩ : ByteArray) ++ ⟨#[48, 48, 54, 49, 59, 32, 10]⟩ = ⟨(fp ++ [48, 48, 54, 49, 59, 32, 10]).toArray⟩ := catE fp [48, 48, 54, 49, 59, 32, 10]
      have l1 : (fp ++ [64, 98, 97, 115, 101, 32, 49, 32, 50, 32, 51, 10]).length ≤ 20000 := by simp; omega
      have l2 : (fp ++ [48, 48, 54, 49, 59, 32, 10, 64, 103, 114, 111, 117, 112, 32, 120, 32, 49, 32, 50, 10]).length ≤ 20000 := by simp; omega
      have l3 : (fp ++ [48, 48, 54, 49, 59, 32, 10]).length ≤ 20000 := by simp; omega
      generalize fp ++ [64, 98, 97, 115, 101, 32, 49, 32, 50, 32, 51, 10] = f1 at HP1 k1 l1
      generalize fp ++ [48, 48, 54, 49, 59, 32, 10, 64, 103, 114, 111, 117, 112, 32, 120, 32, 49, 32, 50, 10] = f2 at HP2 k2 l2
      generalize fp ++ [48, 48, 54, 49, 59, 32, 10] = f3 at HP3 k3 l3
      have hn1 : ((1 + gs.length + es.length : Nat) : Int) + 1 = 1 + (gs.length : Int) + es.length + 1 := by omega
      have hn2 : ((1 + gs.length + es.length + 1 : Nat) : Int) + 1 = 1 + (gs.length : Int) + es.length + 2 := by omega
      rw [hn1] at HP1
      rw [hn2] at HP2
      have hel : (es ++ [eA0]).length = es.length + 1 := by simp
      rw [hel] at HP3
      have v1 : (((es.length + 1 : Nat) : Int) == (es.length : Int) + 1) = true := by simp
      have HFw := Lib.hid hFw
      have HFT := Lib.hid hFT
      have HN := Lib.hid hN
      have HG := Lib.hid hG
      have Hcl := Lib.hid hcl
      have Hll := Lib.hid hll
      have Hml := Lib.hid hml
      have Hw := Lib.hid hw
      have HE := Lib.hid hE
      have Hf := Lib.hid hf
      have Hok := Lib.hid hok
      have Hfw := Lib.hid hfw
      have Hc := Lib.hid hc
      have Ht := Lib.hid ht
      have O1 := Lib.hid o1
      have O2 := Lib.hid o2
      have O3 := Lib.hid o3
      have Hn1 := Lib.hid hn1
      have Hn2 := Lib.hid hn2
      have Hel := Lib.hid hel
      clear hFw hFT hN hG hcl hll hml hw hE hf hok hfw hc ht o1 o2 o3 hn1 hn2 hel
      go_enter Tryd.func6, Tryd.ntmps6
      go_wp2_with fail
      refine (HFw.out _ (HN.out.keep (bBox w _)) (HG.out.keep (bBox w _))).mono ?_
      rintro e w1 ⟨rfl, hb1⟩
      have hB := (Blk.new w #[.slice AE es.length cE, .slice AG gs.length cG, .int .i64 b, .int .i64 s, .int .i64 t] 39).keep hb1
      have h01 := bUp (bBox w (.cells #[.slice AE es.length cE, .slice AG gs.length cG, .int .i64 b, .int .i64 s, .int .i64 t] 39)) hb1
      have a0 : w1.cell? ⟨w.heap.size, 0, none⟩ = some (.slice AE es.length cE) := hB.cell 0
      have a1 : w1.cell? ⟨w.heap.size, 1, none⟩ = some (.slice AG gs.length cG) := hB.cell 1
      have a2 : w1.cell? ⟨w.heap.size, 2, none⟩ = some (.int .i64 b) := hB.cell 2
      have a3 : w1.cell? ⟨w.heap.size, 3, none⟩ = some (.int .i64 s) := hB.cell 3
      have a4 : w1.cell? ⟨w.heap.size, 4, none⟩ = some (.int .i64 t) := hB.cell 4
      have HB := Lib.hid hB
      have H01 := Lib.hid h01
      clear hB h01 hb1
      go_wp2_with fail
      refine (HFT.out _ (HN.out.keep H01.out) (HG.out.keep H01.out) (HE.out.keep H01.out)).mono ?_
      rintro e w2 ⟨rfl, hb2⟩
      have HB2 := Lib.hid (HB.out.keep hb2)
      have H02 := Lib.hid (bUp H01.out hb2)
      have a0 : w2.cell? ⟨w.heap.size, 0, none⟩ = some (.slice AE es.length cE) := HB2.out.cell 0
      have a1 : w2.cell? ⟨w.heap.size, 1, none⟩ = some (.slice AG gs.length cG) := HB2.out.cell 1
      clear hb2 a2 a3 a4 HB H01
      go_wp2_with fail
      refine (HP1.out _ (HE.out.keep H02.out)).mono ?_
      rintro e w3 ⟨E3, e3, G3, g3, rfl, _, _, hb3⟩
      have H03 := Lib.hid (bUp H02.out hb3)
      have HB3 := Lib.hid (HB2.out.keep hb3)
      clear hb3 a0 a1 HB2 H02
      go_wp2_with fail
      refine (HP2.out _ (HE.out.keep (bUp H03.out (bUp (bBox _ _) (bBox _ _))))).mono ?_
      rintro e w4 ⟨E4, e4, G4, g4, rfl, _, _, hb4⟩
      have h34 := bUp (bUp (bBox w3 _) (bBox _ _)) hb4
      have hF3 := (Blk.new (w3.alloc (.cells #[.slice E3 0 e3, .slice G3 0 g3, .int .i64 0, .int .i64 0, .int .i64 0] 39)) #[.int .i64 3, .int .i64 (1 + (gs.length : Int) + es.length + 1)] 43).keep hb4
      rw [show (w3.alloc (.cells #[.slice E3 0 e3, .slice G3 0 g3, .int .i64 0, .int .i64 0, .int .i64 0] 39)).heap.size = w3.heap.size + 1 by simp] at hF3
      have H04 := Lib.hid (bUp H03.out h34)
      have HB4 := Lib.hid (HB3.out.keep h34)
      have HF3 := Lib.hid hF3
      clear hb4 h34 hF3 HB3 H03
      go_wp2_with fail
      refine (HP3.out _ (HE.out.keep (bUp H04.out (bUp (bBox _ _) (bBox _ _))))).mono ?_
      rintro e w5 ⟨E5, e5, G5, g5, rfl, _, _, hb5⟩
      have h45 := bUp (bUp (bBox w4 _) (bBox _ _)) hb5
      have hF4 := (Blk.new (w4.alloc (.cells #[.slice E4 0 e4, .slice G4 0 g4, .int .i64 0, .int .i64 0, .int .i64 0] 39)) #[.int .i64 3, .int .i64 (1 + (gs.length : Int) + es.length + 2)] 43).keep hb5
      rw [show (w4.alloc (.cells #[.slice E4 0 e4, .slice G4 0 g4, .int .i64 0, .int .i64 0, .int .i64 0] 39)).heap.size = w4.heap.size + 1 by simp] at hF4
      have hB5 := HB4.out.keep h45
      have hF5 := HF3.out.keep h45
      have a0 : w5.cell? ⟨w.heap.size, 0, none⟩ = some (.slice AE es.length cE) := hB5.cell 0
      have m0 : w5.cell? ⟨w3.heap.size + 1, 0, none⟩ = some (.int .i64 3) := hF5.cell 0
      have m1 : w5.cell? ⟨w3.heap.size + 1, 1, none⟩ = some (.int .i64 (1 + (gs.length : Int) + es.length + 1)) := hF5.cell 1
      have n0 : w5.cell? ⟨w4.heap.size + 1, 0, none⟩ = some (.int .i64 3) := hF4.cell 0
      have n1 : w5.cell? ⟨w4.heap.size + 1, 1, none⟩ = some (.int .i64 (1 + (gs.length : Int) + es.length + 2)) := hF4.cell 1
      have z1 := hB5.lt
      have z2 := hF5.lt
      have z3 := hF4.lt
      have y1 := Nat.le_of_lt z1
      have y2 := Nat.le_of_lt z2
      have y3 := Nat.le_of_lt z3
      have x1 : w.heap.size ≤ w5.heap.size + 1 := by omega
      have x2 : w3.heap.size + 1 ≤ w5.heap.size + 1 := by omega
      have x3 : w4.heap.size + 1 ≤ w5.heap.size + 1 := by omega
      have u1 : w.heap.size < w5.heap.size + 1 := by omega
      have u2 : w3.heap.size + 1 < w5.heap.size + 1 := by omega
      have u3 : w4.heap.size + 1 < w5.heap.size + 1 := by omega
      have H05 := Lib.hid (bUp H04.out h45)
      clear hb5 h45 hF4 hB5 hF5 HB4 HF3 H04
      go_wp2_with fail
      refine (elAlive _ (HE.out.keep (bUp H05.out (bUp (bBox _ _) (bBox _ _))))).mono ?_
      rintro e w6 ⟨rfl, hb6⟩
      go_wp2_with fail
      go_ret
      exact ⟨rfl, bUp (bUp H05.out (bUp (bBox _ _) (bBox _ _))) hb6⟩
    · have ht : fileT ⟨es, gs, b, s, t⟩ = ([], chkF ⟨es, gs, b, s, t⟩) := by unfold fileT; rw [if_neg hc]
      rw [ht] at hFT
      have q1 : (chkF ⟨es, gs, b, s, t⟩ != 0) = true := by simp [hc]
      dsimp only at hFT
      generalize chkF ⟨es, gs, b, s, t⟩ = ce at hFT q1
      have HFw := Lib.hid hFw
      have HFT := Lib.hid hFT
      have HN := Lib.hid hN
      have HG := Lib.hid hG
      have Hcl := Lib.hid hcl
      have Hll := Lib.hid hll
      have Hml := Lib.hid hml
      have Hw := Lib.hid hw
      have HE := Lib.hid hE
      have Hf := Lib.hid hf
      have Hfw := Lib.hid hfw
      have Ht := Lib.hid ht
      clear hFw hFT hN hG hcl hll hml hw hE hf hfw ht
      clear hc
      go_enter Tryd.func6, Tryd.ntmps6
      go_wp2_with fail
      refine (HFw.out _ (HN.out.keep (bBox w _)) (HG.out.keep (bBox w _))).mono ?_
      rintro e w1 ⟨rfl, hb1⟩
      have hB := (Blk.new w #[.slice AE es.length cE, .slice AG gs.length cG, .int .i64 b, .int .i64 s, .int .i64 t] 39).keep hb1
      have h01 := bUp (bBox w (.cells #[.slice AE es.length cE, .slice AG gs.length cG, .int .i64 b, .int .i64 s, .int .i64 t] 39)) hb1
      have a0 : w1.cell? ⟨w.heap.size, 0, none⟩ = some (.slice AE es.length cE) := hB.cell 0
      have a1 : w1.cell? ⟨w.heap.size, 1, none⟩ = some (.slice AG gs.length cG) := hB.cell 1
      have a2 : w1.cell? ⟨w.heap.size, 2, none⟩ = some (.int .i64 b) := hB.cell 2
      have a3 : w1.cell? ⟨w.heap.size, 3, none⟩ = some (.int .i64 s) := hB.cell 3
      have a4 : w1.cell? ⟨w.heap.size, 4, none⟩ = some (.int .i64 t) := hB.cell 4
      have H01 := Lib.hid h01
      clear hB h01 hb1
      go_wp2_with fail
      refine (HFT.out _ (HN.out.keep H01.out) (HG.out.keep H01.out) (HE.out.keep H01.out)).mono ?_
      rintro e w2 ⟨rfl, hb2⟩
      have H02 := Lib.hid (bUp H01.out hb2)
      go_wp2_with fail
      refine (elAlive _ (HE.out.keep H02.out)).mono ?_
      rintro e w6 ⟨rfl, hb6⟩
      go_wp2_with fail
      go_ret
      exact ⟨rfl, bUp H02.out hb6⟩
end Go.Proofs.YthogkokifiibnaaDoor
