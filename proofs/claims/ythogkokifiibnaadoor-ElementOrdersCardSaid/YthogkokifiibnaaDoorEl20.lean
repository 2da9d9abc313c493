/- checkFile -/
import Derived.Test.YthogkokifiibnaaDoorElP6
namespace Go.Proofs.YthogkokifiibnaaDoor
open Go.RowKit Go.Sort

set_option maxHeartbeats 16000000 in
set_option maxRecDepth 100000 in
theorem elCheckFile (es : List EntryD) (gs : List GroupD) (b s t : Int) (AE AG : Option Addr) (cE cG : Nat) (w : World) (hN : EntsAt w AE es) (hG : GroupsAt w AG gs) (hne : es.length ≤ 100000) (hng : gs.length ≤ 100000) (hcl : ∀ e ∈ es, e.codes.length ≤ 100000) (hll : ∀ e ∈ es, e.els.length ≤ 100000) (hml : ∀ g ∈ gs, g.name.length ≤ 9223372036854775807) :
    Calls Tryd.prog 23 #[.agg #[.slice AE es.length cE, .slice AG gs.length cG, .int .i64 b, .int .i64 s, .int .i64 t]] w fun e w' => e = .returned (.int .i64 (chkF ⟨es, gs, b, s, t⟩)) ∧ Below w.heap.size w w' := by
  by_cases hneg : b < 0 ∨ s < 0 ∨ t < 0
  · have HR := Lib.hid (chkF_neg (es := es) (gs := gs) hneg)
    have HN := Lib.hid hN
    have HG := Lib.hid hG
    have Hcl := Lib.hid hcl
    have Hll := Lib.hid hll
    have Hml := Lib.hid hml
    clear hN hG hcl hll hml
    by_cases h1 : b < 0
    · have d1 : decide (b < 0) = true := decide_eq_true h1
      have Hneg := Lib.hid hneg
      have H1 := Lib.hid h1
      clear hneg h1
      go_enter Tryd.func23, Tryd.ntmps23
      go_wp2_with fail
      go_ret
      exact ⟨by rw [HR.out]; rfl, bBox w _⟩
    · have d1 : decide (b < 0) = false := decide_eq_false h1
      by_cases h2 : s < 0
      · have d2 : decide (s < 0) = true := decide_eq_true h2
        have Hneg := Lib.hid hneg
        have H1 := Lib.hid h1
        have H2 := Lib.hid h2
        clear hneg h1 h2
        go_enter Tryd.func23, Tryd.ntmps23
        go_wp2_with fail
        go_ret
        exact ⟨by rw [HR.out]; rfl, bBox w _⟩
      · have d2 : decide (s < 0) = false := decide_eq_false h2
        have d3 : decide (t < 0) = true := decide_eq_true (by omega)
        have Hneg := Lib.hid hneg
        have H1 := Lib.hid h1
        have H2 := Lib.hid h2
        clear hneg h1 h2
        go_enter Tryd.func23, Tryd.ntmps23
        go_wp2_with fail
        go_ret
        exact ⟨by rw [HR.out]; rfl, bBox w _⟩
  · have d1 : decide (b < 0) = false := decide_eq_false (by omega)
    have d2 : decide (s < 0) = false := decide_eq_false (by omega)
    have d3 : decide (t < 0) = false := decide_eq_false (by omega)
    have HF1 := Lib.hid (fun h => chkF_g (es := es) (gs := gs) (b := b) (s := s) (t := t) h)
    have HF2 := Lib.hid (fun h1 h => chkF_m (es := es) (gs := gs) (b := b) (s := s) (t := t) hneg h1 h)
    have HF3 := Lib.hid (fun h1 h2 h => chkF_v (es := es) (gs := gs) (b := b) (s := s) (t := t) hneg h1 h2 h)
    have HF4 := Lib.hid (fun h1 h2 h3 k d h hk hd => chkF_e (es := es) (gs := gs) (b := b) (s := s) (t := t) hneg h1 h2 h3 (k := k) (d := d) h hk hd)
    have HF5 := Lib.hid (fun h1 h2 h3 h4 => chkF_o (es := es) (gs := gs) (b := b) (s := s) (t := t) hneg h1 h2 h3 h4)
    generalize chkF ⟨es, gs, b, s, t⟩ = cf at HF1 HF2 HF3 HF4 HF5
    have Hneg := Lib.hid hneg
    have HN := Lib.hid hN
    have HG := Lib.hid hG
    have Hcl := Lib.hid hcl
    have Hll := Lib.hid hll
    have Hml := Lib.hid hml
    clear hneg hN hG hcl hll hml
    go_enter Tryd.func23, Tryd.ntmps23
    go_wp2_with fail
    have hB := Blk.new w #[.slice AE es.length cE, .slice AG gs.length cG, .int .i64 b, .int .i64 s, .int .i64 t] 39
    have hw1 := bBox w (.cells #[.slice AE es.length cE, .slice AG gs.length cG, .int .i64 b, .int .i64 s, .int .i64 t] 39)
    generalize w.alloc (.cells #[.slice AE es.length cE, .slice AG gs.length cG, .int .i64 b, .int .i64 s, .int .i64 t] 39) = w1 at hB hw1 ⊢
    have HN1 := Lib.hid (HN.out.keep hw1)
    have HG1 := Lib.hid (HG.out.keep hw1)
    have HB := Lib.hid hB
    clear hB
    clear HN HG
    go_loopw [30] (fun i wr => ∃ k : Nat, k ≤ gs.length ∧ i = .int .i64 k ∧ Hid ((gs.take k).all okG = true) ∧ Below w1.heap.size w1 wr) (fun i _ => gs.length - (intOf i).toNat)
    case atStart => exact ⟨0, Nat.zero_le _, rfl, Lib.hid rfl, Below.refl _ _⟩
    case round =>
      obtain ⟨k, hk, rfl, HK, hbr⟩ := hrel
      by_cases hlt : k < gs.length
      · obtain ⟨b1, o1, rfl, h1, p0, p1, p2⟩ := (HG1.out.keep hbr).at_ hlt
        have hki : (k : Int) < gs.length := by omega
        have hbad := fun h => HF1.out (take_bad (groupAt_get hlt) h)
        have hgood := fun h => take_good (groupAt_get hlt) HK.out h
        generalize groupAt gs k = d at p0 p1 p2 hbad hgood
        obtain ⟨nm, lo, hi⟩ := d
        dsimp only at p0 p1 p2
        by_cases hlo : lo < 0
        · have e1 : decide (lo < 0) = true := decide_eq_true hlo
          have HR := Lib.hid (hbad (by simp [okG, negG, hlo]))
          clear hbad hgood
          have Hlo := Lib.hid hlo
          clear hlo
          go_wp2_with fail
          go_ret
          exact ⟨by rw [HR.out]; rfl, bUp hw1 (bUp hbr (bBox wr _))⟩
        · have e1 : decide (lo < 0) = false := decide_eq_false hlo
          by_cases hhi : hi < 0
          · have e2 : decide (hi < 0) = true := decide_eq_true hhi
            have HR := Lib.hid (hbad (by simp [okG, negG, hhi]))
            clear hbad hgood
            have Hlo := Lib.hid hlo
            have Hhi := Lib.hid hhi
            clear hlo hhi
            go_wp2_with fail
            go_ret
            exact ⟨by rw [HR.out]; rfl, bUp hw1 (bUp hbr (bBox wr _))⟩
          · have e2 : decide (hi < 0) = false := decide_eq_false hhi
            have HR := Lib.hid (hgood (by simp [okG, negG]; omega))
            clear hbad hgood
            have Hlo := Lib.hid hlo
            have Hhi := Lib.hid hhi
            clear hlo hhi
            go_wp2_with fail
            go_roundw
            case rel => exact ⟨k + 1, by omega, by go_num, HR, bUp hbr (bBox wr _)⟩
            case measure => simp [intOf]; omega
      · obtain rfl : k = gs.length := by omega
        have hki : ¬ (gs.length : Int) < gs.length := by omega
        have hA1 := HK.out
        rw [List.take_length] at hA1
        have q1 : wr.cell? ⟨w.heap.size, 1, none⟩ = some (.slice AG gs.length cG) := (HB.out.keep hbr).cell 1
        have HA1 := Lib.hid hA1
        clear hA1
        clear HF1 HK
        go_wp2_with fail
        clear q1
        go_loopw [46] (fun i wr => ∃ k : Nat, k ≤ gs.length ∧ i = .int .i64 k ∧ Hid ((gs.take k).all okM = true) ∧ Below w1.heap.size w1 wr) (fun i _ => gs.length - (intOf i).toNat)
        case atStart => exact ⟨0, Nat.zero_le _, rfl, Lib.hid rfl, hbr⟩
        case round =>
          clear hbr
          obtain ⟨k, hk, rfl, HK, hbr⟩ := hrel
          by_cases hlt : k < gs.length
          · obtain ⟨b1, o1, rfl, h1, p0, p1, p2⟩ := (HG1.out.keep hbr).at_ hlt
            have hki : (k : Int) < gs.length := by omega
            have hbad := fun h => HF2.out HA1.out (take_bad (groupAt_get hlt) h)
            have hgood := fun h => take_good (groupAt_get hlt) HK.out h
            have hmm := Hml.out _ (groupAt_mem hlt)
            generalize groupAt gs k = d at p0 p1 p2 hbad hgood hmm
            obtain ⟨nm, lo, hi⟩ := d
            dsimp only at p0 p1 p2 hmm
            have HNm := Lib.hid (fun w' => elName nm w' hmm)
            cases hnm : nameB nm with
            | false =>
              have HR := Lib.hid (hbad (by simp [okM, hnm]))
              rw [hnm] at HNm
              clear hbad hgood
              have Hnm := Lib.hid hnm
              have Hmm := Lib.hid hmm
              clear hnm hmm
              go_wp2_with fail
              refine (HNm.out _).mono ?_
              rintro e w2 ⟨rfl, rfl⟩
              go_wp2_with fail
              go_ret
              exact ⟨by rw [HR.out]; rfl, bUp hw1 (bUp hbr (bBox wr _))⟩
            | true =>
              have HR := Lib.hid (hgood (by simp [okM, hnm]))
              rw [hnm] at HNm
              clear hbad hgood
              have Hnm := Lib.hid hnm
              have Hmm := Lib.hid hmm
              clear hnm hmm
              go_wp2_with fail
              refine (HNm.out _).mono ?_
              rintro e w2 ⟨rfl, rfl⟩
              go_wp2_with fail
              go_roundw
              case rel => exact ⟨k + 1, by omega, by go_num, HR, bUp hbr (bBox wr _)⟩
              case measure => simp [intOf]; omega
          · obtain rfl : k = gs.length := by omega
            have hki : ¬ (gs.length : Int) < gs.length := by omega
            have hA2 := HK.out
            rw [List.take_length] at hA2
            have q1 : wr.cell? ⟨w.heap.size, 0, none⟩ = some (.slice AE es.length cE) := (HB.out.keep hbr).cell 0
            have HA2 := Lib.hid hA2
            clear hA2
            clear HF2 HK
            go_wp2_with fail
            clear q1
            go_loopw [58] (fun i wr => ∃ k : Nat, k ≤ es.length ∧ i = .int .i64 k ∧ Hid ((es.take k).all okV = true) ∧ Below w1.heap.size w1 wr) (fun i _ => es.length - (intOf i).toNat)
            case atStart => exact ⟨0, Nat.zero_le _, rfl, Lib.hid rfl, hbr⟩
            case round =>
              clear hbr
              obtain ⟨k, hk, rfl, HK, hbr⟩ := hrel
              by_cases hlt : k < es.length
              · obtain ⟨b1, o1, C1, c1, L1, c2, rfl, h1, p0, hI, p1, _⟩ := (HN1.out.keep hbr).at_ hlt
                have hki : (k : Int) < es.length := by omega
                have hbad := fun h => HF3.out HA1.out HA2.out (take_bad (entAt_get hlt) h)
                have hgood := fun h => take_good (entAt_get hlt) HK.out h
                have hmm := Hcl.out _ (entAt_mem hlt)
                generalize entAt es k = d at p0 p1 hI hbad hgood hmm
                obtain ⟨cs, ls⟩ := d
                dsimp only at p0 p1 hI hmm
                have HB2 := Lib.hid hbad
                have HG2 := Lib.hid hgood
                have HI := Lib.hid hI
                clear hbad hgood hI
                go_wp2_with fail
                have hI2 := HI.out.keep (bBox wr (.cells #[.slice C1 cs.length c1, .slice L1 ls.length c2] 50))
                have hb2 := bUp hbr (bBox wr (.cells #[.slice C1 cs.length c1, .slice L1 ls.length c2] 50))
                generalize wr.alloc (.cells #[.slice C1 cs.length c1, .slice L1 ls.length c2] 50) = w2 at hI2 hb2 ⊢
                have HI2 := Lib.hid hI2
                clear hI2
                go_loop [65] (fun i => ∃ m : Nat, m ≤ cs.length ∧ i = .int .i64 m ∧ Hid (allValid cs = allValid (cs.drop m))) (fun i => cs.length - (intOf i).toNat)
                case atStart => exact ⟨0, Nat.zero_le _, rfl, Lib.hid rfl⟩
                case round =>
                  obtain ⟨m, hm, rfl, HEV⟩ := hrel
                  by_cases hlt2 : m < cs.length
                  · obtain ⟨b3, o3, rfl, h3, hc3⟩ := HI2.out.at_ (k := m) hlt2
                    have hE := HEV.out
                    rw [drop_nth hlt2, allValid_cons] at hE
                    have hmi : (m : Int) < cs.length := by omega
                    generalize nth cs m = z at hc3 hE
                    have HV := Lib.hid (fun w' => cpValid z w')
                    cases hv : validB z
                    · rw [hv, Bool.false_and] at hE
                      rw [hv] at HV
                      have HR := Lib.hid (HB2.out hE)
                      have HE := Lib.hid hE
                      have Hv := Lib.hid hv
                      clear hE hv
                      go_wp2_with fail
                      refine (HV.out _).mono ?_
                      rintro e w' ⟨rfl, rfl⟩
                      go_wp2_with fail
                      go_ret
                      exact ⟨by rw [HR.out]; rfl, bUp hw1 hb2⟩
                    · rw [hv, Bool.true_and] at hE
                      rw [hv] at HV
                      have HE := Lib.hid hE
                      have Hv := Lib.hid hv
                      clear hE hv
                      go_wp2_with fail
                      refine (HV.out _).mono ?_
                      rintro e w' ⟨rfl, rfl⟩
                      go_wp2_with fail
                      go_round
                      case rel => exact ⟨m + 1, by omega, by go_num, HE⟩
                      case measure => simp [intOf]; omega
                  · have hE' : allValid cs = true := by rw [HEV.out, List.drop_of_length_le (by omega)]; rfl
                    have HR := Lib.hid (HG2.out hE')
                    obtain rfl : m = cs.length := by omega
                    have hmi : ¬ (cs.length : Int) < cs.length := by omega
                    have HE' := Lib.hid hE'
                    clear hE'
                    go_wp2_with fail
                    go_roundw
                    case rel => exact ⟨k + 1, by omega, by go_num, HR, hb2⟩
                    case measure => simp [intOf]; omega
              · obtain rfl : k = es.length := by omega
                have hki : ¬ (es.length : Int) < es.length := by omega
                have hA3 := HK.out
                rw [List.take_length] at hA3
                have q1 : wr.cell? ⟨w.heap.size, 0, none⟩ = some (.slice AE es.length cE) := (HB.out.keep hbr).cell 0
                have HA3 := Lib.hid hA3
                clear hA3
                clear HF3 HK
                go_wp2_with fail
                clear q1
                go_loopw [77] (fun i wr => ∃ k : Nat, k ≤ es.length ∧ i = .int .i64 k ∧ Hid ((es.take k).all okE = true) ∧ Below w1.heap.size w1 wr) (fun i _ => es.length - (intOf i).toNat)
                case atStart => exact ⟨0, Nat.zero_le _, rfl, Lib.hid rfl, hbr⟩
                case round =>
                  clear hbr
                  obtain ⟨k, hk, rfl, HK, hbr⟩ := hrel
                  by_cases hlt : k < es.length
                  · obtain ⟨b1, o1, C1, c1, L1, c2, rfl, h1, p0, _, p1, hL⟩ := (HN1.out.keep hbr).at_ hlt
                    have hki : (k : Int) < es.length := by omega
                    have hbad := fun h => HF4.out HA1.out HA2.out HA3.out k _ (entAt_get hlt) HK.out h
                    have hgood := fun h => take_good (entAt_get hlt) HK.out h
                    have hmm := Hll.out _ (entAt_mem hlt)
                    generalize entAt es k = d at p0 p1 hL hbad hgood hmm
                    obtain ⟨cs, ls⟩ := d
                    dsimp only at p0 p1 hL hmm hbad
                    have HCk := Lib.hid (fun w' h => elChecks ls L1 c2 w' h (by omega))
                    have HL := Lib.hid hL
                    by_cases hz : chksE ls = 0
                    · have HR := Lib.hid (hgood (by simp [okE, hz]))
                      rw [hz] at HCk
                      clear hbad hgood hL
                      have Hz := Lib.hid hz
                      clear hz
                      go_wp2_with fail
                      refine (HCk.out _ (HL.out.keep (bBox wr _))).mono ?_
                      rintro e w2 ⟨rfl, hb2⟩
                      go_wp2_with fail
                      go_roundw
                      case rel => exact ⟨k + 1, by omega, by go_num, HR, bUp hbr (bUp (bBox wr _) hb2)⟩
                      case measure => simp [intOf]; omega
                    · have HR := Lib.hid (hbad hz)
                      have hne2 : (chksE ls != 0) = true := by simp [hz]
                      clear hbad hgood hL
                      generalize chksE ls = ce at HCk HR hne2
                      have Hz := Lib.hid hz
                      clear hz
                      go_wp2_with fail
                      refine (HCk.out _ (HL.out.keep (bBox wr _))).mono ?_
                      rintro e w2 ⟨rfl, hb2⟩
                      go_wp2_with fail
                      go_ret
                      exact ⟨by rw [HR.out]; rfl, bUp hw1 (bUp hbr (bUp (bBox wr _) hb2))⟩
                  · obtain rfl : k = es.length := by omega
                    have hki : ¬ (es.length : Int) < es.length := by omega
                    have hA4 := HK.out
                    rw [List.take_length] at hA4
                    have HR := Lib.hid (HF5.out HA1.out HA2.out HA3.out hA4)
                    have HA4 := Lib.hid hA4
                    clear hA4
                    go_wp2_with fail
                    go_ret
                    exact ⟨by rw [HR.out]; rfl, bUp hw1 hbr⟩
end Go.Proofs.YthogkokifiibnaaDoor
