/- reader.entry -/
import Derived.Test.YthogkokifiibnaaDoorEl17
namespace Go.Proofs.YthogkokifiibnaaDoor
open Go.RowKit Go.Sort

/-- strings.Cut at two bytes -/
theorem cutSemi (l : List UInt8) (w : World) (hE : Env w) (hl : l.length < 4294967281) :
    Calls Tryd.prog 26 #[.string ⟨l.toArray⟩, .string ⟨#[59, 32]⟩] w fun e w' => e = .returned (.tuple #[.string ⟨(Lib.cut l [59, 32]).1.toArray⟩, .string ⟨(Lib.cut l [59, 32]).2.1.toArray⟩, .bool (Lib.cut l [59, 32]).2.2]) ∧ Below w.heap.size w w' := by
  obtain ⟨m, hm⟩ := hE.mx
  refine (Tryd.strings_Cut ⟨l.toArray⟩ ⟨#[59, 32]⟩ m w hl hm).mono ?_
  rintro e w' ⟨rfl, n, rfl⟩
  exact ⟨rfl, below_drewN n⟩
theorem cut_len (l s : List UInt8) : (Lib.cut l s).1.length ≤ l.length ∧ (Lib.cut l s).2.1.length ≤ l.length := by
  unfold Lib.cut
  split
  · simp
    omega
  · simp
/-- what entry gives back -/
def EntOut (b : Nat) (eo : Option EntryD) (r0 : RdD) (w : World) (e : Ending) (w' : World) : Prop :=
  match eo with
  | some x => e = .returned (.bool true) ∧ RdAt w' b (addN r0 x) ∧ Below b w w' ∧ KeptT [43] w w'
  | none => e = .returned (.bool false) ∧ RdAt w' b r0 ∧ Below b w w' ∧ KeptT [43] w w'

set_option maxHeartbeats 8000000 in
set_option maxRecDepth 100000 in
theorem elEntry (r : RdD) (b : Nat) (l : List UInt8) (w : World) (hR : RdAt w b r) (hE : EnvF w) (hl : l.length ≤ 65536) (hel : r.c.entries.length ≤ 100000) :
    Calls Tryd.prog 30 #[.pointer (some ⟨b, 0, none⟩), .string ⟨l.toArray⟩] w (EntOut b (entryP r l) r w) := by
  have HC := Lib.hid (cutSemi l w hE.env (by omega))
  have hcl := cut_len l [59, 32]
  have hP : entryP r l = if r.started then (if (Lib.cut l [59, 32]).2.2 = false then none else if (parseCodesR (Lib.cut l [59, 32]).1).2 ≠ 0 then none else (readE (Lib.cut l [59, 32]).2.1).map fun es => ⟨(parseCodesR (Lib.cut l [59, 32]).1).1, es⟩) else none := rfl
  generalize (Lib.cut l [59, 32]).1 = lf at HC hcl hP
  generalize (Lib.cut l [59, 32]).2.1 = rt at HC hcl hP
  generalize (Lib.cut l [59, 32]).2.2 = ok at HC hP
  obtain ⟨hcl1, hcl2⟩ := hcl
  have HP := Lib.hid hP
  clear hP
  have hblt := hR.lt
  have HE := Lib.hid hE
  have HR := Lib.hid hR
  clear hE hR
  go_enter Tryd.func30, Tryd.ntmps30
  go_wp2_with fail
  refine HC.out.mono ?_
  rintro e w1 ⟨rfl, hw1⟩
  have HR1 := Lib.hid (HR.out.keep hw1)
  have HE1 := Lib.hid (HE.out.keep hw1)
  obtain ⟨AE, cE, AG, cG, k0, k1, k2, k3, k4, k5, kf, _⟩ := HR1.out.cells
  clear k0 k1 k2 k3 k4 kf
  have hb1 := hw1.mono (Nat.le_of_lt hblt)
  have hsz1 := hw1.size
  cases hst : r.started with
  | false =>
    rw [hst] at k5
    have HN := Lib.hid (show entryP r l = none by rw [HP.out, hst]; rfl)
    have Hst := Lib.hid hst
    clear hst
    go_wp2_with fail
    go_ret
    unfold EntOut
    rw [HN.out]
    exact ⟨rfl, HR1.out, hb1, KeptT.of_below hw1⟩
  | true =>
    rw [hst] at k5
    cases ok with
    | false =>
      have HN := Lib.hid (show entryP r l = none by rw [HP.out, hst]; rfl)
      have Hst := Lib.hid hst
      clear hst
      go_wp2_with fail
      go_ret
      unfold EntOut
      rw [HN.out]
      exact ⟨rfl, HR1.out, hb1, KeptT.of_below hw1⟩
    | true =>
      have HPC := Lib.hid (esParseCodes lf w1 HE1.out.env (by omega))
      unfold IntsErr at HPC
      by_cases hc : (parseCodesR lf).2 = 0
      · have HRd := Lib.hid (fun w' => elRead rt w' (by omega))
        unfold ReadOut at HRd
        cases hr : readE rt with
        | none =>
          rw [hr] at HRd
          have HN := Lib.hid (show entryP r l = none by rw [HP.out, hst, hr]; simp)
          rw [hc] at HPC
          generalize (parseCodesR lf).1 = cs at HPC
          have Hst := Lib.hid hst
          have Hc := Lib.hid hc
          have Hr := Lib.hid hr
          clear hst hc hr
          go_wp2_with fail
          refine HPC.out.mono ?_
          rintro e w2 ⟨A2, c2, rfl, hO2, hb2⟩
          go_wp2_with fail
          refine (HRd.out _).mono ?_
          rintro e w3 ⟨rfl, hb3⟩
          go_wp2_with fail
          go_ret
          unfold EntOut
          rw [HN.out]
          exact ⟨rfl, (HR1.out.keep hb2).keep hb3, hb1.trans ((bUp hb2 hb3).mono (by omega)), KeptT.of_below (bUp hw1 (bUp hb2 hb3))⟩
        | some es =>
          rw [hr] at HRd
          have hlen := readE_len rt.length (Nat.le_refl _) hr
          have HN := Lib.hid (show entryP r l = some ⟨(parseCodesR lf).1, es⟩ by rw [HP.out, hst, hr]; simp [hc])
          rw [hc] at HPC
          generalize (parseCodesR lf).1 = cs at HPC HN
          have Hst := Lib.hid hst
          have Hc := Lib.hid hc
          have Hr := Lib.hid hr
          have Hlen := Lib.hid hlen
          clear hst hc hr hlen
          go_wp2_with fail
          refine HPC.out.mono ?_
          rintro e w2 ⟨A2, c2, rfl, hO2, hb2⟩
          have HO2 := Lib.hid hO2
          clear hO2
          go_wp2_with fail
          refine (HRd.out _).mono ?_
          rintro e w3 ⟨⟨A3, c3, rfl, hO3⟩, hb3⟩
          have HO3 := Lib.hid hO3
          clear hO3
          have HR3 := Lib.hid ((HR1.out.keep hb2).keep hb3)
          obtain ⟨AE2, cE2, AG2, cG2, j0, j1, j2, j3, j4, j5, jf, hON, hOG, hbl⟩ := HR3.out.cells
          have HON := Lib.hid hON
          have HOG := Lib.hid hOG
          have HBl := Lib.hid hbl
          have hb03 := hb1.trans ((bUp hb2 hb3).mono (by omega))
          have hbw : b ≤ w3.heap.size := Nat.le_of_lt hbl.lt
          clear hbl hON hOG j1 j2 j3 j4 j5 jf k5
          go_wp2_with (at_builtin; refine wpN rfl _ _ rfl b rfl HON.out ⟨cs, es⟩ (CdB.of_own (HO2.out.keep hb3)) (ElB.of_own HO3.out) rfl ?hl6 ?hb6 ?_)
          case hl6 => omega
          case hb6 => exact hbw
          intro v6 w6 HO6 HK6 hb6
          have hB6 : Blk w6 b _ _ := HK6.out b _ _ _ HBl.out (by simp)
          have t1 : w6.cell? ⟨b, 0, none⟩ = some (.slice AE2 r.c.entries.length cE2) := hB6.cell 0
          have t2 : w6.frozen? ⟨b, 0, none⟩ = false := hB6.frozen 0
          obtain ⟨A6, c6, rfl⟩ := HO6.out.form
          have HB6 := Lib.hid hB6
          clear hB6
          go_wp2_with fail
          go_ret
          unfold EntOut
          rw [HN.out]
          have hO6 := HO6.out
          rw [show (r.c.entries ++ [(⟨cs, es⟩ : EntryD)]).length = r.c.entries.length + 1 by simp] at hO6
          exact ⟨rfl, ⟨_, _, HB6.out.put 0 _, hO6.keptT (KeptT.set HB6.out (by decide) 0 _), (HOG.out.keptT (HK6.out.mono (by simp))).keptT (KeptT.set HB6.out (by decide) 0 _)⟩, (hb6 w hb03).setCell (p := ⟨b, 0, none⟩) (Nat.le_refl _) _, ((KeptT.of_below (bUp hw1 (bUp hb2 hb3))).trans (HK6.out.mono (by simp))).trans (KeptT.set HB6.out (by decide) 0 _)⟩
      · have HN := Lib.hid (show entryP r l = none by rw [HP.out, hst]; simp [hc])
        have hne : ((parseCodesR lf).2 != 0) = true := by simp [hc]
        generalize (parseCodesR lf).2 = ce at HPC hne
        generalize (parseCodesR lf).1 = cs at HPC
        have Hst := Lib.hid hst
        have Hc := Lib.hid hc
        clear hst hc
        go_wp2_with fail
        refine HPC.out.mono ?_
        rintro e w2 ⟨A2, c2, rfl, hO2, hb2⟩
        go_wp2_with fail
        go_ret
        unfold EntOut
        rw [HN.out]
        exact ⟨rfl, HR1.out.keep hb2, hb1.trans (hb2.mono (by omega)), KeptT.of_below (bUp hw1 hb2)⟩
end Go.Proofs.YthogkokifiibnaaDoor
