/- LinesValid -/
import Derived.Test.YtafmdeipcepaiaaDoorLnP3
import Derived.Deep.RegionLaw
namespace Go.Proofs.YtafmdeipcepaiaaDoor
open Go.RowKit Go.Sort

set_option maxHeartbeats 8000000 in
set_option maxRecDepth 100000 in
theorem lawLValid (l : List UInt8) (w : World) (hl : l.length ≤ 9223372036854775807) (hE : Env w) :
    Calls Tryd.prog 4 #[.string ⟨l.toArray⟩] w fun e w' => e = .returned (.bool true) ∧ Below w.heap.size w w' := by
  have HE := Lib.hid hE
  clear hE
  by_cases hlen : l.length ≤ 2000
  · have hd : decide ((2000 : Int) < l.length) = false := decide_eq_false (by omega)
    have HSp := Lib.hid (fun w' => rfSplit9 10 l w' (by omega))
    have HP1 := Lib.hid (lnParse l w HE.out (by omega))
    have hra := resL_length (l := l) (by omega)
    have HSa := Lib.hid (fun d (h : d ∈ resL l) => small_res h)
    have hea := fltE_or l
    have HV := Lib.hid (res_valid (l := l) (by omega))
    have HF := Lib.hid (fun h => flt_rng (l := l) (by omega) h)
    have hnl : (splitL 10 l).length ≤ 2001 := by
      rw [splitL_length]
      have := List.count_le_length (a := (10 : UInt8)) (l := l)
      omega
    generalize splitL 10 l = ps at HSp HV HF hnl
    go_enter Tryd.func4, Tryd.ntmps4
    go_wp2_with fail
    refine HP1.out.mono ?_
    rintro e w1 ⟨hO, hb1⟩
    obtain ⟨A, ca, rfl, hA, _⟩ := hO.out
    have H1 := Lib.hid hb1
    have HA := Lib.hid hA
    clear hO hA hb1
    rcases hea with ea | ea
    · obtain ⟨k1, k2, k3⟩ := HF.out ea
      rw [k3, ea]
      generalize fltK l = fk at k1 k2
      clear HF HV HSa hra k3
      have FB := Lib.hid (Blk.new w1 #[.int .i64 3, .int .i64 fk] 26)
      have g1 : decide ((1 : Int) ≤ fk) = true := decide_eq_true k1
      have g2 : decide (fk ≤ (ps.length : Int)) = true := decide_eq_true k2
      have b1 : Below w1.heap.size w1 ((w1.alloc (.cells #[.int .i64 3, .int .i64 fk] 26)).drew) := (bBox w1 _).drew
      go_wp2_with fail
      go_region_law (first
        | (go_simp; refine (HSp.out _).mono ?_; rintro e w5 ⟨⟨A5, c5, rfl, _, _⟩, hb5⟩; have x5 := ((FB.out.keep ((Below.refl _ _).drew)).keep hb5).cell 1)
        | (go_simp; refine (lnAlive _ (HE.out.keep (bUp H1.out (bUp b1 hb5)))).mono ?_; rintro e w6 ⟨rfl, hb6⟩))
      all_goals
        go_wp2_with fail
        go_ret
        exact ⟨rfl, bUp (bUp H1.out (bUp b1 hb5)) hb6⟩
    · rw [ea]
      clear HF
      generalize fltK l = fk
      generalize resL l = ls at hra HSa HV HA
      go_wp2_with fail
      go_loopw [5, 6] (fun t i wr => ∃ k : Nat, k ≤ ls.length ∧ i = .int .i64 k ∧ t = .int .i64 (if k = 0 then 0 else (lineAt ls (k - 1)).num) ∧ Below w1.heap.size w1 wr) (fun _ i _ => ls.length - (intOf i).toNat)
      case atStart => exact ⟨0, Nat.zero_le _, rfl, rfl, bBox w1 _⟩
      case round =>
        obtain ⟨k, hk, rfl, rfl, hbr⟩ := hrel
        by_cases hlt : k < ls.length
        · obtain ⟨b1, o1, rfl, h1, p0, p1, p2, ⟨F1, d1, p3, s1⟩, p4⟩ := (HA.out.keep hbr).at_ hlt
          have hm : lineAt ls k ∈ ls := by simp [lineAt, hlt]
          have hup := last_up HV.out hlt
          have hsm := HSa.out _ hm
          have hch := HV.out.ok _ hm
          have hst : (if k + 1 = 0 then (0 : Int) else (lineAt ls (k + 1 - 1)).num) = (lineAt ls k).num := by rw [if_neg (by omega), Nat.add_sub_cancel]
          generalize (if k = 0 then (0 : Int) else (lineAt ls (k - 1)).num) = lst at hup
          generalize lineAt ls k = d at p0 p1 p2 p3 p4 s1 hup hsm hch hst
          have Hst := Lib.hid hst
          have CR := Lib.hid (rfCheck d F1 d1 wr s1 (by have := hsm.cnt; omega) hsm.len hsm.com)
          have CL := Lib.hid (fun w' (h : Below wr.heap.size wr w') => lnCheck d F1 d1 w' (s1.keep h) (by have := hsm.cnt; omega) (fun f hf => ⟨hsm.len f hf, anyAll (hsm.len f hf)⟩) hsm.com)
          rw [hch] at CR CL
          obtain ⟨num, lo, hi, fs, com⟩ := d
          dsimp only at p0 p1 p2 p3 p4 hup CR CL
          have hnu : decide (num ≤ lst) = false := decide_eq_false (by omega)
          have hki : (k : Int) < ls.length := by omega
          clear hst hm s1 hsm hch
          go_wp2_with fail
          refine CR.out.mono ?_
          rintro e w2 ⟨rfl, hb2⟩
          have q0 := (hb2.cell (p := ⟨b1, o1 + k * 5, none⟩) h1).trans p0
          have q1 := (hb2.cell (p := ⟨b1, o1 + k * 5 + 1, none⟩) h1).trans p1
          have q2 := (hb2.cell (p := ⟨b1, o1 + k * 5 + 2, none⟩) h1).trans p2
          have q3 := (hb2.cell (p := ⟨b1, o1 + k * 5 + 3, none⟩) h1).trans p3
          have q4 := (hb2.cell (p := ⟨b1, o1 + k * 5 + 4, none⟩) h1).trans p4
          go_wp2_with fail
          refine (CL.out _ hb2).mono ?_
          rintro e w3 ⟨rfl, hb3⟩
          have hb23 := bUp hb2 hb3
          have r0 := (hb23.cell (p := ⟨b1, o1 + k * 5, none⟩) h1).trans p0
          go_wp2_with fail
          go_roundw
          case rel => exact ⟨k + 1, by omega, by go_num, by rw [Hst.out], hbr.trans (hb23.mono hbr.size)⟩
          case measure => simp [intOf]; omega
        · obtain rfl : k = ls.length := by omega
          have hki : ¬ (ls.length : Int) < ls.length := by omega
          have hle : decide ((if ls.length = 0 then (0 : Int) else (lineAt ls (ls.length - 1)).num) ≤ ps.length) = true := by
            refine decide_eq_true ?_
            split
            · omega
            · exact (HV.out.rng _ (by simp [lineAt, show ls.length - 1 < ls.length by omega])).2
          generalize (if ls.length = 0 then (0 : Int) else (lineAt ls (ls.length - 1)).num) = lst at hle
          have h0r := H1.out.trans (hbr.mono H1.out.size)
          go_wp2_with fail
          refine (HSp.out _).mono ?_
          rintro e w5 ⟨⟨A5, c5, rfl, _, _⟩, hb5⟩
          go_wp2_with fail
          refine (lnAlive _ (HE.out.keep (bUp h0r hb5))).mono ?_
          rintro e w6 ⟨rfl, hb6⟩
          go_wp2_with fail
          go_ret
          exact ⟨rfl, bUp (bUp h0r hb5) hb6⟩
  · have hd : decide ((2000 : Int) < l.length) = true := decide_eq_true (by omega)
    go_enter Tryd.func4, Tryd.ntmps4
    go_wp2_with fail
    refine (lnAlive _ HE.out).mono ?_
    rintro e w1 ⟨rfl, hb1⟩
    go_wp2_with fail
    go_ret
    exact ⟨rfl, hb1⟩
end Go.Proofs.YtafmdeipcepaiaaDoor
