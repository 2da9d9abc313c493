/- Check of the reference -/
import Derived.Test.YtafmdeipcepaiaaDoorLn18
namespace Go.Proofs.YtafmdeipcepaiaaDoor
open Go.RowKit Go.Sort

theorem any_three (f : List UInt8) : f.any sepB = (f.contains 59 || f.contains 35 || f.contains 10) := by
  induction f with
  | nil => rfl
  | cons b r ih =>
    simp only [List.any_cons, List.contains_cons, ih, sepB]
    rw [Bool.beq_comm (a := 59), Bool.beq_comm (a := 35), Bool.beq_comm (a := 10)]
    generalize (b == 59) = x1
    generalize (b == 35) = x2
    generalize (b == 10) = x3
    generalize r.contains 59 = y1
    generalize r.contains 35 = y2
    generalize r.contains 10 = y3
    cases x1 <;> cases x2 <;> cases x3 <;> cases y1 <;> cases y2 <;> cases y3 <;> rfl
theorem fieldOk_eq (f : List UInt8) : fieldOk f = (comOk f && !f.contains 59 && !f.contains 35) := by
  unfold fieldOk comOk
  rw [any_three]
  cases f.contains 59 <;> cases f.contains 35 <;> cases f.contains 10 <;> simp

set_option maxHeartbeats 2000000 in
set_option maxRecDepth 100000 in
theorem rfHas (l : List UInt8) (c : UInt8) (w : World) (hl : l.length ≤ 100000) :
    Calls Tryd.prog 31 #[.string ⟨l.toArray⟩, .int .u8 c.toNat] w fun e w' => e = .returned (.bool (l.contains c)) ∧ w = w' := by
  go_enter Tryd.func31, Tryd.ntmps31
  go_wp2_with fail
  go_loop [5] (fun i => ∃ k : Nat, k ≤ l.length ∧ i = .int .i64 k ∧ Hid (l.contains c = (l.drop k).contains c)) (fun i => l.length - (intOf i).toNat)
  case atStart => exact ⟨0, Nat.zero_le _, rfl, Lib.hid rfl⟩
  case round =>
    obtain ⟨k, hk, rfl, HE⟩ := hrel
    by_cases hlt : k < l.length
    · have hbt := btN_lt l k
      have hki : (k : Int) < l.length := by omega
      have hd := bytes_drop hlt
      have hv : btN l k = l[k].toNat := by simp [btN, hlt]
      have hst : l.contains c = (l[k] == c || (l.drop (k + 1)).contains c) := by rw [HE.out, hd, List.contains_cons, Bool.beq_comm]
      by_cases hb : l[k] = c
      · have hb' : ((btN l k : Int) == (c.toNat : Int)) = true := by rw [hv, hb]; simp
        have hr := Lib.hid (show l.contains c = true by rw [hst]; simp [hb])
        have Hst := Lib.hid hst
        have Hv := Lib.hid hv
        have Hd := Lib.hid hd
        have Hb := Lib.hid hb
        clear hst hv hd hb
        go_wp2_with fail
        go_ret
        exact ⟨by have h := hr.out; rw [List.contains_eq_mem] at h; rw [h]; rfl, rfl⟩
      · have hb' : ((btN l k : Int) == (c.toNat : Int)) = false := by
          rw [hv]
          simp only [beq_eq_false_iff_ne, ne_eq, Int.natCast_inj]
          exact fun e => hb (UInt8.toNat_inj.1 e)
        have hr := Lib.hid (show l.contains c = (l.drop (k + 1)).contains c by rw [hst, beq_eq_false_iff_ne.2 hb, Bool.false_or])
        have Hst := Lib.hid hst
        have Hv := Lib.hid hv
        have Hd := Lib.hid hd
        have Hb := Lib.hid hb
        clear hst hv hd hb
        go_wp2_with fail
        go_round
        case rel => exact ⟨k + 1, by omega, by go_num, hr⟩
        case measure => simp [intOf]; omega
    · have hki : ¬ (k : Int) < l.length := by omega
      have hr := Lib.hid (show l.contains c = false by rw [HE.out, List.drop_eq_nil_of_le (by omega)]; rfl)
      go_wp2_with fail
      go_ret
      exact ⟨by have h := hr.out; rw [List.contains_eq_mem] at h; rw [h]; rfl, rfl⟩

set_option maxHeartbeats 2000000 in
set_option maxRecDepth 100000 in
theorem rfFree (l : List UInt8) (w : World) (hl : l.length ≤ 100000) :
    Calls Tryd.prog 30 #[.string ⟨l.toArray⟩] w fun e w' => e = .returned (.bool (comOk l)) ∧ w = w' := by
  have HH := Lib.hid (rfHas l 10 w hl)
  have HT := Lib.hid (rfTrim l w hl)
  go_enter Tryd.func30, Tryd.ntmps30
  cases ha : l.contains 10 with
  | true =>
    rw [ha] at HH
    go_wp2_with fail
    refine HH.out.mono ?_
    rintro e w1 ⟨rfl, rfl⟩
    go_wp2_with fail
    go_ret
    exact ⟨by unfold comOk; rw [ha]; rfl, rfl⟩
  | false =>
    rw [ha] at HH
    by_cases ht : trimL l = l
    · rw [ht] at HT
      have hc : comOk l = true := by unfold comOk; rw [ha, ht]; simp
      have Ht := Lib.hid ht
      have Ha := Lib.hid ha
      have Hc := Lib.hid hc
      clear ht ha hc
      go_wp2_with fail
      refine HH.out.mono ?_
      rintro e w1 ⟨rfl, rfl⟩
      go_wp2_with fail
      refine HT.out.mono ?_
      rintro e w1 ⟨rfl, rfl⟩
      go_wp2_with fail
      go_ret
      exact ⟨by rw [Hc.out]; rfl, rfl⟩
    · have hc : comOk l = false := by unfold comOk; simp [ht]
      have hne : (l == trimL l) = false := by simp; exact fun e => ht e.symm
      have Ht := Lib.hid ht
      have Ha := Lib.hid ha
      have Hc := Lib.hid hc
      clear ht ha hc
      go_wp2_with fail
      refine HH.out.mono ?_
      rintro e w1 ⟨rfl, rfl⟩
      go_wp2_with fail
      refine HT.out.mono ?_
      rintro e w1 ⟨rfl, rfl⟩
      go_wp2_with fail
      go_ret
      exact ⟨by rw [Hc.out]; rfl, rfl⟩

set_option maxHeartbeats 8000000 in
set_option maxRecDepth 100000 in
theorem rfCheck (d : LineD) (A : Option Addr) (cp : Nat) (w : World) (hA : StrsAt w A d.fields) (hl : d.fields.length ≤ 100000) (hf : ∀ f ∈ d.fields, f.length ≤ 65536) (hc : d.com.length ≤ 65536) :
    Calls Tryd.prog 15 #[.agg #[.int .i64 d.num, .int .i64 d.lo, .int .i64 d.hi, .slice A d.fields.length cp, .string ⟨d.com.toArray⟩]] w fun e w' => e = .returned (.int .i64 (chkL d)) ∧ Below w.heap.size w w' := by
  obtain ⟨num, lo, hi, fs, com⟩ := d
  dsimp only at hA hl hf hc ⊢
  have HA := Lib.hid hA
  have HF := Lib.hid hf
  have HM := Lib.hid (fun w' => rfFree com w' (by omega))
  clear hA hf hc
  go_enter Tryd.func15, Tryd.ntmps15
  cases h1 : validB lo with
  | false =>
    have V1 := Lib.hid (fun w' => rfValid lo w')
    rw [h1] at V1
    go_wp2_with fail
    refine (V1.out _).mono ?_
    rintro e w1 ⟨rfl, rfl⟩
    go_wp2_with fail
    go_ret
    exact ⟨by simp [chkL, h1], bBox w _⟩
  | true =>
    cases h2 : validB hi with
    | false =>
      have V1 := Lib.hid (fun w' => rfValid lo w')
      have V2 := Lib.hid (fun w' => rfValid hi w')
      rw [h1] at V1
      rw [h2] at V2
      go_wp2_with fail
      refine (V1.out _).mono ?_
      rintro e w1 ⟨rfl, rfl⟩
      go_wp2_with fail
      refine (V2.out _).mono ?_
      rintro e w1 ⟨rfl, rfl⟩
      go_wp2_with fail
      go_ret
      exact ⟨by simp [chkL, h2], bBox w _⟩
    | true =>
      have V1 := Lib.hid (fun w' => rfValid lo w')
      have V2 := Lib.hid (fun w' => rfValid hi w')
      rw [h1] at V1
      rw [h2] at V2
      by_cases h3 : lo ≤ hi
      · have h3' : decide (hi < lo) = false := decide_eq_false (by omega)
        cases hcm : comOk com with
        | false =>
          rw [hcm] at HM
          go_wp2_with fail
          refine (V1.out _).mono ?_
          rintro e w1 ⟨rfl, rfl⟩
          go_wp2_with fail
          refine (V2.out _).mono ?_
          rintro e w1 ⟨rfl, rfl⟩
          go_wp2_with fail
          refine (HM.out _).mono ?_
          rintro e w1 ⟨rfl, rfl⟩
          go_wp2_with fail
          go_ret
          exact ⟨by simp [chkL, h1, h2, h3, hcm], bBox w _⟩
        | true =>
          rw [hcm] at HM
          go_wp2_with fail
          refine (V1.out _).mono ?_
          rintro e w1 ⟨rfl, rfl⟩
          go_wp2_with fail
          refine (V2.out _).mono ?_
          rintro e w1 ⟨rfl, rfl⟩
          go_wp2_with fail
          refine (HM.out _).mono ?_
          rintro e w1 ⟨rfl, rfl⟩
          go_wp2_with fail
          go_loop [3] (fun i => ∃ k : Nat, k ≤ fs.length ∧ i = .int .i64 k ∧ Hid ((fs.take k).all fieldOk = true)) (fun i => fs.length - (intOf i).toNat)
          case atStart => exact ⟨0, Nat.zero_le _, rfl, Lib.hid rfl⟩
          case round =>
            obtain ⟨k, hk, rfl, HK⟩ := hrel
            by_cases hlt : k < fs.length
            · obtain ⟨b1, o1, rfl, h4, e4⟩ := HA.out.at_ hlt
              have hfm := HF.out _ (piece_mem hlt)
              have hst : fs.take (k + 1) = fs.take k ++ [piece fs k] := by rw [List.take_add_one]; simp [piece, hlt]
              have hbad : fieldOk (piece fs k) = false → fs.all fieldOk = false := fun h => by
                rw [← Bool.not_eq_true]
                intro h'
                rw [List.all_eq_true.1 h' _ (piece_mem hlt)] at h
                cases h
              generalize piece fs k = f at e4 hfm hst hbad
              have hfe := fieldOk_eq f
              have C1 := Lib.hid (fun w' => rfFree f w' (by omega))
              have C2 := Lib.hid (fun w' => rfHas f 59 w' (by omega))
              have C3 := Lib.hid (fun w' => rfHas f 35 w' (by omega))
              have hki : (k : Int) < fs.length := by omega
              have Hfm := Lib.hid hfm
              have Hst := Lib.hid hst
              clear hfm hst
              cases g1 : comOk f with
              | false =>
                rw [g1] at hfe C1
                have hr := hbad (by rw [hfe]; rfl)
                have Hbad := Lib.hid hbad
                have Hfe := Lib.hid hfe
                have G1 := Lib.hid g1
                clear hbad hfe g1
                go_wp2_with fail
                refine (C1.out _).mono ?_
                rintro e w5 ⟨rfl, rfl⟩
                go_wp2_with fail
                go_ret
                exact ⟨by simp [chkL, h1, h2, h3, hr], bBox w _⟩
              | true =>
                rw [g1] at hfe C1
                cases g2 : f.contains 59 with
                | true =>
                  rw [g2] at hfe C2
                  have hr := hbad (by rw [hfe]; rfl)
                  have Hbad := Lib.hid hbad
                  have Hfe := Lib.hid hfe
                  have G1 := Lib.hid g1
                  have G2 := Lib.hid g2
                  clear hbad hfe g1 g2
                  go_wp2_with fail
                  refine (C1.out _).mono ?_
                  rintro e w5 ⟨rfl, rfl⟩
                  go_wp2_with fail
                  refine (C2.out _).mono ?_
                  rintro e w5 ⟨rfl, rfl⟩
                  go_wp2_with fail
                  go_ret
                  exact ⟨by simp [chkL, h1, h2, h3, hr], bBox w _⟩
                | false =>
                  rw [g2] at hfe C2
                  cases g3 : f.contains 35 with
                  | true =>
                    rw [g3] at hfe C3
                    have hr := hbad (by rw [hfe]; rfl)
                    have Hbad := Lib.hid hbad
                    have Hfe := Lib.hid hfe
                    have G1 := Lib.hid g1
                    have G2 := Lib.hid g2
                    have G3 := Lib.hid g3
                    clear hbad hfe g1 g2 g3
                    go_wp2_with fail
                    refine (C1.out _).mono ?_
                    rintro e w5 ⟨rfl, rfl⟩
                    go_wp2_with fail
                    refine (C2.out _).mono ?_
                    rintro e w5 ⟨rfl, rfl⟩
                    go_wp2_with fail
                    refine (C3.out _).mono ?_
                    rintro e w5 ⟨rfl, rfl⟩
                    go_wp2_with fail
                    go_ret
                    exact ⟨by simp [chkL, h1, h2, h3, hr], bBox w _⟩
                  | false =>
                    rw [g3] at hfe C3
                    have hok : fieldOk f = true := by rw [hfe]; rfl
                    have Hbad := Lib.hid hbad
                    have Hfe := Lib.hid hfe
                    have G1 := Lib.hid g1
                    have G2 := Lib.hid g2
                    have G3 := Lib.hid g3
                    have Hok := Lib.hid hok
                    clear hbad hfe g1 g2 g3 hok
                    go_wp2_with fail
                    refine (C1.out _).mono ?_
                    rintro e w5 ⟨rfl, rfl⟩
                    go_wp2_with fail
                    refine (C2.out _).mono ?_
                    rintro e w5 ⟨rfl, rfl⟩
                    go_wp2_with fail
                    refine (C3.out _).mono ?_
                    rintro e w5 ⟨rfl, rfl⟩
                    go_wp2_with fail
                    go_round
                    case rel => exact ⟨k + 1, by omega, by go_num, Lib.hid (by rw [Hst.out, List.all_append, HK.out]; simp [Hok.out])⟩
                    case measure => simp [intOf]; omega
            · obtain rfl : k = fs.length := by omega
              have hall : fs.all fieldOk = true := by have := HK.out; rwa [List.take_length] at this
              have hki : ¬ (fs.length : Int) < fs.length := by omega
              have Hall := Lib.hid hall
              clear hall
              go_wp2_with fail
              go_ret
              exact ⟨by unfold chkL; dsimp only; rw [h1, h2, decide_eq_true h3, Hall.out, hcm]; rfl, bBox w _⟩
      · have h3' : decide (hi < lo) = true := decide_eq_true (by omega)
        go_wp2_with fail
        refine (V1.out _).mono ?_
        rintro e w1 ⟨rfl, rfl⟩
        go_wp2_with fail
        refine (V2.out _).mono ?_
        rintro e w1 ⟨rfl, rfl⟩
        go_wp2_with fail
        go_ret
        exact ⟨by unfold chkL; dsimp only; rw [show decide (lo ≤ hi) = false from decide_eq_false (by omega)]; simp, bBox w _⟩
end Go.Proofs.YtafmdeipcepaiaaDoor
