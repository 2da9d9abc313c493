/- ref06.Text, and the law CharsetTexts -/
import Derived.Test.YthpiopjpipdgnaaDoorCs15
import Derived.Test.YthpiopjpipdgnaaDoorCsL3
namespace Go.Proofs.YthpiopjpipdgnaaDoor
open Go.RowKit Go.Sort

theorem digSliceDiv (k : Nat) (hk : k < 256) (w : World) : (Instr.slice 9 (.string ⟨#[48, 49, 50, 51, 52, 53, 54, 55, 56, 57, 65, 66, 67, 68, 69, 70]⟩) (some (.int .i64 ((k : Int) / 16))) (some (.int .i64 ((k : Int) / 16 + 1))) none).run Tryd.prog w = .ok (.string ⟨#[UInt8.ofNat (hexC (k / 16))]⟩) w :=
  digSlice (k / 16) (by omega) w
theorem line_ba2 (k : Nat) (x : Int) : (⟨#[UInt8.ofNat (hexC (k / 16))]⟩ : ByteArray) ++ ⟨#[UInt8.ofNat (hexC (k % 16))]⟩ ++ ⟨#[32]⟩ ++ ⟨(hexL x).toArray⟩ ++ ⟨#[10]⟩ = ⟨(lineL k x).toArray⟩ := by
  rw [← line_ba]; rfl

set_option maxHeartbeats 1000000 in
set_option maxRecDepth 100000 in
theorem rfText (zs : List Int) (A : Option Addr) (cap : Nat) (w : World) (hA : IntsAt w A zs) (hl : zs.length ≤ 300) :
    Calls Tryd.prog 21 #[.agg #[.slice A zs.length cap]] w fun e w' => e = .returned (textV zs) ∧ Below w.heap.size w w' := by
  have HC := Lib.hid (fun w' hb => refCheck zs A cap w' (IntsAt.keep hA hb) hl)
  have HA := Lib.hid hA
  clear hA
  by_cases hc : checkC zs = 0
  · have hc' : (checkC zs != 0) = false := by simpa using hc
    have HV := Lib.hid (show textV zs = strErr (textFrom zs 0) 0 by simp [textV, hc])
    obtain ⟨hn, hr, ht⟩ := codes_of_check hc
    have hcod := codes_ok hr
    have hl1 : zs.length ≤ 256 := by omega
    have hl2 : 256 ≤ zs.length := by omega
    have Hc := Lib.hid hc
    have Hn := Lib.hid hn
    have Hr := Lib.hid hr
    have Ht := Lib.hid ht
    have Hcod := Lib.hid hcod
    clear hc hn hr ht hcod
    go_enter Tryd.func21, Tryd.ntmps21
    go_wp2_with fail
    refine (HC.out _ (bBox _ _)).mono ?_
    rintro e w1 ⟨rfl, hb1⟩
    have B0 := (Blk.new w #[.slice A zs.length cap] 24).keep hb1
    have c1 := B0.cell 0
    have hbw : Below w.heap.size w w1 := bUp (bBox _ _) hb1
    clear B0
    go_wp2_with fail
    go_loopw [5, 6] (fun o i wr => ∃ (k : Nat) (acc : List UInt8), k ≤ 256 ∧ i = .int .i64 k ∧ o = .string ⟨acc.toArray⟩ ∧ acc.length ≤ 10 * k ∧ Hid (textFrom zs 0 = acc ++ textFrom (zs.drop k) k) ∧ Below w1.heap.size w1 wr) (fun _ i _ => 256 - (intOf i).toNat)
    case atStart => exact ⟨0, [], Nat.zero_le _, rfl, rfl, by simp, rfl, Below.refl _ _⟩
    case round =>
      obtain ⟨k, acc, hk, rfl, rfl, hacc, HT, hbr⟩ := hrel
      by_cases hlt : k < 256
      · obtain ⟨b, off, rfl, hb, hcc⟩ := (HA.out.keep (bUp hbw hbr)).at_ (k := k) (by omega)
        have c0 := cell_keep hbr c1
        have hki : (k : Int) < zs.length := by omega
        by_cases he : nth zs k = -1
        · have he' : decide (0 ≤ nth zs k) = false := by simp; omega
          have HT' := Lib.hid (text_keep (by omega) HT.out he)
          have He := Lib.hid he
          clear he
          go_wp2_with fail
          go_roundw
          case rel => exact ⟨k + 1, acc, by omega, by go_num, rfl, by omega, HT', hbr⟩
          case measure => simp [intOf]; omega
        · have he' : decide (0 ≤ nth zs k) = true := by
            have := (Hcod.out _ (nth_mem (zs := zs) (k := k) (by omega))).resolve_left he
            simpa using this.1
          have HT' := Lib.hid (text_line (by omega) HT.out he)
          have hhl := hexL_length_le (nth zs k)
          have hll := lineL_le k (nth zs k)
          have k0 := cell_regrown c0
          have k1 := cell_regrown hcc
          have cH := callsS (w := wr) (fun w' _ => rfHex (nth zs k) w')
          have hd1 := digSliceDiv k hlt
          have hd2 := digSliceMod k
          have He := Lib.hid he
          have CH := Lib.hid cH
          clear he cH
          go_wp2_with fail
          refine wp_region_quiet_below (by kernel_rfl) (by kernel_rfl) ?_
          repeat (go_big_quiet_step (exact CH.out _ _))
          refine wpQuiet_nil ?_
          rintro _ ⟨⟨dq, osq⟩, rfl⟩
          have hb2 := below_regrown wr dq osq
          generalize grow (redrawn wr dq) osq = w2 at hb2 ⊢
          go_wp2_with fail
          go_roundw
          case rel => exact ⟨k + 1, _, by omega, by go_num, by rw [line_ba2]; exact str_app _ _, by rw [List.length_append]; omega, HT', bUp hbr hb2⟩
          case measure => simp [intOf]; omega
      · have HT' := Lib.hid (show textV zs = strErr acc 0 by rw [HV.out, HT.out, List.drop_of_length_le (by omega)]; simp [textFrom])
        go_wp2_with fail
        go_ret2
        exact ⟨ret_eq HT'.out, bUp hbw hbr⟩
  · have hc' : (checkC zs != 0) = true := by simpa using hc
    have HV := Lib.hid (show textV zs = strErr [] (checkC zs) by simp [textV, hc])
    have Hc := Lib.hid hc
    clear hc
    go_enter Tryd.func21, Tryd.ntmps21
    go_wp2_with fail
    refine (HC.out _ (bBox _ _)).mono ?_
    rintro e w1 ⟨rfl, hb1⟩
    go_wp2_with fail
    go_ret2
    exact ⟨ret_eq HV.out, bUp (bBox _ _) hb1⟩

theorem textV_form (zs : List Int) : ∃ l e, textV zs = strErr l e := by
  unfold textV
  split
  · exact ⟨_, _, rfl⟩
  · exact ⟨_, _, rfl⟩

set_option maxHeartbeats 1000000 in
set_option maxRecDepth 100000 in
theorem lawTexts (zs : List Int) (A : Option Addr) (cap : Nat) (w : World) (hA : IntsAt w A zs) (hl : zs.length ≤ 9223372036854775807) (hE : Env w) :
    Calls Tryd.prog 6 #[.agg #[.slice A zs.length cap]] w fun e w' => e = .returned (.bool true) ∧ Below w.heap.size w w' := by
  by_cases h : zs.length ≤ 300
  · have hf : fewB zs = true := by simp [fewB, h]
    obtain ⟨l, er, hv⟩ := textV_form zs
    have h1 := fun w' (hb : Below w.heap.size w w') => csText zs A cap w' (hA.keep hb) h (hE.keep hb).dig
    have h2 := fun w' (hb : Below w.heap.size w w') => rfText zs A cap w' (hA.keep hb) h
    rw [hv] at h1 h2
    have hss : (l == l) = true := by simp
    have hee : (er == er) = true := by simp
    have H1 := Lib.hid h1
    have H2 := Lib.hid h2
    have HA := Lib.hid hA
    have HE := Lib.hid hE
    have Hf := Lib.hid hf
    have Hv := Lib.hid hv
    clear h1 h2 hA hE hf hv
    go_enter Tryd.func6, Tryd.ntmps6
    go_wp2_with fail
    refine (csFew zs A cap _ hl).mono ?_
    rintro e w1 ⟨rfl, hb1⟩
    rw [Hf.out]
    have B0 := (Blk.new w #[.slice A zs.length cap] 24).keep hb1
    have c0 := B0.cell 0
    have hbw1 : Below w.heap.size w w1 := bUp (bBox _ _) hb1
    go_wp2_with fail
    refine (H1.out _ hbw1).mono ?_
    rintro e w2 ⟨rfl, hb2⟩
    unfold strErr
    have c2 := (B0.keep hb2).cell 0
    go_wp2_with fail
    refine (H2.out _ (bUp hbw1 hb2)).mono ?_
    rintro e w3 ⟨rfl, hb3⟩
    unfold strErr
    clear B0 c0 c2
    go_wp2_with fail
    refine (alive06 _ (HE.out.keep (bUp (bUp hbw1 hb2) hb3))).mono ?_
    rintro e w4 ⟨rfl, hb4⟩
    go_wp2_with fail
    go_ret
    exact ⟨rfl, bUp (bUp (bUp hbw1 hb2) hb3) hb4⟩
  · have hf : fewB zs = false := by simp [fewB, h]
    have HA := Lib.hid hA
    have HE := Lib.hid hE
    have Hf := Lib.hid hf
    clear hA hE hf
    go_enter Tryd.func6, Tryd.ntmps6
    go_wp2_with fail
    refine (csFew zs A cap _ hl).mono ?_
    rintro e w1 ⟨rfl, hb1⟩
    rw [Hf.out]
    have hbw1 : Below w.heap.size w w1 := bUp (bBox _ _) hb1
    go_wp2_with fail
    refine (alive06 _ (HE.out.keep hbw1)).mono ?_
    rintro e w4 ⟨rfl, hb4⟩
    go_wp2_with fail
    go_ret
    exact ⟨rfl, bUp hbw1 hb4⟩
end Go.Proofs.YthpiopjpipdgnaaDoor
