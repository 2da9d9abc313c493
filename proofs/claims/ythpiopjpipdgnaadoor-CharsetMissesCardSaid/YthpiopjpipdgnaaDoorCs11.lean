/- ref06.Encode -/
import Derived.Test.YthpiopjpipdgnaaDoorCs10
namespace Go.Proofs.YthpiopjpipdgnaaDoor
open Go.RowKit Go.Sort

theorem missL_two (f : Int → Option Int) (x y : Int) : missL f 2 x = missL f 2 y := by simp [missL]

set_option maxHeartbeats 4000000 in
set_option maxRecDepth 100000 in
theorem rfEncode (zs text : List Int) (A B : Option Addr) (cap cap2 : Nat) (pol : Int) (w : World) (hA : IntsAt w A zs) (hl : zs.length ≤ 300) (hB : IntsAt w B text) (hl2 : text.length ≤ 100) :
    Calls Tryd.prog 16 #[.agg #[.slice A zs.length cap], .slice B text.length cap2, .int .i64 pol] w fun e w' => e = .returned (encV zs text pol (byteF zs)) ∧ Below w.heap.size w w' := by
  have HC := Lib.hid (fun w' hb => refCheck zs A cap w' (IntsAt.keep hA hb) hl)
  have HA := Lib.hid hA
  have HB := Lib.hid hB
  clear hA hB
  by_cases hc : checkC zs = 0
  · have hc' : (checkC zs != 0) = false := by simpa using hc
    have hl' : zs.length ≤ 256 := by have := (codes_of_check hc).1; omega
    cases hp : polB pol
    · have HV := Lib.hid (show encV zs text pol (byteF zs) = strFault [] 8 0 by simp [encV, hc, hp])
      have Hc := Lib.hid hc
      have Hp := Lib.hid hp
      clear hc hp
      go_enter Tryd.func16, Tryd.ntmps16
      go_wp2_with fail
      refine (HC.out _ (bUp (bBox _ _) (bBox _ _))).mono ?_
      rintro e w1 ⟨rfl, hb1⟩
      obtain ⟨bc, fc, _, ff, hbel, hsz⟩ := two_boxes hb1
      have f0 := fc 0
      have f1 := fc 1
      have g0 := ff 0
      have g1 := ff 1
      clear hb1 bc fc ff
      go_wp2_with (go_at_call 35; refine (rfPolicy _ _).mono ?_; rintro e w' ⟨rfl, rfl⟩; rw [Hp.out])
      refine bodyPost_ret (v := strFault [] 8 0) (by simp [results, Tryd.results16, go_sem, f0, f1, strFault]) rfl ⟨ret_eq HV.out, ?_⟩
      exact bSet2 hbel (Nat.le_succ _) _ _
    · have HV := Lib.hid (show encV zs text pol (byteF zs) = encFrom (byteF zs) pol text 0 [] by simp [encV, hc, hp])
      have Hc := Lib.hid hc
      have Hp := Lib.hid hp
      clear hc hp
      go_enter Tryd.func16, Tryd.ntmps16
      go_wp2_with fail
      refine (HC.out _ (bUp (bBox _ _) (bBox _ _))).mono ?_
      rintro e w1 ⟨rfl, hb1⟩
      obtain ⟨bc, fc, _, ff, hbel, hsz⟩ := two_boxes hb1
      have b0 := bc 0
      have f0' := fc 0
      have f1' := fc 1
      have g0' := ff 0
      have g1' := ff 1
      have hsz0 : w.heap.size < w1.heap.size := by omega
      clear hb1 bc fc ff
      go_wp2_with (go_at_call 35; refine (rfPolicy _ _).mono ?_; rintro e w' ⟨rfl, rfl⟩; rw [Hp.out])
      go_loopw [8, 9] (fun o i wr => ∃ (k : Nat) (acc : List UInt8), k ≤ text.length ∧ i = .int .i64 k ∧ o = .string ⟨acc.toArray⟩ ∧ acc.length ≤ 10 * k ∧ Hid (encFrom (byteF zs) pol text 0 [] = encFrom (byteF zs) pol (text.drop k) k acc) ∧ Below w1.heap.size w1 wr) (fun _ i _ => text.length - (intOf i).toNat)
      case atStart => exact ⟨0, [], Nat.zero_le _, rfl, rfl, by simp, rfl, Below.refl _ _⟩
      case round =>
        obtain ⟨k, acc, hk, rfl, rfl, hacc, HE, hbr⟩ := hrel
        have c0 := cell_keep hbr b0
        by_cases hlt : k < text.length
        · have hb0 : Below w.heap.size w wr := bUp hbel hbr
          obtain ⟨b, off, rfl, hb, hc⟩ := (HB.out.keep hb0).at_ hlt
          have cB := callsQ (w := wr) (fun w' hb => refByte zs A cap (nth text k) w' (HA.out.keep (bUp hb0 hb)) (by omega))
          have k0 := cell_regrown c0
          have k1 := cell_regrown hc
          have hd := drop_nth hlt
          have hlb := byteL_lt (nth text k) zs 0
          have hki : (k : Int) < text.length := by omega
          have CB := Lib.hid cB
          have Hd := Lib.hid hd
          clear cB hd
          by_cases hq : byteL (nth text k) zs 0 < 0
          · have hfx : ¬ (byteF zs (nth text k)).isSome = true := by simp [byteF_none hq]
            have hq' : decide (0 ≤ byteL (nth text k) zs 0) = false := by simp; omega
            by_cases hp1 : pol = 1
            · have HE' := Lib.hid (show encV zs text pol (byteF zs) = strFault [] 10 k by rw [HV.out, HE.out, Hd.out, encFrom, if_neg hfx, if_pos hp1])
              have q1 : (pol == 1) = true := by simpa using hp1
              have Hp1 := Lib.hid hp1
              have Hfx := Lib.hid hfx
              clear hp1 hfx
              go_wp2_with fail
              refine wp_region_quiet_below (by kernel_rfl) (by kernel_rfl) ?_
              repeat (go_big_quiet_step (exact CB.out _ _))
              refine wpQuiet_nil ?_
              rintro _ ⟨⟨dq, osq⟩, rfl⟩
              have hb2 := below_regrown wr dq osq
              generalize grow (redrawn wr dq) osq = w2 at hb2 ⊢
              have hbw := bUp hbr hb2
              have f0 := cell_keep hbw f0'
              have f1 := cell_keep hbw f1'
              have g0 := (hbw.frozen (p := ⟨w.heap.size + 1, 0, none⟩) hsz).trans g0'
              have g1 := (hbw.frozen (p := ⟨w.heap.size + 1, 1, none⟩) hsz).trans g1'
              go_wp2_with fail
              refine bodyPost_ret (v := strFault [] 10 k) (by simp [results, Tryd.results16, go_sem, f0, f1, strFault]) rfl ⟨ret_eq HE'.out, ?_⟩
              exact bSet2 (bUp hbel hbw) (Nat.le_succ _) _ _
            have HE' := Lib.hid (show encFrom (byteF zs) pol text 0 [] = encFrom (byteF zs) pol (text.drop (k + 1)) (k + 1) (acc ++ missL (byteF zs) pol (nth text k)) by rw [HE.out, Hd.out, encFrom, if_neg hfx, if_neg hp1])
            have hml := missL_le (byteF zs) pol (nth text k)
            have q1 : (pol == 1) = false := by simpa using hp1
            by_cases hp2 : pol = 2
            · have q2 : (pol == 2) = true := by simpa using hp2
              have HM := Lib.hid (show missL (byteF zs) 2 0 = missL (byteF zs) pol (nth text k) by rw [hp2]; exact missL_two _ _ _)
              have hml2 := missL_le (byteF zs) 2 0
              have Hp1 := Lib.hid hp1
              have Hfx := Lib.hid hfx
              have Hp2 := Lib.hid hp2
              clear hp1 hfx hp2
              go_wp2_with fail
              refine wp_region_quiet_below (by kernel_rfl) (by kernel_rfl) ?_
              repeat (go_big_quiet_step (exact CB.out _ _))
              refine wpQuiet_nil ?_
              rintro _ ⟨⟨dq, osq⟩, rfl⟩
              have hb2 := below_regrown wr dq osq
              generalize grow (redrawn wr dq) osq = w2 at hb2 ⊢
              have hbw := bUp hbr hb2
              have c2 := cell_keep hbw b0
              go_wp2_with fail
              refine (rfInstead zs A cap _ (HA.out.keep (bUp hbel hbw)) hl').mono ?_
              rintro e w3 ⟨rfl, hb3⟩
              go_wp2_with fail
              go_roundw
              case rel => exact ⟨k + 1, _, by omega, by go_num, str_app _ _, by rw [List.length_append]; omega, by rw [HM.out]; exact HE', bUp hbw hb3⟩
              case measure => simp [intOf]; omega
            have q2 : (pol == 2) = false := by simpa using hp2
            by_cases hp4 : pol = 4
            · have q4 : (pol == 4) = true := by simpa using hp4
              have HM := Lib.hid (show missL (byteF zs) pol (nth text k) = putsL (byteF zs) (escL (nth text k)) by simp [missL, hp4])
              have hml2 : (putsL (byteF zs) (escL (nth text k))).length ≤ 10 := Nat.le_trans (putsL_le _ _) (escL_le _)
              have Hp1 := Lib.hid hp1
              have Hfx := Lib.hid hfx
              have Hp2 := Lib.hid hp2
              have Hp4 := Lib.hid hp4
              clear hp1 hfx hp2 hp4
              go_wp2_with fail
              refine wp_region_quiet_below (by kernel_rfl) (by kernel_rfl) ?_
              repeat (go_big_quiet_step (exact CB.out _ _))
              refine wpQuiet_nil ?_
              rintro _ ⟨⟨dq, osq⟩, rfl⟩
              have hb2 := below_regrown wr dq osq
              generalize grow (redrawn wr dq) osq = w2 at hb2 ⊢
              have hbw := bUp hbr hb2
              have c2 := cell_keep hbw b0
              have k2 := cell_regrown c2
              have k3 := cell_regrown (cell_keep hb2 hc)
              have cE := callsS (w := w2) (fun w' _ => rfWrittenEsc (nth text k) w')
              have cW := callsQ (w := w2) (fun w' hb => rfWritten zs A cap (escL (nth text k)) w' (HA.out.keep (bUp (bUp hbel hbw) hb)) hl' (by have := escL_le (nth text k); omega))
              have CE := Lib.hid cE
              have CW := Lib.hid cW
              clear cE cW
              go_wp2_with fail
              refine wp_region_quiet_below (by kernel_rfl) (by kernel_rfl) ?_
              repeat (go_big_quiet_step (first | exact CE.out _ _ | exact CW.out _ _))
              refine wpQuiet_nil ?_
              rintro _ ⟨⟨dq, osq⟩, rfl⟩
              have hb3 := below_regrown w2 dq osq
              generalize grow (redrawn w2 dq) osq = w3 at hb3 ⊢
              go_wp2_with fail
              go_roundw
              case rel => exact ⟨k + 1, _, by omega, by go_num, str_app _ _, by rw [List.length_append]; omega, by rw [← HM.out]; exact HE', bUp hbw hb3⟩
              case measure => simp [intOf]; omega
            · have q4 : (pol == 4) = false := by simpa using hp4
              have HM := Lib.hid (show missL (byteF zs) pol (nth text k) = [] by simp [missL, hp2, hp4])
              have Hp1 := Lib.hid hp1
              have Hfx := Lib.hid hfx
              have Hp2 := Lib.hid hp2
              have Hp4 := Lib.hid hp4
              clear hp1 hfx hp2 hp4
              go_wp2_with fail
              refine wp_region_quiet_below (by kernel_rfl) (by kernel_rfl) ?_
              repeat (go_big_quiet_step (exact CB.out _ _))
              refine wpQuiet_nil ?_
              rintro _ ⟨⟨dq, osq⟩, rfl⟩
              have hb2 := below_regrown wr dq osq
              generalize grow (redrawn wr dq) osq = w2 at hb2 ⊢
              go_wp2_with fail
              go_roundw
              case rel => exact ⟨k + 1, acc, by omega, by go_num, rfl, by omega, Lib.hid (by have := HE'.out; rw [HM.out, List.append_nil] at this; exact this), bUp hbr hb2⟩
              case measure => simp [intOf]; omega
          · have hfx : (byteF zs (nth text k)).isSome = true := by simp [byteF_some hq]
            have HP := Lib.hid (show putL (byteF zs) (nth text k) = [ub (byteL (nth text k) zs 0)] from putL_some (byteF_some hq))
            have HE' := Lib.hid (show encFrom (byteF zs) pol text 0 [] = encFrom (byteF zs) pol (text.drop (k + 1)) (k + 1) (acc ++ putL (byteF zs) (nth text k)) by rw [HE.out, Hd.out, encFrom, if_pos hfx])
            have hcv := fun w => conv1 (b := byteL (nth text k) zs 0) (by omega) (by omega) w
            have Hfx := Lib.hid hfx
            clear hfx
            go_wp2_with fail
            refine wp_region_quiet_below (by kernel_rfl) (by kernel_rfl) ?_
            repeat (go_big_quiet_step (exact CB.out _ _))
            refine wpQuiet_nil ?_
            rintro _ ⟨⟨dq, osq⟩, rfl⟩
            have hb2 := below_regrown wr dq osq
            generalize grow (redrawn wr dq) osq = w2 at hb2 ⊢
            go_wp2_with fail
            go_roundw
            case rel => exact ⟨k + 1, _, by omega, by go_num, str_app _ [_], by simp; omega, by rw [← HP.out]; exact HE', bUp (bUp hbr hb2) (bBox _ _)⟩
            case measure => simp [intOf]; omega
        · have HE' := Lib.hid (show encV zs text pol (byteF zs) = strFault acc 0 0 by rw [HV.out, HE.out, List.drop_of_length_le (by omega)]; rfl)
          have f0 := cell_keep hbr f0'
          have f1 := cell_keep hbr f1'
          have g0 := (hbr.frozen (p := ⟨w.heap.size + 1, 0, none⟩) hsz).trans g0'
          have g1 := (hbr.frozen (p := ⟨w.heap.size + 1, 1, none⟩) hsz).trans g1'
          go_wp2_with fail
          refine bodyPost_ret (v := strFault acc 0 0) (by simp [results, Tryd.results16, go_sem, f0, f1, strFault]) rfl ⟨ret_eq HE'.out, ?_⟩
          exact bSet2 (bUp hbel hbr) (Nat.le_succ _) _ _
  · have hc' : (checkC zs != 0) = true := by simpa using hc
    have HV := Lib.hid (show encV zs text pol (byteF zs) = strFault [] 11 0 by simp [encV, hc])
    have Hc := Lib.hid hc
    clear hc
    go_enter Tryd.func16, Tryd.ntmps16
    go_wp2_with fail
    refine (HC.out _ (bUp (bBox _ _) (bBox _ _))).mono ?_
    rintro e w1 ⟨rfl, hb1⟩
    obtain ⟨bc, fc, _, ff, hbel, hsz⟩ := two_boxes hb1
    have f0 := fc 0
    have f1 := fc 1
    have g0 := ff 0
    have g1 := ff 1
    clear hb1 bc fc ff
    go_wp2_with fail
    refine bodyPost_ret (v := strFault [] 11 0) (by simp [results, Tryd.results16, go_sem, f0, f1, strFault]) rfl ⟨ret_eq HV.out, ?_⟩
    exact bSet2 hbel (Nat.le_succ _) _ _
end Go.Proofs.YthpiopjpipdgnaaDoor
