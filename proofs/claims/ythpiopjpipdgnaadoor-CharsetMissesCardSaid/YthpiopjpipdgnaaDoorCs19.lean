/- ref06.Decode -/
import Derived.Test.YthpiopjpipdgnaaDoorCs18
namespace Go.Proofs.YthpiopjpipdgnaaDoor
open Go.RowKit Go.Sort

theorem strSlice (l : List UInt8) {j k : Nat} (h1 : j ≤ k) (h2 : k ≤ l.length) (w : World) : (Instr.slice 9 (.string ⟨l.toArray⟩) (some (.int .i64 j)) (some (.int .i64 k)) none).run Tryd.prog w = .ok (.string ⟨(seg l j k).toArray⟩) w := by
  have h3 : (j : Int) ≤ k := by omega
  have h4 : (k : Int) ≤ l.length := by omega
  simp [go_sem, Tryd.underlying9, h3, h4]
theorem seg_one {l : List UInt8} {k : Nat} (hk : k < l.length) : seg l k (k + 1) = [l[k]] := by rw [seg_snoc (Nat.le_refl k) hk, seg_self]; rfl
theorem bytesL_one {l : List UInt8} {k : Nat} (hk : k < l.length) : bytesL (seg l k (k + 1)) = escB (btN l k) := by rw [seg_one hk, btN_get hk]; simp [bytesL]
theorem missD_bytes {pol : Int} {l : List UInt8} {k : Nat} (hk : k < l.length) (h : pol = 4) : missD pol l[k] = bytesL (seg l k (k + 1)) := by
  rw [bytesL_one hk, btN_get hk]
  simp [missD, h, escB]

set_option maxHeartbeats 4000000 in
set_option maxRecDepth 100000 in
theorem rfDecode (zs : List Int) (A : Option Addr) (cap : Nat) (l : List UInt8) (pol : Int) (w : World) (hA : IntsAt w A zs) (hl : zs.length ≤ 300) (hl2 : l.length ≤ 1000) :
    Calls Tryd.prog 24 #[.agg #[.slice A zs.length cap], .string ⟨l.toArray⟩, .int .i64 pol] w (DecodeOut (decR zs l pol) w) := by
  have HC := Lib.hid (fun w' hb => refCheck zs A cap w' (IntsAt.keep hA hb) hl)
  have HA := Lib.hid hA
  clear hA
  by_cases hc : checkC zs = 0
  · have hc' : (checkC zs != 0) = false := by simpa using hc
    have HR := Lib.hid (codes_of_check hc).2.1
    have hz1 : zs.length ≤ 256 := by have := (codes_of_check hc).1; omega
    have hz2 : 256 ≤ zs.length := by have := (codes_of_check hc).1; omega
    cases hp : polB pol
    · have HV := Lib.hid (show decR zs l pol = ([], 8, 0) by simp [decR, hc, hp])
      have Hc := Lib.hid hc
      have Hp := Lib.hid hp
      clear hc hp
      go_enter Tryd.func24, Tryd.ntmps24
      go_wp2_with fail
      refine (HC.out _ (bUp (bBox _ _) (bBox _ _))).mono ?_
      rintro e w1 ⟨rfl, hb1⟩
      obtain ⟨bc, fc, _, ff, hbel, hsz⟩ := two_boxes hb1
      have f0 := fc 0
      have f1 := fc 1
      have g0 := ff 0
      have g1 := ff 1
      clear hb1 bc fc ff
      go_wp2_with (go_at_call 35; refine (rfPolicy _ _).mono ?_; rintro e w' ⟨rfl, rfl⟩; rw [Hp.out])
      refine bodyPost_ret (v := .tuple #[.slice none 0 0, .agg #[.int .i64 8, .int .i64 0]]) (by simp [results, Tryd.results24, go_sem, f0, f1]) rfl ?_
      rw [HV.out]
      exact ⟨none, 0, rfl, IntsAt.nil, bSet2 hbel (Nat.le_succ _) _ _⟩
    · have HV := Lib.hid (show decR zs l pol = decFrom zs pol l 0 [] by simp [decR, hc, hp])
      have Hc := Lib.hid hc
      have Hp := Lib.hid hp
      clear hc hp
      go_enter Tryd.func24, Tryd.ntmps24
      go_wp2_with fail
      refine (HC.out _ (bUp (bBox _ _) (bBox _ _))).mono ?_
      rintro e w1 ⟨rfl, hb1⟩
      obtain ⟨bc, fc, _, ff, hbel, hsz⟩ := two_boxes hb1
      have b0 := bc 0
      have f0' := fc 0
      have f1' := fc 1
      have g0' := ff 0
      have g1' := ff 1
      clear hb1 bc fc ff
      go_wp2_with (go_at_call 35; refine (rfPolicy _ _).mono ?_; rintro e w' ⟨rfl, rfl⟩; rw [Hp.out])
      go_loopw [8, 9] (fun o i wr => ∃ (k : Nat) (acc : List Int), k ≤ l.length ∧ i = .int .i64 k ∧ Hid (OwnI wr w1.heap.size o acc) ∧ acc.length ≤ 4 * k ∧ Hid (decR zs l pol = decFrom zs pol (l.drop k) k acc) ∧ Below w1.heap.size w1 wr) (fun _ i _ => l.length - (intOf i).toNat)
      case atStart => exact ⟨0, [], Nat.zero_le _, rfl, Lib.hid (OwnI.nil _ _), by simp, HV, Below.refl _ _⟩
      case round =>
        obtain ⟨k, acc, hk, rfl, HO, hacc, HE, hbr⟩ := hrel
        have c0 := cell_keep hbr b0
        by_cases hlt : k < l.length
        · have hbt := btN_lt l k
          have hbi : (btN l k : Int) < zs.length := by omega
          have hki : (k : Int) < l.length := by omega
          obtain ⟨b, off, rfl, hb, hcc⟩ := (HA.out.keep (bUp hbel hbr)).at_ (k := btN l k) (by omega)
          have k0 := cell_regrown c0
          have k1 := cell_regrown hcc
          by_cases hx : nth zs (btN l k) = -1
          · have hx' : decide (0 ≤ nth zs (btN l k)) = false := by rw [hx]; rfl
            by_cases hp1 : pol = 1
            · have HE' := Lib.hid (dec_fail hlt HE.out hx hp1)
              have q1 : (pol == 1) = true := by simpa using hp1
              have Hx := Lib.hid hx
              have Hp1 := Lib.hid hp1
              clear hx hp1
              go_wp2_with fail
              refine wp_region_quiet_below (by kernel_rfl) (by kernel_rfl) ?_
              repeat (go_big_quiet_step (fail))
              refine wpQuiet_nil ?_
              rintro _ ⟨⟨dq, osq⟩, rfl⟩
              have hb2 := below_regrown wr dq osq
              generalize grow (redrawn wr dq) osq = w2 at hb2 ⊢
              have hbw := bUp hbr hb2
              have f0 := cell_keep hbw f0'
              have f1 := cell_keep hbw f1'
              have g0 := (hbw.frozen (p := ⟨w.heap.size + 1, 0, none⟩) hsz).trans g0'
              have g1 := (hbw.frozen (p := ⟨w.heap.size + 1, 1, none⟩) hsz).trans g1'
              go_wp2_with fail
              refine bodyPost_ret (v := .tuple #[.slice none 0 0, .agg #[.int .i64 9, .int .i64 k]]) (by simp [results, Tryd.results24, go_sem, f0, f1]) rfl ?_
              rw [HE'.out]
              exact ⟨none, 0, rfl, IntsAt.nil, bSet2 (bUp hbel hbw) (Nat.le_succ _) _ _⟩
            have HE' := Lib.hid (dec_miss hlt HE.out hx hp1)
            have hml := missD_le pol l[k]
            have q1 : (pol == 1) = false := by simpa using hp1
            by_cases hp2 : pol = 2
            · have q2 : (pol == 2) = true := by simpa using hp2
              have HM := Lib.hid (show missD pol l[k] = [65533] by simp [missD, hp2])
              have Hx := Lib.hid hx
              have Hp1 := Lib.hid hp1
              have Hp2 := Lib.hid hp2
              clear hx hp1 hp2
              clear hml
              go_wp2_with fail
              refine wp_region_quiet_below (by kernel_rfl) (by kernel_rfl) ?_
              repeat (go_big_quiet_step (fail))
              refine wpQuiet_nil ?_
              rintro _ ⟨⟨dq, osq⟩, rfl⟩
              have hb2 := below_regrown wr dq osq
              generalize grow (redrawn wr dq) osq = w2 at hb2 ⊢
              go_wp2_with (at_builtin; refine wpI rfl _ _ rfl w1.heap.size rfl (HO.out.keep (bUp hb2 (bBox _ _))) [65533] rfl (ints_new _ _ _) (by simp) ?c1 ?c2 ?_)
              case c1 => simp; omega
              case c2 => have h1 := hbr.size; have h2 := hb2.size; simp; omega
              intro v' w3 hown3 hb3
              have hb4 := hb3 w1 (bUp (bUp hbr hb2) (bBox _ _))
              clear hb3
              go_wp2_with fail
              go_roundw
              case rel => exact ⟨k + 1, _, by omega, by go_num, hown3, by simp; omega, Lib.hid (by rw [HE'.out, HM.out]), hb4⟩
              case measure => simp [intOf]; omega
            have q2 : (pol == 2) = false := by simpa using hp2
            by_cases hp4 : pol = 4
            · have q4 : (pol == 4) = true := by simpa using hp4
              have HM := Lib.hid (missD_bytes hlt hp4)
              have hsl : (seg l k (k + 1)).length ≤ 1000 := by rw [seg_length (by omega)]; omega
              have hbl : (bytesL (seg l k (k + 1))).length ≤ 4 := by rw [← HM.out]; exact hml
              have hbp : 0 < (bytesL (seg l k (k + 1))).length := by rw [bytesL_one hlt]; exact Nat.succ_pos _
              have hss := strSlice l (Nat.le_succ k) hlt
              rw [show ((k.succ : Nat) : Int) = (k : Int) + 1 from rfl] at hss
              have Hx := Lib.hid hx
              have Hp1 := Lib.hid hp1
              have Hp2 := Lib.hid hp2
              have Hp4 := Lib.hid hp4
              clear hx hp1 hp2 hp4
              clear hml
              go_wp2_with fail
              refine wp_region_quiet_below (by kernel_rfl) (by kernel_rfl) ?_
              repeat (go_big_quiet_step (fail))
              refine wpQuiet_nil ?_
              rintro _ ⟨⟨dq, osq⟩, rfl⟩
              have hb2 := below_regrown wr dq osq
              generalize grow (redrawn wr dq) osq = w2 at hb2 ⊢
              go_wp2_with fail
              generalize hbs : bytesL (seg l k (k + 1)) = bs at HM hbl hbp
              refine (rf3Bytes (seg l k (k + 1)) _ hsl).mono ?_
              rw [hbs]
              rintro e w3 ⟨B, cB, rfl, hB, hb3⟩
              clear hbs
              have HB := Lib.hid hB
              clear hB
              go_wp2_with (at_builtin; refine wpI rfl _ _ rfl w1.heap.size rfl (HO.out.keep (bUp hb2 hb3)) bs rfl HB.out hbp ?c5 ?c6 ?_)
              case c5 => omega
              case c6 => have h1 := hbr.size; have h2 := hb2.size; have h3 := hb3.size; omega
              intro v' w5 hown4 hb6
              have hb5 := hb6 w1 (bUp (bUp hbr hb2) hb3)
              clear hb6
              go_wp2_with fail
              go_roundw
              case rel => exact ⟨k + 1, _, by omega, by go_num, hown4, by simp; omega, Lib.hid (by rw [HE'.out, HM.out]), hb5⟩
              case measure => simp [intOf]; omega
            · have q4 : (pol == 4) = false := by simpa using hp4
              have HM := Lib.hid (show missD pol l[k] = [] by simp [missD, hp2, hp4])
              have Hx := Lib.hid hx
              have Hp1 := Lib.hid hp1
              have Hp2 := Lib.hid hp2
              have Hp4 := Lib.hid hp4
              clear hx hp1 hp2 hp4
              clear hml
              go_wp2_with fail
              refine wp_region_quiet_below (by kernel_rfl) (by kernel_rfl) ?_
              repeat (go_big_quiet_step (fail))
              refine wpQuiet_nil ?_
              rintro _ ⟨⟨dq, osq⟩, rfl⟩
              have hb2 := below_regrown wr dq osq
              generalize grow (redrawn wr dq) osq = w2 at hb2 ⊢
              have HO2 := Lib.hid (HO.out.keep hb2)
              go_wp2_with fail
              go_roundw
              case rel => exact ⟨k + 1, acc, by omega, by go_num, HO2, by omega, Lib.hid (by rw [HE'.out, HM.out, List.append_nil]), bUp hbr hb2⟩
              case measure => simp [intOf]; omega
          · have hx' : decide (0 ≤ nth zs (btN l k)) = true := by have := codes_ok HR.out _ (nth_mem (zs := zs) (k := btN l k) (by omega)); simp; omega
            have HE' := Lib.hid (dec_hit hlt HE.out hx)
            have Hx := Lib.hid hx
            clear hx
            go_wp2_with fail
            refine wp_region_quiet_below (by kernel_rfl) (by kernel_rfl) ?_
            repeat (go_big_quiet_step (fail))
            refine wpQuiet_nil ?_
            rintro _ ⟨⟨dq, osq⟩, rfl⟩
            have hb2 := below_regrown wr dq osq
            generalize grow (redrawn wr dq) osq = w2 at hb2 ⊢
            go_wp2_with (at_builtin; refine wpI rfl _ _ rfl w1.heap.size rfl (HO.out.keep (bUp hb2 (bBox _ _))) [nth zs (btN l k)] rfl (ints_new _ _ _) (by simp) ?c3 ?c4 ?_)
            case c3 => simp; omega
            case c4 => have h1 := hbr.size; have h2 := hb2.size; simp; omega
            intro v' w3 hown3 hb3
            have hb4 := hb3 w1 (bUp (bUp hbr hb2) (bBox _ _))
            clear hb3
            go_wp2_with fail
            go_roundw
            case rel => exact ⟨k + 1, _, by omega, by go_num, hown3, by simp; omega, HE', hb4⟩
            case measure => simp [intOf]; omega
        · have hki : ¬ (k : Int) < l.length := by omega
          obtain ⟨A', c', rfl⟩ := HO.out.form
          have HE' := Lib.hid (show decR zs l pol = (acc, 0, 0) by rw [HE.out, List.drop_eq_nil_of_le (by omega)]; rfl)
          have f0 := cell_keep hbr f0'
          have f1 := cell_keep hbr f1'
          have g0 := (hbr.frozen (p := ⟨w.heap.size + 1, 0, none⟩) hsz).trans g0'
          have g1 := (hbr.frozen (p := ⟨w.heap.size + 1, 1, none⟩) hsz).trans g1'
          go_wp2_with fail
          refine bodyPost_ret (v := .tuple #[.slice A' acc.length c', .agg #[.int .i64 0, .int .i64 0]]) (by simp [results, Tryd.results24, go_sem, f0, f1]) rfl ?_
          rw [HE'.out]
          exact ⟨A', c', rfl, HO.out.set2 hsz _ _, bSet2 (bUp hbel hbr) (Nat.le_succ _) _ _⟩
  · have hc' : (checkC zs != 0) = true := by simpa using hc
    have HV := Lib.hid (show decR zs l pol = ([], 11, 0) by simp [decR, hc])
    have Hc := Lib.hid hc
    clear hc
    go_enter Tryd.func24, Tryd.ntmps24
    go_wp2_with fail
    refine (HC.out _ (bUp (bBox _ _) (bBox _ _))).mono ?_
    rintro e w1 ⟨rfl, hb1⟩
    obtain ⟨bc, fc, _, ff, hbel, hsz⟩ := two_boxes hb1
    have f0 := fc 0
    have f1 := fc 1
    have g0 := ff 0
    have g1 := ff 1
    clear hb1 bc fc ff
    go_wp2_with fail
    refine bodyPost_ret (v := .tuple #[.slice none 0 0, .agg #[.int .i64 11, .int .i64 0]]) (by simp [results, Tryd.results24, go_sem, f0, f1]) rfl ?_
    rw [HV.out]
    exact ⟨none, 0, rfl, IntsAt.nil, bSet2 hbel (Nat.le_succ _) _ _⟩
end Go.Proofs.YthpiopjpipdgnaaDoor
