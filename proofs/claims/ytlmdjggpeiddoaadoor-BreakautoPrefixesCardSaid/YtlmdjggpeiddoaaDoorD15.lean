/- breakrule.Check at one rule of two patterns of one class (written by wip/genBm19.py) -/
import Derived.Test.YtlmdjggpeiddoaaDoorD14
namespace Go.Proofs.YtlmdjggpeiddoaaDoor
open Go.RowKit Go.Sort

set_option maxHeartbeats 16000000 in
set_option maxRecDepth 100000 in
theorem chk1 (A : Option Addr) (ca cr L C0 o0 c0 C1 o1 c1 : Nat) (w : World) (hA : StrsAt w A [[65], [66]]) (hr : w.cell? ⟨L, 0, none⟩ = some (.int .i64 1)) (h1 : PatAt w L 1 0 C0 o0 c0) (h2 : PatAt w L 4 1 C1 o1 c1) :
    Calls Tryd.prog 27 #[.agg #[.slice A 2 ca, .slice (some ⟨L, 0, none⟩) 1 cr]] w fun e w' => e = .returned (.int .i64 0) ∧ Below w.heap.size w w' := by
  have HN := Lib.hid (fun w' h => namesValid [[65], [66]] A ca w' h (by decide) (by decide))
  rw [show namesOk [[65], [66]] = true from by kernel_rfl] at HN
  have HI := Lib.hid (fun w' => newInsp 2 w')
  have HA := Lib.hid hA
  have Hr := Lib.hid hr
  have H1 := Lib.hid h1
  have H2 := Lib.hid h2
  clear hA hr h1 h2
  go_enter Tryd.func27, Tryd.ntmps27
  go_wp2_with fail
  refine (HN.out _ (HA.out.keep (bBox _ _))).mono ?_
  rintro e w2 ⟨rfl, hb2⟩
  have k0 : w2.cell? ⟨w.heap.size, 0, none⟩ = some (.slice A 2 ca) := cell_keep hb2 (cell_box _ _ _ 0)
  have k1 : w2.cell? ⟨w.heap.size, 1, none⟩ = some (.slice (some ⟨L, 0, none⟩) 1 cr) := cell_keep hb2 (cell_box _ _ _ 1)
  have hb3 := bUp (bBox w _) hb2
  have hlt : w.heap.size < w2.heap.size := block_lt_of_cell k0
  clear hb2
  go_wp2_with fail
  refine (HI.out _).mono ?_
  rintro e w4 ⟨rfl, hm, hb4⟩
  have hb5 := bUp (bUp hb3 hb4) (bBox w4 (.cells #[.int .i64 2, .map (some (w2.heap.size + 1))] 72))
  have m0 := cell_keep (bBox w4 (.cells #[.int .i64 2, .map (some (w2.heap.size + 1))] 72)) (cell_keep hb4 k0)
  have m1 := cell_keep (bBox w4 (.cells #[.int .i64 2, .map (some (w2.heap.size + 1))] 72)) (cell_keep hb4 k1)
  have i0 : (w4.alloc (.cells #[.int .i64 2, .map (some (w2.heap.size + 1))] 72)).cell? ⟨w4.heap.size, 0, none⟩ = some (.int .i64 2) := cell_box _ _ _ 0
  have i1 : (w4.alloc (.cells #[.int .i64 2, .map (some (w2.heap.size + 1))] 72)).cell? ⟨w4.heap.size, 1, none⟩ = some (.map (some (w2.heap.size + 1))) := cell_box _ _ _ 1
  have HM := Lib.hid (MapP.keep (c := 0) (es := #[]) (show MapP w4 (w2.heap.size + 1) #[] 0 from hm.out) (bBox w4 (.cells #[.int .i64 2, .map (some (w2.heap.size + 1))] 72)))
  have hMw : w.heap.size ≤ w2.heap.size + 1 := by omega
  clear k0 k1 hlt hm hb3 HN HI
  go_upto_region 4 with fail
  generalize w4.alloc (.cells #[.int .i64 2, .map (some (w2.heap.size + 1))] 72) = w5 at hb5 m0 m1 i0 i1 HM ⊢
  generalize w2.heap.size + 1 = M at hMw i0 i1 HM
  generalize w4.heap.size = I at i0 i1 ⊢
  clear hb4
  have hr5 := cell_keep hb5 Hr.out
  have P1 := Lib.hid (H1.out.keep hb5)
  have P2 := Lib.hid (H2.out.keep hb5)
  clear H1 H2 Hr HA
  have hlL : L < w5.heap.size := block_lt_of_cell hr5
  go_wp2_with fail
  refine wp_loop_rounds 2 ?_
  rw [rounds_succ]
  go_upto_region 11 with fail
  go_cut [7, 8] (fun x y wx => ∃ X Y, x = .pointer (some ⟨X, 0, none⟩) ∧ y = .pointer (some ⟨Y, 0, none⟩) ∧ Hid (w5.grownBy wx (some M)) ∧ Hid (Blk wx X #[.int .i64 1, .int .i64 1] 76) ∧ Hid (Blk wx Y #[.int .i64 1, .int .i64 1] 76))
  case first =>
    refine wp_region_held_drew (S := fun (w' : World) => w'.cell? ⟨I, 0, none⟩ = some (.int .i64 2) ∧ w'.cell? ⟨I, 1, none⟩ = some (.map (some M))) (by kernel_rfl) ⟨i0, i1⟩ ?_
    intro hHeld
    have HG := Lib.hid (grown_below (Below.refl w5.heap.size w5).drew (some M))
    have HMp := Lib.hid (HM.out.keep (Below.refl w5.heap.size w5).drew)
    generalize w5.drew = v0 at HG HMp hHeld ⊢
    have f0 := HM.out.cell HG.out i0
    have f1 := HM.out.cell HG.out i1
    refine wpAnyH_take (i := 0) (v := ?_) rfl (by kernel_rfl) (by kernel_rfl) (by kernel_rfl) (fun _ _ _ h => h) (Or.inl ⟨by rfl, ?_⟩) (by assumption) ?_
    rotate_left 1
    · intro w hSw
      (try dsimp only at hSw)
      go_simp
      (try with_reducible rfl)
    refine wpAnyH_take (i := 1) (v := ?_) rfl (by kernel_rfl) (by kernel_rfl) (by kernel_rfl) (fun _ _ _ h => h) (Or.inl ⟨by rfl, ?_⟩) (by assumption) ?_
    rotate_left 1
    · intro w hSw
      (try dsimp only at hSw)
      go_simp
      (try with_reducible rfl)
    refine wpAnyH_take (i := 2) (v := ?_) rfl (by kernel_rfl) (by kernel_rfl) (by kernel_rfl) (fun _ _ _ h => h) (Or.inl ⟨by rfl, ?_⟩) (by assumption) ?_
    rotate_left 1
    · intro w hSw
      (try dsimp only at hSw)
      go_simp
      (try with_reducible rfl)
    refine wpAnyH_take (i := 3) (v := ?_) rfl (by kernel_rfl) (by kernel_rfl) (by kernel_rfl) (fun _ _ _ h => h) (Or.inl ⟨by rfl, ?_⟩) (by assumption) ?_
    rotate_left 1
    · intro w hSw
      (try dsimp only at hSw)
      go_simp
      (try with_reducible rfl)
    refine wpAnyH_take (i := 5) (v := ?_) rfl (by kernel_rfl) (by kernel_rfl) (by kernel_rfl) (fun _ _ _ h => h) (Or.inl ⟨by rfl, ?_⟩) (by assumption) ?_
    rotate_left 1
    · intro w hSw
      (try dsimp only at hSw)
      go_simp
      (try with_reducible rfl)
    refine wpAnyH_take (i := 6) (v := ?_) rfl (by kernel_rfl) (by kernel_rfl) (by kernel_rfl) (fun _ _ _ h => h) (Or.inl ⟨by rfl, ?_⟩) (by assumption) ?_
    rotate_left 1
    · intro w hSw
      (try dsimp only at hSw)
      go_simp
      (try with_reducible rfl)
    refine wpAnyH_take (i := 7) (v := ?_) rfl (by kernel_rfl) (by kernel_rfl) (by kernel_rfl) (fun _ _ _ h => h) (Or.inl ⟨by rfl, ?_⟩) (by assumption) ?_
    rotate_left 1
    · intro w hSw
      (try dsimp only at hSw)
      go_simp
      (try with_reducible rfl)
    refine wpAnyH_take (i := 8) (v := ?_) rfl (by kernel_rfl) (by kernel_rfl) (by kernel_rfl) (fun _ _ _ h => h) (Or.inl ⟨by rfl, ?_⟩) (by assumption) ?_
    rotate_left 1
    · intro w hSw
      (try dsimp only at hSw)
      go_simp
      (try with_reducible rfl)
    clear hHeld
    refine wpAnyH_ready (rs := [4, 10, 11]) (by kernel_rfl) (by simp) ?_
    refine AllReadyH.cons rfl (fun K hK => ?_) (AllReadyH.cons rfl (fun K hK => ?_) (AllReadyH.cons rfl (fun K hK => ?_) AllReadyH.nil))
    · skip
      go_simp
      refine (size0 0 (.inl rfl) M L 1 C0 o0 c0 0 v0 (HM.out.pat HG.out P1.out) HMp.out).mono ?_
      rintro e4 v1 ⟨rfl, hMm, hGm⟩
      replace HG := Lib.hid (grown_trans HG.out hGm.out)
      replace HMp := hMm
      clear hGm
      replace f0 := HM.out.cell HG.out i0
      replace f1 := HM.out.cell HG.out i1
      refine hK.out _ _ ⟨f0, f1⟩ (fun _ => ?_)
      clear hK K
      refine wpAnyH_ready (rs := [9, 10, 11]) (by kernel_rfl) (by simp) ?_
      refine AllReadyH.cons rfl (fun K hK => ?_) (AllReadyH.cons rfl (fun K hK => ?_) (AllReadyH.cons rfl (fun K hK => ?_) AllReadyH.nil))
      · skip
        go_simp
        refine (size1 1 (.inr rfl) M L 4 1 C1 o1 c1 1 0 (.agg #[.int .i64 1, .int .i64 1]) v1 (by decide) (HM.out.pat HG.out P2.out) HMp.out).mono ?_
        rintro e4 v2 ⟨rfl, hMm, hGm⟩
        replace HG := Lib.hid (grown_trans HG.out hGm.out)
        replace HMp := hMm
        clear hGm
        replace f0 := HM.out.cell HG.out i0
        replace f1 := HM.out.cell HG.out i1
        refine hK.out _ _ ⟨f0, f1⟩ (fun _ => ?_)
        clear hK K
        refine wpAnyH_ready (rs := [10, 11]) (by kernel_rfl) (by simp) ?_
        refine AllReadyH.cons rfl (fun K hK => ?_) (AllReadyH.cons rfl (fun K hK => ?_) AllReadyH.nil)
        · skip
          go_simp
          have hbx := bBox v2 (.cells #[.int .i64 0, .int .i64 0] 76)
          have HX : Hid (Blk (v2.alloc (.cells #[.int .i64 0, .int .i64 0] 76)) v2.heap.size #[.int .i64 0, .int .i64 0] 76) := Lib.hid (Blk.new _ _ _)
          have hX5 : w5.heap.size ≤ v2.heap.size := HG.out.size
          replace HG := Lib.hid (grown_trans HG.out (grown_below hbx (some M)))
          replace HMp := Lib.hid (HMp.out.keep hbx)
          clear hbx
          generalize v2.alloc (.cells #[.int .i64 0, .int .i64 0] 76) = v3 at HX HG HMp ⊢
          generalize v2.heap.size = X at HX hX5 ⊢
          replace f0 := HM.out.cell HG.out i0
          replace f1 := HM.out.cell HG.out i1
          refine hK.out _ _ ⟨f0, f1⟩ (fun _ => ?_)
          clear hK K
          refine wpAnyH_ready (rs := [11]) (by kernel_rfl) (by simp) ?_
          refine AllReadyH.cons rfl (fun K hK => ?_) AllReadyH.nil
          go_simp
          have hbx := bBox v3 (.cells #[.int .i64 0, .int .i64 0] 76)
          have HY : Hid (Blk (v3.alloc (.cells #[.int .i64 0, .int .i64 0] 76)) v3.heap.size #[.int .i64 0, .int .i64 0] 76) := Lib.hid (Blk.new _ _ _)
          have hY5 : w5.heap.size ≤ v3.heap.size := HG.out.size
          have hXY : v3.heap.size ≠ X := by have := HX.out.lt; omega
          replace HX := Lib.hid (HX.out.keep hbx)
          replace HG := Lib.hid (grown_trans HG.out (grown_below hbx (some M)))
          replace HMp := Lib.hid (HMp.out.keep hbx)
          clear hbx
          generalize v3.alloc (.cells #[.int .i64 0, .int .i64 0] 76) = v4 at HY HG HMp HX ⊢
          generalize v3.heap.size = Y at HY hY5 hXY ⊢
          replace f0 := HM.out.cell HG.out i0
          replace f1 := HM.out.cell HG.out i1
          refine hK.out _ _ ⟨f0, f1⟩ (fun _ => ?_)
          clear hK K
          have a0 : v4.cell? ⟨X, 0, none⟩ = some (.int .i64 0) := HX.out.cell 0
          have a1 : v4.cell? ⟨X, 1, none⟩ = some (.int .i64 0) := HX.out.cell 1
          have a2 : v4.frozen? ⟨X, 0, none⟩ = false := HX.out.frozen 0
          have a3 : v4.frozen? ⟨X, 1, none⟩ = false := HX.out.frozen 1
          replace HY := Lib.hid ((HY.out.grown (grown_set v4 ⟨X, 0, none⟩ (.int .i64 1)) (fun e => by injection e with e; exact hXY e)).grown (grown_set _ ⟨X, 1, none⟩ (.int .i64 1)) (fun e => by injection e with e; exact hXY e))
          replace HX := Lib.hid ((HX.out.setAll (i := 0) (.int .i64 1)).setAll (i := 1) (.int .i64 1))
          replace HG := Lib.hid (grown_new (grown_new HG.out (p := ⟨X, 0, none⟩) hX5 (.int .i64 1)) (p := ⟨X, 1, none⟩) hX5 (.int .i64 1))
          refine wpAnyH_ready (rs := [12]) (by kernel_rfl) (by simp) ?_
          refine AllReadyH.cons rfl (fun K hK => ?_) AllReadyH.nil
          go_simp
          generalize (v4.setCell ⟨X, 0, none⟩ (.int .i64 1)).setCell ⟨X, 1, none⟩ (.int .i64 1) = zXv4 at HX HY HG ⊢
          clear a0 a1 a2 a3
          replace f0 := HM.out.cell HG.out i0
          replace f1 := HM.out.cell HG.out i1
          refine hK.out _ _ ⟨f0, f1⟩ (fun _ => ?_)
          clear hK K
          have a0 : zXv4.cell? ⟨Y, 0, none⟩ = some (.int .i64 0) := HY.out.cell 0
          have a1 : zXv4.cell? ⟨Y, 1, none⟩ = some (.int .i64 0) := HY.out.cell 1
          have a2 : zXv4.frozen? ⟨Y, 0, none⟩ = false := HY.out.frozen 0
          have a3 : zXv4.frozen? ⟨Y, 1, none⟩ = false := HY.out.frozen 1
          replace HX := Lib.hid ((HX.out.grown (grown_set zXv4 ⟨Y, 0, none⟩ (.int .i64 1)) (fun e => by injection e with e; exact hXY e.symm)).grown (grown_set _ ⟨Y, 1, none⟩ (.int .i64 1)) (fun e => by injection e with e; exact hXY e.symm))
          replace HY := Lib.hid ((HY.out.setAll (i := 0) (.int .i64 1)).setAll (i := 1) (.int .i64 1))
          replace HG := Lib.hid (grown_new (grown_new HG.out (p := ⟨Y, 0, none⟩) hY5 (.int .i64 1)) (p := ⟨Y, 1, none⟩) hY5 (.int .i64 1))
          refine wpAnyH_ready (rs := [13]) (by kernel_rfl) (by simp) ?_
          refine AllReadyH.cons rfl (fun K hK => ?_) AllReadyH.nil
          go_simp
          generalize (zXv4.setCell ⟨Y, 0, none⟩ (.int .i64 1)).setCell ⟨Y, 1, none⟩ (.int .i64 1) = zYzXv4 at HX HY HG ⊢
          clear a0 a1 a2 a3
          replace f0 := HM.out.cell HG.out i0
          replace f1 := HM.out.cell HG.out i1
          refine hK.out _ _ ⟨f0, f1⟩ (fun _ => ?_)
          clear hK K
          refine wpAnyH_done (by kernel_rfl) ?_ _
          go_wp2_with fail
          go_meet
          exact ⟨X, Y, rfl, rfl, HG, HX, HY⟩
        · skip
          go_simp
          have hbx := bBox v2 (.cells #[.int .i64 0, .int .i64 0] 76)
          have HY : Hid (Blk (v2.alloc (.cells #[.int .i64 0, .int .i64 0] 76)) v2.heap.size #[.int .i64 0, .int .i64 0] 76) := Lib.hid (Blk.new _ _ _)
          have hY5 : w5.heap.size ≤ v2.heap.size := HG.out.size
          replace HG := Lib.hid (grown_trans HG.out (grown_below hbx (some M)))
          replace HMp := Lib.hid (HMp.out.keep hbx)
          clear hbx
          generalize v2.alloc (.cells #[.int .i64 0, .int .i64 0] 76) = v5 at HY HG HMp ⊢
          generalize v2.heap.size = Y at HY hY5 ⊢
          replace f0 := HM.out.cell HG.out i0
          replace f1 := HM.out.cell HG.out i1
          refine hK.out _ _ ⟨f0, f1⟩ (fun _ => ?_)
          clear hK K
          refine wpAnyH_ready (rs := [10]) (by kernel_rfl) (by simp) ?_
          refine AllReadyH.cons rfl (fun K hK => ?_) AllReadyH.nil
          go_simp
          have hbx := bBox v5 (.cells #[.int .i64 0, .int .i64 0] 76)
          have HX : Hid (Blk (v5.alloc (.cells #[.int .i64 0, .int .i64 0] 76)) v5.heap.size #[.int .i64 0, .int .i64 0] 76) := Lib.hid (Blk.new _ _ _)
          have hX5 : w5.heap.size ≤ v5.heap.size := HG.out.size
          have hXY : v5.heap.size ≠ Y := by have := HY.out.lt; omega
          replace HY := Lib.hid (HY.out.keep hbx)
          replace HG := Lib.hid (grown_trans HG.out (grown_below hbx (some M)))
          replace HMp := Lib.hid (HMp.out.keep hbx)
          clear hbx
          generalize v5.alloc (.cells #[.int .i64 0, .int .i64 0] 76) = v6 at HX HG HMp HY ⊢
          generalize v5.heap.size = X at HX hX5 hXY ⊢
          replace f0 := HM.out.cell HG.out i0
          replace f1 := HM.out.cell HG.out i1
          refine hK.out _ _ ⟨f0, f1⟩ (fun _ => ?_)
          clear hK K
          have a0 : v6.cell? ⟨X, 0, none⟩ = some (.int .i64 0) := HX.out.cell 0
          have a1 : v6.cell? ⟨X, 1, none⟩ = some (.int .i64 0) := HX.out.cell 1
          have a2 : v6.frozen? ⟨X, 0, none⟩ = false := HX.out.frozen 0
          have a3 : v6.frozen? ⟨X, 1, none⟩ = false := HX.out.frozen 1
          replace HY := Lib.hid ((HY.out.grown (grown_set v6 ⟨X, 0, none⟩ (.int .i64 1)) (fun e => by injection e with e; exact hXY e.symm)).grown (grown_set _ ⟨X, 1, none⟩ (.int .i64 1)) (fun e => by injection e with e; exact hXY e.symm))
          replace HX := Lib.hid ((HX.out.setAll (i := 0) (.int .i64 1)).setAll (i := 1) (.int .i64 1))
          replace HG := Lib.hid (grown_new (grown_new HG.out (p := ⟨X, 0, none⟩) hX5 (.int .i64 1)) (p := ⟨X, 1, none⟩) hX5 (.int .i64 1))
          refine wpAnyH_ready (rs := [12]) (by kernel_rfl) (by simp) ?_
          refine AllReadyH.cons rfl (fun K hK => ?_) AllReadyH.nil
          go_simp
          generalize (v6.setCell ⟨X, 0, none⟩ (.int .i64 1)).setCell ⟨X, 1, none⟩ (.int .i64 1) = zXv6 at HX HY HG ⊢
          clear a0 a1 a2 a3
          replace f0 := HM.out.cell HG.out i0
          replace f1 := HM.out.cell HG.out i1
          refine hK.out _ _ ⟨f0, f1⟩ (fun _ => ?_)
          clear hK K
          have a0 : zXv6.cell? ⟨Y, 0, none⟩ = some (.int .i64 0) := HY.out.cell 0
          have a1 : zXv6.cell? ⟨Y, 1, none⟩ = some (.int .i64 0) := HY.out.cell 1
          have a2 : zXv6.frozen? ⟨Y, 0, none⟩ = false := HY.out.frozen 0
          have a3 : zXv6.frozen? ⟨Y, 1, none⟩ = false := HY.out.frozen 1
          replace HX := Lib.hid ((HX.out.grown (grown_set zXv6 ⟨Y, 0, none⟩ (.int .i64 1)) (fun e => by injection e with e; exact hXY e)).grown (grown_set _ ⟨Y, 1, none⟩ (.int .i64 1)) (fun e => by injection e with e; exact hXY e))
          replace HY := Lib.hid ((HY.out.setAll (i := 0) (.int .i64 1)).setAll (i := 1) (.int .i64 1))
          replace HG := Lib.hid (grown_new (grown_new HG.out (p := ⟨Y, 0, none⟩) hY5 (.int .i64 1)) (p := ⟨Y, 1, none⟩) hY5 (.int .i64 1))
          refine wpAnyH_ready (rs := [13]) (by kernel_rfl) (by simp) ?_
          refine AllReadyH.cons rfl (fun K hK => ?_) AllReadyH.nil
          go_simp
          generalize (zXv6.setCell ⟨Y, 0, none⟩ (.int .i64 1)).setCell ⟨Y, 1, none⟩ (.int .i64 1) = zYzXv6 at HX HY HG ⊢
          clear a0 a1 a2 a3
          replace f0 := HM.out.cell HG.out i0
          replace f1 := HM.out.cell HG.out i1
          refine hK.out _ _ ⟨f0, f1⟩ (fun _ => ?_)
          clear hK K
          refine wpAnyH_done (by kernel_rfl) ?_ _
          go_wp2_with fail
          go_meet
          exact ⟨X, Y, rfl, rfl, HG, HX, HY⟩
      · skip
        go_simp
        have hbx := bBox v1 (.cells #[.int .i64 0, .int .i64 0] 76)
        have HX : Hid (Blk (v1.alloc (.cells #[.int .i64 0, .int .i64 0] 76)) v1.heap.size #[.int .i64 0, .int .i64 0] 76) := Lib.hid (Blk.new _ _ _)
        have hX5 : w5.heap.size ≤ v1.heap.size := HG.out.size
        replace HG := Lib.hid (grown_trans HG.out (grown_below hbx (some M)))
        replace HMp := Lib.hid (HMp.out.keep hbx)
        clear hbx
        generalize v1.alloc (.cells #[.int .i64 0, .int .i64 0] 76) = v7 at HX HG HMp ⊢
        generalize v1.heap.size = X at HX hX5 ⊢
        replace f0 := HM.out.cell HG.out i0
        replace f1 := HM.out.cell HG.out i1
        refine hK.out _ _ ⟨f0, f1⟩ (fun _ => ?_)
        clear hK K
        refine wpAnyH_ready (rs := [9, 11]) (by kernel_rfl) (by simp) ?_
        refine AllReadyH.cons rfl (fun K hK => ?_) (AllReadyH.cons rfl (fun K hK => ?_) AllReadyH.nil)
        · skip
          go_simp
          refine (size1 1 (.inr rfl) M L 4 1 C1 o1 c1 1 0 (.agg #[.int .i64 1, .int .i64 1]) v7 (by decide) (HM.out.pat HG.out P2.out) HMp.out).mono ?_
          rintro e4 v8 ⟨rfl, hMm, hGm⟩
          replace HX := Lib.hid (HMp.out.blk hGm.out HX.out)
          replace HG := Lib.hid (grown_trans HG.out hGm.out)
          replace HMp := hMm
          clear hGm
          replace f0 := HM.out.cell HG.out i0
          replace f1 := HM.out.cell HG.out i1
          refine hK.out _ _ ⟨f0, f1⟩ (fun _ => ?_)
          clear hK K
          refine wpAnyH_ready (rs := [11]) (by kernel_rfl) (by simp) ?_
          refine AllReadyH.cons rfl (fun K hK => ?_) AllReadyH.nil
          go_simp
          have hbx := bBox v8 (.cells #[.int .i64 0, .int .i64 0] 76)
          have HY : Hid (Blk (v8.alloc (.cells #[.int .i64 0, .int .i64 0] 76)) v8.heap.size #[.int .i64 0, .int .i64 0] 76) := Lib.hid (Blk.new _ _ _)
          have hY5 : w5.heap.size ≤ v8.heap.size := HG.out.size
          have hXY : v8.heap.size ≠ X := by have := HX.out.lt; omega
          replace HX := Lib.hid (HX.out.keep hbx)
          replace HG := Lib.hid (grown_trans HG.out (grown_below hbx (some M)))
          replace HMp := Lib.hid (HMp.out.keep hbx)
          clear hbx
          generalize v8.alloc (.cells #[.int .i64 0, .int .i64 0] 76) = v9 at HY HG HMp HX ⊢
          generalize v8.heap.size = Y at HY hY5 hXY ⊢
          replace f0 := HM.out.cell HG.out i0
          replace f1 := HM.out.cell HG.out i1
          refine hK.out _ _ ⟨f0, f1⟩ (fun _ => ?_)
          clear hK K
          have a0 : v9.cell? ⟨X, 0, none⟩ = some (.int .i64 0) := HX.out.cell 0
          have a1 : v9.cell? ⟨X, 1, none⟩ = some (.int .i64 0) := HX.out.cell 1
          have a2 : v9.frozen? ⟨X, 0, none⟩ = false := HX.out.frozen 0
          have a3 : v9.frozen? ⟨X, 1, none⟩ = false := HX.out.frozen 1
          replace HY := Lib.hid ((HY.out.grown (grown_set v9 ⟨X, 0, none⟩ (.int .i64 1)) (fun e => by injection e with e; exact hXY e)).grown (grown_set _ ⟨X, 1, none⟩ (.int .i64 1)) (fun e => by injection e with e; exact hXY e))
          replace HX := Lib.hid ((HX.out.setAll (i := 0) (.int .i64 1)).setAll (i := 1) (.int .i64 1))
          replace HG := Lib.hid (grown_new (grown_new HG.out (p := ⟨X, 0, none⟩) hX5 (.int .i64 1)) (p := ⟨X, 1, none⟩) hX5 (.int .i64 1))
          refine wpAnyH_ready (rs := [12]) (by kernel_rfl) (by simp) ?_
          refine AllReadyH.cons rfl (fun K hK => ?_) AllReadyH.nil
          go_simp
          generalize (v9.setCell ⟨X, 0, none⟩ (.int .i64 1)).setCell ⟨X, 1, none⟩ (.int .i64 1) = zXv9 at HX HY HG ⊢
          clear a0 a1 a2 a3
          replace f0 := HM.out.cell HG.out i0
          replace f1 := HM.out.cell HG.out i1
          refine hK.out _ _ ⟨f0, f1⟩ (fun _ => ?_)
          clear hK K
          have a0 : zXv9.cell? ⟨Y, 0, none⟩ = some (.int .i64 0) := HY.out.cell 0
          have a1 : zXv9.cell? ⟨Y, 1, none⟩ = some (.int .i64 0) := HY.out.cell 1
          have a2 : zXv9.frozen? ⟨Y, 0, none⟩ = false := HY.out.frozen 0
          have a3 : zXv9.frozen? ⟨Y, 1, none⟩ = false := HY.out.frozen 1
          replace HX := Lib.hid ((HX.out.grown (grown_set zXv9 ⟨Y, 0, none⟩ (.int .i64 1)) (fun e => by injection e with e; exact hXY e.symm)).grown (grown_set _ ⟨Y, 1, none⟩ (.int .i64 1)) (fun e => by injection e with e; exact hXY e.symm))
          replace HY := Lib.hid ((HY.out.setAll (i := 0) (.int .i64 1)).setAll (i := 1) (.int .i64 1))
          replace HG := Lib.hid (grown_new (grown_new HG.out (p := ⟨Y, 0, none⟩) hY5 (.int .i64 1)) (p := ⟨Y, 1, none⟩) hY5 (.int .i64 1))
          refine wpAnyH_ready (rs := [13]) (by kernel_rfl) (by simp) ?_
          refine AllReadyH.cons rfl (fun K hK => ?_) AllReadyH.nil
          go_simp
          generalize (zXv9.setCell ⟨Y, 0, none⟩ (.int .i64 1)).setCell ⟨Y, 1, none⟩ (.int .i64 1) = zYzXv9 at HX HY HG ⊢
          clear a0 a1 a2 a3
          replace f0 := HM.out.cell HG.out i0
          replace f1 := HM.out.cell HG.out i1
          refine hK.out _ _ ⟨f0, f1⟩ (fun _ => ?_)
          clear hK K
          refine wpAnyH_done (by kernel_rfl) ?_ _
          go_wp2_with fail
          go_meet
          exact ⟨X, Y, rfl, rfl, HG, HX, HY⟩
        · skip
          go_simp
          have hbx := bBox v7 (.cells #[.int .i64 0, .int .i64 0] 76)
          have HY : Hid (Blk (v7.alloc (.cells #[.int .i64 0, .int .i64 0] 76)) v7.heap.size #[.int .i64 0, .int .i64 0] 76) := Lib.hid (Blk.new _ _ _)
          have hY5 : w5.heap.size ≤ v7.heap.size := HG.out.size
          have hXY : v7.heap.size ≠ X := by have := HX.out.lt; omega
          replace HX := Lib.hid (HX.out.keep hbx)
          replace HG := Lib.hid (grown_trans HG.out (grown_below hbx (some M)))
          replace HMp := Lib.hid (HMp.out.keep hbx)
          clear hbx
          generalize v7.alloc (.cells #[.int .i64 0, .int .i64 0] 76) = v10 at HY HG HMp HX ⊢
          generalize v7.heap.size = Y at HY hY5 hXY ⊢
          replace f0 := HM.out.cell HG.out i0
          replace f1 := HM.out.cell HG.out i1
          refine hK.out _ _ ⟨f0, f1⟩ (fun _ => ?_)
          clear hK K
          refine wpAnyH_ready (rs := [9]) (by kernel_rfl) (by simp) ?_
          refine AllReadyH.cons rfl (fun K hK => ?_) AllReadyH.nil
          go_simp
          refine (size1 1 (.inr rfl) M L 4 1 C1 o1 c1 1 0 (.agg #[.int .i64 1, .int .i64 1]) v10 (by decide) (HM.out.pat HG.out P2.out) HMp.out).mono ?_
          rintro e4 v11 ⟨rfl, hMm, hGm⟩
          replace HX := Lib.hid (HMp.out.blk hGm.out HX.out)
          replace HY := Lib.hid (HMp.out.blk hGm.out HY.out)
          replace HG := Lib.hid (grown_trans HG.out hGm.out)
          replace HMp := hMm
          clear hGm
          replace f0 := HM.out.cell HG.out i0
          replace f1 := HM.out.cell HG.out i1
          refine hK.out _ _ ⟨f0, f1⟩ (fun _ => ?_)
          clear hK K
          have a0 : v11.cell? ⟨X, 0, none⟩ = some (.int .i64 0) := HX.out.cell 0
          have a1 : v11.cell? ⟨X, 1, none⟩ = some (.int .i64 0) := HX.out.cell 1
          have a2 : v11.frozen? ⟨X, 0, none⟩ = false := HX.out.frozen 0
          have a3 : v11.frozen? ⟨X, 1, none⟩ = false := HX.out.frozen 1
          replace HY := Lib.hid ((HY.out.grown (grown_set v11 ⟨X, 0, none⟩ (.int .i64 1)) (fun e => by injection e with e; exact hXY e)).grown (grown_set _ ⟨X, 1, none⟩ (.int .i64 1)) (fun e => by injection e with e; exact hXY e))
          replace HX := Lib.hid ((HX.out.setAll (i := 0) (.int .i64 1)).setAll (i := 1) (.int .i64 1))
          replace HG := Lib.hid (grown_new (grown_new HG.out (p := ⟨X, 0, none⟩) hX5 (.int .i64 1)) (p := ⟨X, 1, none⟩) hX5 (.int .i64 1))
          refine wpAnyH_ready (rs := [12]) (by kernel_rfl) (by simp) ?_
          refine AllReadyH.cons rfl (fun K hK => ?_) AllReadyH.nil
          go_simp
          generalize (v11.setCell ⟨X, 0, none⟩ (.int .i64 1)).setCell ⟨X, 1, none⟩ (.int .i64 1) = zXv11 at HX HY HG ⊢
          clear a0 a1 a2 a3
          replace f0 := HM.out.cell HG.out i0
          replace f1 := HM.out.cell HG.out i1
          refine hK.out _ _ ⟨f0, f1⟩ (fun _ => ?_)
          clear hK K
          have a0 : zXv11.cell? ⟨Y, 0, none⟩ = some (.int .i64 0) := HY.out.cell 0
          have a1 : zXv11.cell? ⟨Y, 1, none⟩ = some (.int .i64 0) := HY.out.cell 1
          have a2 : zXv11.frozen? ⟨Y, 0, none⟩ = false := HY.out.frozen 0
          have a3 : zXv11.frozen? ⟨Y, 1, none⟩ = false := HY.out.frozen 1
          replace HX := Lib.hid ((HX.out.grown (grown_set zXv11 ⟨Y, 0, none⟩ (.int .i64 1)) (fun e => by injection e with e; exact hXY e.symm)).grown (grown_set _ ⟨Y, 1, none⟩ (.int .i64 1)) (fun e => by injection e with e; exact hXY e.symm))
          replace HY := Lib.hid ((HY.out.setAll (i := 0) (.int .i64 1)).setAll (i := 1) (.int .i64 1))
          replace HG := Lib.hid (grown_new (grown_new HG.out (p := ⟨Y, 0, none⟩) hY5 (.int .i64 1)) (p := ⟨Y, 1, none⟩) hY5 (.int .i64 1))
          refine wpAnyH_ready (rs := [13]) (by kernel_rfl) (by simp) ?_
          refine AllReadyH.cons rfl (fun K hK => ?_) AllReadyH.nil
          go_simp
          generalize (zXv11.setCell ⟨Y, 0, none⟩ (.int .i64 1)).setCell ⟨Y, 1, none⟩ (.int .i64 1) = zYzXv11 at HX HY HG ⊢
          clear a0 a1 a2 a3
          replace f0 := HM.out.cell HG.out i0
          replace f1 := HM.out.cell HG.out i1
          refine hK.out _ _ ⟨f0, f1⟩ (fun _ => ?_)
          clear hK K
          refine wpAnyH_done (by kernel_rfl) ?_ _
          go_wp2_with fail
          go_meet
          exact ⟨X, Y, rfl, rfl, HG, HX, HY⟩
      · skip
        go_simp
        have hbx := bBox v1 (.cells #[.int .i64 0, .int .i64 0] 76)
        have HY : Hid (Blk (v1.alloc (.cells #[.int .i64 0, .int .i64 0] 76)) v1.heap.size #[.int .i64 0, .int .i64 0] 76) := Lib.hid (Blk.new _ _ _)
        have hY5 : w5.heap.size ≤ v1.heap.size := HG.out.size
        replace HG := Lib.hid (grown_trans HG.out (grown_below hbx (some M)))
        replace HMp := Lib.hid (HMp.out.keep hbx)
        clear hbx
        generalize v1.alloc (.cells #[.int .i64 0, .int .i64 0] 76) = v12 at HY HG HMp ⊢
        generalize v1.heap.size = Y at HY hY5 ⊢
        replace f0 := HM.out.cell HG.out i0
        replace f1 := HM.out.cell HG.out i1
        refine hK.out _ _ ⟨f0, f1⟩ (fun _ => ?_)
        clear hK K
        refine wpAnyH_ready (rs := [9, 10]) (by kernel_rfl) (by simp) ?_
        refine AllReadyH.cons rfl (fun K hK => ?_) (AllReadyH.cons rfl (fun K hK => ?_) AllReadyH.nil)
        · skip
          go_simp
          refine (size1 1 (.inr rfl) M L 4 1 C1 o1 c1 1 0 (.agg #[.int .i64 1, .int .i64 1]) v12 (by decide) (HM.out.pat HG.out P2.out) HMp.out).mono ?_
          rintro e4 v13 ⟨rfl, hMm, hGm⟩
          replace HY := Lib.hid (HMp.out.blk hGm.out HY.out)
          replace HG := Lib.hid (grown_trans HG.out hGm.out)
          replace HMp := hMm
          clear hGm
          replace f0 := HM.out.cell HG.out i0
          replace f1 := HM.out.cell HG.out i1
          refine hK.out _ _ ⟨f0, f1⟩ (fun _ => ?_)
          clear hK K
          refine wpAnyH_ready (rs := [10]) (by kernel_rfl) (by simp) ?_
          refine AllReadyH.cons rfl (fun K hK => ?_) AllReadyH.nil
          go_simp
          have hbx := bBox v13 (.cells #[.int .i64 0, .int .i64 0] 76)
          have HX : Hid (Blk (v13.alloc (.cells #[.int .i64 0, .int .i64 0] 76)) v13.heap.size #[.int .i64 0, .int .i64 0] 76) := Lib.hid (Blk.new _ _ _)
          have hX5 : w5.heap.size ≤ v13.heap.size := HG.out.size
          have hXY : v13.heap.size ≠ Y := by have := HY.out.lt; omega
          replace HY := Lib.hid (HY.out.keep hbx)
          replace HG := Lib.hid (grown_trans HG.out (grown_below hbx (some M)))
          replace HMp := Lib.hid (HMp.out.keep hbx)
          clear hbx
          generalize v13.alloc (.cells #[.int .i64 0, .int .i64 0] 76) = v14 at HX HG HMp HY ⊢
          generalize v13.heap.size = X at HX hX5 hXY ⊢
          replace f0 := HM.out.cell HG.out i0
          replace f1 := HM.out.cell HG.out i1
          refine hK.out _ _ ⟨f0, f1⟩ (fun _ => ?_)
          clear hK K
          have a0 : v14.cell? ⟨X, 0, none⟩ = some (.int .i64 0) := HX.out.cell 0
          have a1 : v14.cell? ⟨X, 1, none⟩ = some (.int .i64 0) := HX.out.cell 1
          have a2 : v14.frozen? ⟨X, 0, none⟩ = false := HX.out.frozen 0
          have a3 : v14.frozen? ⟨X, 1, none⟩ = false := HX.out.frozen 1
          replace HY := Lib.hid ((HY.out.grown (grown_set v14 ⟨X, 0, none⟩ (.int .i64 1)) (fun e => by injection e with e; exact hXY e.symm)).grown (grown_set _ ⟨X, 1, none⟩ (.int .i64 1)) (fun e => by injection e with e; exact hXY e.symm))
          replace HX := Lib.hid ((HX.out.setAll (i := 0) (.int .i64 1)).setAll (i := 1) (.int .i64 1))
          replace HG := Lib.hid (grown_new (grown_new HG.out (p := ⟨X, 0, none⟩) hX5 (.int .i64 1)) (p := ⟨X, 1, none⟩) hX5 (.int .i64 1))
          refine wpAnyH_ready (rs := [12]) (by kernel_rfl) (by simp) ?_
          refine AllReadyH.cons rfl (fun K hK => ?_) AllReadyH.nil
          go_simp
          generalize (v14.setCell ⟨X, 0, none⟩ (.int .i64 1)).setCell ⟨X, 1, none⟩ (.int .i64 1) = zXv14 at HX HY HG ⊢
          clear a0 a1 a2 a3
          replace f0 := HM.out.cell HG.out i0
          replace f1 := HM.out.cell HG.out i1
          refine hK.out _ _ ⟨f0, f1⟩ (fun _ => ?_)
          clear hK K
          have a0 : zXv14.cell? ⟨Y, 0, none⟩ = some (.int .i64 0) := HY.out.cell 0
          have a1 : zXv14.cell? ⟨Y, 1, none⟩ = some (.int .i64 0) := HY.out.cell 1
          have a2 : zXv14.frozen? ⟨Y, 0, none⟩ = false := HY.out.frozen 0
          have a3 : zXv14.frozen? ⟨Y, 1, none⟩ = false := HY.out.frozen 1
          replace HX := Lib.hid ((HX.out.grown (grown_set zXv14 ⟨Y, 0, none⟩ (.int .i64 1)) (fun e => by injection e with e; exact hXY e)).grown (grown_set _ ⟨Y, 1, none⟩ (.int .i64 1)) (fun e => by injection e with e; exact hXY e))
          replace HY := Lib.hid ((HY.out.setAll (i := 0) (.int .i64 1)).setAll (i := 1) (.int .i64 1))
          replace HG := Lib.hid (grown_new (grown_new HG.out (p := ⟨Y, 0, none⟩) hY5 (.int .i64 1)) (p := ⟨Y, 1, none⟩) hY5 (.int .i64 1))
          refine wpAnyH_ready (rs := [13]) (by kernel_rfl) (by simp) ?_
          refine AllReadyH.cons rfl (fun K hK => ?_) AllReadyH.nil
          go_simp
          generalize (zXv14.setCell ⟨Y, 0, none⟩ (.int .i64 1)).setCell ⟨Y, 1, none⟩ (.int .i64 1) = zYzXv14 at HX HY HG ⊢
          clear a0 a1 a2 a3
          replace f0 := HM.out.cell HG.out i0
          replace f1 := HM.out.cell HG.out i1
          refine hK.out _ _ ⟨f0, f1⟩ (fun _ => ?_)
          clear hK K
          refine wpAnyH_done (by kernel_rfl) ?_ _
          go_wp2_with fail
          go_meet
          exact ⟨X, Y, rfl, rfl, HG, HX, HY⟩
        · skip
          go_simp
          have hbx := bBox v12 (.cells #[.int .i64 0, .int .i64 0] 76)
          have HX : Hid (Blk (v12.alloc (.cells #[.int .i64 0, .int .i64 0] 76)) v12.heap.size #[.int .i64 0, .int .i64 0] 76) := Lib.hid (Blk.new _ _ _)
          have hX5 : w5.heap.size ≤ v12.heap.size := HG.out.size
          have hXY : v12.heap.size ≠ Y := by have := HY.out.lt; omega
          replace HY := Lib.hid (HY.out.keep hbx)
          replace HG := Lib.hid (grown_trans HG.out (grown_below hbx (some M)))
          replace HMp := Lib.hid (HMp.out.keep hbx)
          clear hbx
          generalize v12.alloc (.cells #[.int .i64 0, .int .i64 0] 76) = v15 at HX HG HMp HY ⊢
          generalize v12.heap.size = X at HX hX5 hXY ⊢
          replace f0 := HM.out.cell HG.out i0
          replace f1 := HM.out.cell HG.out i1
          refine hK.out _ _ ⟨f0, f1⟩ (fun _ => ?_)
          clear hK K
          refine wpAnyH_ready (rs := [9]) (by kernel_rfl) (by simp) ?_
          refine AllReadyH.cons rfl (fun K hK => ?_) AllReadyH.nil
          go_simp
          refine (size1 1 (.inr rfl) M L 4 1 C1 o1 c1 1 0 (.agg #[.int .i64 1, .int .i64 1]) v15 (by decide) (HM.out.pat HG.out P2.out) HMp.out).mono ?_
          rintro e4 v16 ⟨rfl, hMm, hGm⟩
          replace HX := Lib.hid (HMp.out.blk hGm.out HX.out)
          replace HY := Lib.hid (HMp.out.blk hGm.out HY.out)
          replace HG := Lib.hid (grown_trans HG.out hGm.out)
          replace HMp := hMm
          clear hGm
          replace f0 := HM.out.cell HG.out i0
          replace f1 := HM.out.cell HG.out i1
          refine hK.out _ _ ⟨f0, f1⟩ (fun _ => ?_)
          clear hK K
          have a0 : v16.cell? ⟨X, 0, none⟩ = some (.int .i64 0) := HX.out.cell 0
          have a1 : v16.cell? ⟨X, 1, none⟩ = some (.int .i64 0) := HX.out.cell 1
          have a2 : v16.frozen? ⟨X, 0, none⟩ = false := HX.out.frozen 0
          have a3 : v16.frozen? ⟨X, 1, none⟩ = false := HX.out.frozen 1
          replace HY := Lib.hid ((HY.out.grown (grown_set v16 ⟨X, 0, none⟩ (.int .i64 1)) (fun e => by injection e with e; exact hXY e.symm)).grown (grown_set _ ⟨X, 1, none⟩ (.int .i64 1)) (fun e => by injection e with e; exact hXY e.symm))
          replace HX := Lib.hid ((HX.out.setAll (i := 0) (.int .i64 1)).setAll (i := 1) (.int .i64 1))
          replace HG := Lib.hid (grown_new (grown_new HG.out (p := ⟨X, 0, none⟩) hX5 (.int .i64 1)) (p := ⟨X, 1, none⟩) hX5 (.int .i64 1))
          refine wpAnyH_ready (rs := [12]) (by kernel_rfl) (by simp) ?_
          refine AllReadyH.cons rfl (fun K hK => ?_) AllReadyH.nil
          go_simp
          generalize (v16.setCell ⟨X, 0, none⟩ (.int .i64 1)).setCell ⟨X, 1, none⟩ (.int .i64 1) = zXv16 at HX HY HG ⊢
          clear a0 a1 a2 a3
          replace f0 := HM.out.cell HG.out i0
          replace f1 := HM.out.cell HG.out i1
          refine hK.out _ _ ⟨f0, f1⟩ (fun _ => ?_)
          clear hK K
          have a0 : zXv16.cell? ⟨Y, 0, none⟩ = some (.int .i64 0) := HY.out.cell 0
          have a1 : zXv16.cell? ⟨Y, 1, none⟩ = some (.int .i64 0) := HY.out.cell 1
          have a2 : zXv16.frozen? ⟨Y, 0, none⟩ = false := HY.out.frozen 0
          have a3 : zXv16.frozen? ⟨Y, 1, none⟩ = false := HY.out.frozen 1
          replace HX := Lib.hid ((HX.out.grown (grown_set zXv16 ⟨Y, 0, none⟩ (.int .i64 1)) (fun e => by injection e with e; exact hXY e)).grown (grown_set _ ⟨Y, 1, none⟩ (.int .i64 1)) (fun e => by injection e with e; exact hXY e))
          replace HY := Lib.hid ((HY.out.setAll (i := 0) (.int .i64 1)).setAll (i := 1) (.int .i64 1))
          replace HG := Lib.hid (grown_new (grown_new HG.out (p := ⟨Y, 0, none⟩) hY5 (.int .i64 1)) (p := ⟨Y, 1, none⟩) hY5 (.int .i64 1))
          refine wpAnyH_ready (rs := [13]) (by kernel_rfl) (by simp) ?_
          refine AllReadyH.cons rfl (fun K hK => ?_) AllReadyH.nil
          go_simp
          generalize (zXv16.setCell ⟨Y, 0, none⟩ (.int .i64 1)).setCell ⟨Y, 1, none⟩ (.int .i64 1) = zYzXv16 at HX HY HG ⊢
          clear a0 a1 a2 a3
          replace f0 := HM.out.cell HG.out i0
          replace f1 := HM.out.cell HG.out i1
          refine hK.out _ _ ⟨f0, f1⟩ (fun _ => ?_)
          clear hK K
          refine wpAnyH_done (by kernel_rfl) ?_ _
          go_wp2_with fail
          go_meet
          exact ⟨X, Y, rfl, rfl, HG, HX, HY⟩
    · skip
      go_simp
      have hbx := bBox v0 (.cells #[.int .i64 0, .int .i64 0] 76)
      have HX : Hid (Blk (v0.alloc (.cells #[.int .i64 0, .int .i64 0] 76)) v0.heap.size #[.int .i64 0, .int .i64 0] 76) := Lib.hid (Blk.new _ _ _)
      have hX5 : w5.heap.size ≤ v0.heap.size := HG.out.size
      replace HG := Lib.hid (grown_trans HG.out (grown_below hbx (some M)))
      replace HMp := Lib.hid (HMp.out.keep hbx)
      clear hbx
      generalize v0.alloc (.cells #[.int .i64 0, .int .i64 0] 76) = v17 at HX HG HMp ⊢
      generalize v0.heap.size = X at HX hX5 ⊢
      replace f0 := HM.out.cell HG.out i0
      replace f1 := HM.out.cell HG.out i1
      refine hK.out _ _ ⟨f0, f1⟩ (fun _ => ?_)
      clear hK K
      refine wpAnyH_ready (rs := [4, 11]) (by kernel_rfl) (by simp) ?_
      refine AllReadyH.cons rfl (fun K hK => ?_) (AllReadyH.cons rfl (fun K hK => ?_) AllReadyH.nil)
      · skip
        go_simp
        refine (size0 0 (.inl rfl) M L 1 C0 o0 c0 0 v17 (HM.out.pat HG.out P1.out) HMp.out).mono ?_
        rintro e4 v18 ⟨rfl, hMm, hGm⟩
        replace HX := Lib.hid (HMp.out.blk hGm.out HX.out)
        replace HG := Lib.hid (grown_trans HG.out hGm.out)
        replace HMp := hMm
        clear hGm
        replace f0 := HM.out.cell HG.out i0
        replace f1 := HM.out.cell HG.out i1
        refine hK.out _ _ ⟨f0, f1⟩ (fun _ => ?_)
        clear hK K
        refine wpAnyH_ready (rs := [9, 11]) (by kernel_rfl) (by simp) ?_
        refine AllReadyH.cons rfl (fun K hK => ?_) (AllReadyH.cons rfl (fun K hK => ?_) AllReadyH.nil)
        · skip
          go_simp
          refine (size1 1 (.inr rfl) M L 4 1 C1 o1 c1 1 0 (.agg #[.int .i64 1, .int .i64 1]) v18 (by decide) (HM.out.pat HG.out P2.out) HMp.out).mono ?_
          rintro e4 v19 ⟨rfl, hMm, hGm⟩
          replace HX := Lib.hid (HMp.out.blk hGm.out HX.out)
          replace HG := Lib.hid (grown_trans HG.out hGm.out)
          replace HMp := hMm
          clear hGm
          replace f0 := HM.out.cell HG.out i0
          replace f1 := HM.out.cell HG.out i1
          refine hK.out _ _ ⟨f0, f1⟩ (fun _ => ?_)
          clear hK K
          refine wpAnyH_ready (rs := [11]) (by kernel_rfl) (by simp) ?_
          refine AllReadyH.cons rfl (fun K hK => ?_) AllReadyH.nil
          go_simp
          have hbx := bBox v19 (.cells #[.int .i64 0, .int .i64 0] 76)
          have HY : Hid (Blk (v19.alloc (.cells #[.int .i64 0, .int .i64 0] 76)) v19.heap.size #[.int .i64 0, .int .i64 0] 76) := Lib.hid (Blk.new _ _ _)
          have hY5 : w5.heap.size ≤ v19.heap.size := HG.out.size
          have hXY : v19.heap.size ≠ X := by have := HX.out.lt; omega
          replace HX := Lib.hid (HX.out.keep hbx)
          replace HG := Lib.hid (grown_trans HG.out (grown_below hbx (some M)))
          replace HMp := Lib.hid (HMp.out.keep hbx)
          clear hbx
          generalize v19.alloc (.cells #[.int .i64 0, .int .i64 0] 76) = v20 at HY HG HMp HX ⊢
          generalize v19.heap.size = Y at HY hY5 hXY ⊢
          replace f0 := HM.out.cell HG.out i0
          replace f1 := HM.out.cell HG.out i1
          refine hK.out _ _ ⟨f0, f1⟩ (fun _ => ?_)
          clear hK K
          have a0 : v20.cell? ⟨X, 0, none⟩ = some (.int .i64 0) := HX.out.cell 0
          have a1 : v20.cell? ⟨X, 1, none⟩ = some (.int .i64 0) := HX.out.cell 1
          have a2 : v20.frozen? ⟨X, 0, none⟩ = false := HX.out.frozen 0
          have a3 : v20.frozen? ⟨X, 1, none⟩ = false := HX.out.frozen 1
          replace HY := Lib.hid ((HY.out.grown (grown_set v20 ⟨X, 0, none⟩ (.int .i64 1)) (fun e => by injection e with e; exact hXY e)).grown (grown_set _ ⟨X, 1, none⟩ (.int .i64 1)) (fun e => by injection e with e; exact hXY e))
          replace HX := Lib.hid ((HX.out.setAll (i := 0) (.int .i64 1)).setAll (i := 1) (.int .i64 1))
          replace HG := Lib.hid (grown_new (grown_new HG.out (p := ⟨X, 0, none⟩) hX5 (.int .i64 1)) (p := ⟨X, 1, none⟩) hX5 (.int .i64 1))
          refine wpAnyH_ready (rs := [12]) (by kernel_rfl) (by simp) ?_
          refine AllReadyH.cons rfl (fun K hK => ?_) AllReadyH.nil
          go_simp
          generalize (v20.setCell ⟨X, 0, none⟩ (.int .i64 1)).setCell ⟨X, 1, none⟩ (.int .i64 1) = zXv20 at HX HY HG ⊢
          clear a0 a1 a2 a3
          replace f0 := HM.out.cell HG.out i0
          replace f1 := HM.out.cell HG.out i1
          refine hK.out _ _ ⟨f0, f1⟩ (fun _ => ?_)
          clear hK K
          have a0 : zXv20.cell? ⟨Y, 0, none⟩ = some (.int .i64 0) := HY.out.cell 0
          have a1 : zXv20.cell? ⟨Y, 1, none⟩ = some (.int .i64 0) := HY.out.cell 1
          have a2 : zXv20.frozen? ⟨Y, 0, none⟩ = false := HY.out.frozen 0
          have a3 : zXv20.frozen? ⟨Y, 1, none⟩ = false := HY.out.frozen 1
          replace HX := Lib.hid ((HX.out.grown (grown_set zXv20 ⟨Y, 0, none⟩ (.int .i64 1)) (fun e => by injection e with e; exact hXY e.symm)).grown (grown_set _ ⟨Y, 1, none⟩ (.int .i64 1)) (fun e => by injection e with e; exact hXY e.symm))
          replace HY := Lib.hid ((HY.out.setAll (i := 0) (.int .i64 1)).setAll (i := 1) (.int .i64 1))
          replace HG := Lib.hid (grown_new (grown_new HG.out (p := ⟨Y, 0, none⟩) hY5 (.int .i64 1)) (p := ⟨Y, 1, none⟩) hY5 (.int .i64 1))
          refine wpAnyH_ready (rs := [13]) (by kernel_rfl) (by simp) ?_
          refine AllReadyH.cons rfl (fun K hK => ?_) AllReadyH.nil
          go_simp
          generalize (zXv20.setCell ⟨Y, 0, none⟩ (.int .i64 1)).setCell ⟨Y, 1, none⟩ (.int .i64 1) = zYzXv20 at HX HY HG ⊢
          clear a0 a1 a2 a3
          replace f0 := HM.out.cell HG.out i0
          replace f1 := HM.out.cell HG.out i1
          refine hK.out _ _ ⟨f0, f1⟩ (fun _ => ?_)
          clear hK K
          refine wpAnyH_done (by kernel_rfl) ?_ _
          go_wp2_with fail
          go_meet
          exact ⟨X, Y, rfl, rfl, HG, HX, HY⟩
        · skip
          go_simp
          have hbx := bBox v18 (.cells #[.int .i64 0, .int .i64 0] 76)
          have HY : Hid (Blk (v18.alloc (.cells #[.int .i64 0, .int .i64 0] 76)) v18.heap.size #[.int .i64 0, .int .i64 0] 76) := Lib.hid (Blk.new _ _ _)
          have hY5 : w5.heap.size ≤ v18.heap.size := HG.out.size
          have hXY : v18.heap.size ≠ X := by have := HX.out.lt; omega
          replace HX := Lib.hid (HX.out.keep hbx)
          replace HG := Lib.hid (grown_trans HG.out (grown_below hbx (some M)))
          replace HMp := Lib.hid (HMp.out.keep hbx)
          clear hbx
          generalize v18.alloc (.cells #[.int .i64 0, .int .i64 0] 76) = v21 at HY HG HMp HX ⊢
          generalize v18.heap.size = Y at HY hY5 hXY ⊢
          replace f0 := HM.out.cell HG.out i0
          replace f1 := HM.out.cell HG.out i1
          refine hK.out _ _ ⟨f0, f1⟩ (fun _ => ?_)
          clear hK K
          refine wpAnyH_ready (rs := [9]) (by kernel_rfl) (by simp) ?_
          refine AllReadyH.cons rfl (fun K hK => ?_) AllReadyH.nil
          go_simp
          refine (size1 1 (.inr rfl) M L 4 1 C1 o1 c1 1 0 (.agg #[.int .i64 1, .int .i64 1]) v21 (by decide) (HM.out.pat HG.out P2.out) HMp.out).mono ?_
          rintro e4 v22 ⟨rfl, hMm, hGm⟩
          replace HX := Lib.hid (HMp.out.blk hGm.out HX.out)
          replace HY := Lib.hid (HMp.out.blk hGm.out HY.out)
          replace HG := Lib.hid (grown_trans HG.out hGm.out)
          replace HMp := hMm
          clear hGm
          replace f0 := HM.out.cell HG.out i0
          replace f1 := HM.out.cell HG.out i1
          refine hK.out _ _ ⟨f0, f1⟩ (fun _ => ?_)
          clear hK K
          have a0 : v22.cell? ⟨X, 0, none⟩ = some (.int .i64 0) := HX.out.cell 0
          have a1 : v22.cell? ⟨X, 1, none⟩ = some (.int .i64 0) := HX.out.cell 1
          have a2 : v22.frozen? ⟨X, 0, none⟩ = false := HX.out.frozen 0
          have a3 : v22.frozen? ⟨X, 1, none⟩ = false := HX.out.frozen 1
          replace HY := Lib.hid ((HY.out.grown (grown_set v22 ⟨X, 0, none⟩ (.int .i64 1)) (fun e => by injection e with e; exact hXY e)).grown (grown_set _ ⟨X, 1, none⟩ (.int .i64 1)) (fun e => by injection e with e; exact hXY e))
          replace HX := Lib.hid ((HX.out.setAll (i := 0) (.int .i64 1)).setAll (i := 1) (.int .i64 1))
          replace HG := Lib.hid (grown_new (grown_new HG.out (p := ⟨X, 0, none⟩) hX5 (.int .i64 1)) (p := ⟨X, 1, none⟩) hX5 (.int .i64 1))
          refine wpAnyH_ready (rs := [12]) (by kernel_rfl) (by simp) ?_
          refine AllReadyH.cons rfl (fun K hK => ?_) AllReadyH.nil
          go_simp
          generalize (v22.setCell ⟨X, 0, none⟩ (.int .i64 1)).setCell ⟨X, 1, none⟩ (.int .i64 1) = zXv22 at HX HY HG ⊢
          clear a0 a1 a2 a3
          replace f0 := HM.out.cell HG.out i0
          replace f1 := HM.out.cell HG.out i1
          refine hK.out _ _ ⟨f0, f1⟩ (fun _ => ?_)
          clear hK K
          have a0 : zXv22.cell? ⟨Y, 0, none⟩ = some (.int .i64 0) := HY.out.cell 0
          have a1 : zXv22.cell? ⟨Y, 1, none⟩ = some (.int .i64 0) := HY.out.cell 1
          have a2 : zXv22.frozen? ⟨Y, 0, none⟩ = false := HY.out.frozen 0
          have a3 : zXv22.frozen? ⟨Y, 1, none⟩ = false := HY.out.frozen 1
          replace HX := Lib.hid ((HX.out.grown (grown_set zXv22 ⟨Y, 0, none⟩ (.int .i64 1)) (fun e => by injection e with e; exact hXY e.symm)).grown (grown_set _ ⟨Y, 1, none⟩ (.int .i64 1)) (fun e => by injection e with e; exact hXY e.symm))
          replace HY := Lib.hid ((HY.out.setAll (i := 0) (.int .i64 1)).setAll (i := 1) (.int .i64 1))
          replace HG := Lib.hid (grown_new (grown_new HG.out (p := ⟨Y, 0, none⟩) hY5 (.int .i64 1)) (p := ⟨Y, 1, none⟩) hY5 (.int .i64 1))
          refine wpAnyH_ready (rs := [13]) (by kernel_rfl) (by simp) ?_
          refine AllReadyH.cons rfl (fun K hK => ?_) AllReadyH.nil
          go_simp
          generalize (zXv22.setCell ⟨Y, 0, none⟩ (.int .i64 1)).setCell ⟨Y, 1, none⟩ (.int .i64 1) = zYzXv22 at HX HY HG ⊢
          clear a0 a1 a2 a3
          replace f0 := HM.out.cell HG.out i0
          replace f1 := HM.out.cell HG.out i1
          refine hK.out _ _ ⟨f0, f1⟩ (fun _ => ?_)
          clear hK K
          refine wpAnyH_done (by kernel_rfl) ?_ _
          go_wp2_with fail
          go_meet
          exact ⟨X, Y, rfl, rfl, HG, HX, HY⟩
      · skip
        go_simp
        have hbx := bBox v17 (.cells #[.int .i64 0, .int .i64 0] 76)
        have HY : Hid (Blk (v17.alloc (.cells #[.int .i64 0, .int .i64 0] 76)) v17.heap.size #[.int .i64 0, .int .i64 0] 76) := Lib.hid (Blk.new _ _ _)
        have hY5 : w5.heap.size ≤ v17.heap.size := HG.out.size
        have hXY : v17.heap.size ≠ X := by have := HX.out.lt; omega
        replace HX := Lib.hid (HX.out.keep hbx)
        replace HG := Lib.hid (grown_trans HG.out (grown_below hbx (some M)))
        replace HMp := Lib.hid (HMp.out.keep hbx)
        clear hbx
        generalize v17.alloc (.cells #[.int .i64 0, .int .i64 0] 76) = v23 at HY HG HMp HX ⊢
        generalize v17.heap.size = Y at HY hY5 hXY ⊢
        replace f0 := HM.out.cell HG.out i0
        replace f1 := HM.out.cell HG.out i1
        refine hK.out _ _ ⟨f0, f1⟩ (fun _ => ?_)
        clear hK K
        refine wpAnyH_ready (rs := [4]) (by kernel_rfl) (by simp) ?_
        refine AllReadyH.cons rfl (fun K hK => ?_) AllReadyH.nil
        go_simp
        refine (size0 0 (.inl rfl) M L 1 C0 o0 c0 0 v23 (HM.out.pat HG.out P1.out) HMp.out).mono ?_
        rintro e4 v24 ⟨rfl, hMm, hGm⟩
        replace HX := Lib.hid (HMp.out.blk hGm.out HX.out)
        replace HY := Lib.hid (HMp.out.blk hGm.out HY.out)
        replace HG := Lib.hid (grown_trans HG.out hGm.out)
        replace HMp := hMm
        clear hGm
        replace f0 := HM.out.cell HG.out i0
        replace f1 := HM.out.cell HG.out i1
        refine hK.out _ _ ⟨f0, f1⟩ (fun _ => ?_)
        clear hK K
        refine wpAnyH_ready (rs := [9]) (by kernel_rfl) (by simp) ?_
        refine AllReadyH.cons rfl (fun K hK => ?_) AllReadyH.nil
        go_simp
        refine (size1 1 (.inr rfl) M L 4 1 C1 o1 c1 1 0 (.agg #[.int .i64 1, .int .i64 1]) v24 (by decide) (HM.out.pat HG.out P2.out) HMp.out).mono ?_
        rintro e4 v25 ⟨rfl, hMm, hGm⟩
        replace HX := Lib.hid (HMp.out.blk hGm.out HX.out)
        replace HY := Lib.hid (HMp.out.blk hGm.out HY.out)
        replace HG := Lib.hid (grown_trans HG.out hGm.out)
        replace HMp := hMm
        clear hGm
        replace f0 := HM.out.cell HG.out i0
        replace f1 := HM.out.cell HG.out i1
        refine hK.out _ _ ⟨f0, f1⟩ (fun _ => ?_)
        clear hK K
        have a0 : v25.cell? ⟨X, 0, none⟩ = some (.int .i64 0) := HX.out.cell 0
        have a1 : v25.cell? ⟨X, 1, none⟩ = some (.int .i64 0) := HX.out.cell 1
        have a2 : v25.frozen? ⟨X, 0, none⟩ = false := HX.out.frozen 0
        have a3 : v25.frozen? ⟨X, 1, none⟩ = false := HX.out.frozen 1
        replace HY := Lib.hid ((HY.out.grown (grown_set v25 ⟨X, 0, none⟩ (.int .i64 1)) (fun e => by injection e with e; exact hXY e)).grown (grown_set _ ⟨X, 1, none⟩ (.int .i64 1)) (fun e => by injection e with e; exact hXY e))
        replace HX := Lib.hid ((HX.out.setAll (i := 0) (.int .i64 1)).setAll (i := 1) (.int .i64 1))
        replace HG := Lib.hid (grown_new (grown_new HG.out (p := ⟨X, 0, none⟩) hX5 (.int .i64 1)) (p := ⟨X, 1, none⟩) hX5 (.int .i64 1))
        refine wpAnyH_ready (rs := [12]) (by kernel_rfl) (by simp) ?_
        refine AllReadyH.cons rfl (fun K hK => ?_) AllReadyH.nil
        go_simp
        generalize (v25.setCell ⟨X, 0, none⟩ (.int .i64 1)).setCell ⟨X, 1, none⟩ (.int .i64 1) = zXv25 at HX HY HG ⊢
        clear a0 a1 a2 a3
        replace f0 := HM.out.cell HG.out i0
        replace f1 := HM.out.cell HG.out i1
        refine hK.out _ _ ⟨f0, f1⟩ (fun _ => ?_)
        clear hK K
        have a0 : zXv25.cell? ⟨Y, 0, none⟩ = some (.int .i64 0) := HY.out.cell 0
        have a1 : zXv25.cell? ⟨Y, 1, none⟩ = some (.int .i64 0) := HY.out.cell 1
        have a2 : zXv25.frozen? ⟨Y, 0, none⟩ = false := HY.out.frozen 0
        have a3 : zXv25.frozen? ⟨Y, 1, none⟩ = false := HY.out.frozen 1
        replace HX := Lib.hid ((HX.out.grown (grown_set zXv25 ⟨Y, 0, none⟩ (.int .i64 1)) (fun e => by injection e with e; exact hXY e.symm)).grown (grown_set _ ⟨Y, 1, none⟩ (.int .i64 1)) (fun e => by injection e with e; exact hXY e.symm))
        replace HY := Lib.hid ((HY.out.setAll (i := 0) (.int .i64 1)).setAll (i := 1) (.int .i64 1))
        replace HG := Lib.hid (grown_new (grown_new HG.out (p := ⟨Y, 0, none⟩) hY5 (.int .i64 1)) (p := ⟨Y, 1, none⟩) hY5 (.int .i64 1))
        refine wpAnyH_ready (rs := [13]) (by kernel_rfl) (by simp) ?_
        refine AllReadyH.cons rfl (fun K hK => ?_) AllReadyH.nil
        go_simp
        generalize (zXv25.setCell ⟨Y, 0, none⟩ (.int .i64 1)).setCell ⟨Y, 1, none⟩ (.int .i64 1) = zYzXv25 at HX HY HG ⊢
        clear a0 a1 a2 a3
        replace f0 := HM.out.cell HG.out i0
        replace f1 := HM.out.cell HG.out i1
        refine hK.out _ _ ⟨f0, f1⟩ (fun _ => ?_)
        clear hK K
        refine wpAnyH_done (by kernel_rfl) ?_ _
        go_wp2_with fail
        go_meet
        exact ⟨X, Y, rfl, rfl, HG, HX, HY⟩
    · skip
      go_simp
      have hbx := bBox v0 (.cells #[.int .i64 0, .int .i64 0] 76)
      have HY : Hid (Blk (v0.alloc (.cells #[.int .i64 0, .int .i64 0] 76)) v0.heap.size #[.int .i64 0, .int .i64 0] 76) := Lib.hid (Blk.new _ _ _)
      have hY5 : w5.heap.size ≤ v0.heap.size := HG.out.size
      replace HG := Lib.hid (grown_trans HG.out (grown_below hbx (some M)))
      replace HMp := Lib.hid (HMp.out.keep hbx)
      clear hbx
      generalize v0.alloc (.cells #[.int .i64 0, .int .i64 0] 76) = v26 at HY HG HMp ⊢
      generalize v0.heap.size = Y at HY hY5 ⊢
      replace f0 := HM.out.cell HG.out i0
      replace f1 := HM.out.cell HG.out i1
      refine hK.out _ _ ⟨f0, f1⟩ (fun _ => ?_)
      clear hK K
      refine wpAnyH_ready (rs := [4, 10]) (by kernel_rfl) (by simp) ?_
      refine AllReadyH.cons rfl (fun K hK => ?_) (AllReadyH.cons rfl (fun K hK => ?_) AllReadyH.nil)
      · skip
        go_simp
        refine (size0 0 (.inl rfl) M L 1 C0 o0 c0 0 v26 (HM.out.pat HG.out P1.out) HMp.out).mono ?_
        rintro e4 v27 ⟨rfl, hMm, hGm⟩
        replace HY := Lib.hid (HMp.out.blk hGm.out HY.out)
        replace HG := Lib.hid (grown_trans HG.out hGm.out)
        replace HMp := hMm
        clear hGm
        replace f0 := HM.out.cell HG.out i0
        replace f1 := HM.out.cell HG.out i1
        refine hK.out _ _ ⟨f0, f1⟩ (fun _ => ?_)
        clear hK K
        refine wpAnyH_ready (rs := [9, 10]) (by kernel_rfl) (by simp) ?_
        refine AllReadyH.cons rfl (fun K hK => ?_) (AllReadyH.cons rfl (fun K hK => ?_) AllReadyH.nil)
        · skip
          go_simp
          refine (size1 1 (.inr rfl) M L 4 1 C1 o1 c1 1 0 (.agg #[.int .i64 1, .int .i64 1]) v27 (by decide) (HM.out.pat HG.out P2.out) HMp.out).mono ?_
          rintro e4 v28 ⟨rfl, hMm, hGm⟩
          replace HY := Lib.hid (HMp.out.blk hGm.out HY.out)
          replace HG := Lib.hid (grown_trans HG.out hGm.out)
          replace HMp := hMm
          clear hGm
          replace f0 := HM.out.cell HG.out i0
          replace f1 := HM.out.cell HG.out i1
          refine hK.out _ _ ⟨f0, f1⟩ (fun _ => ?_)
          clear hK K
          refine wpAnyH_ready (rs := [10]) (by kernel_rfl) (by simp) ?_
          refine AllReadyH.cons rfl (fun K hK => ?_) AllReadyH.nil
          go_simp
          have hbx := bBox v28 (.cells #[.int .i64 0, .int .i64 0] 76)
          have HX : Hid (Blk (v28.alloc (.cells #[.int .i64 0, .int .i64 0] 76)) v28.heap.size #[.int .i64 0, .int .i64 0] 76) := Lib.hid (Blk.new _ _ _)
          have hX5 : w5.heap.size ≤ v28.heap.size := HG.out.size
          have hXY : v28.heap.size ≠ Y := by have := HY.out.lt; omega
          replace HY := Lib.hid (HY.out.keep hbx)
          replace HG := Lib.hid (grown_trans HG.out (grown_below hbx (some M)))
          replace HMp := Lib.hid (HMp.out.keep hbx)
          clear hbx
          generalize v28.alloc (.cells #[.int .i64 0, .int .i64 0] 76) = v29 at HX HG HMp HY ⊢
          generalize v28.heap.size = X at HX hX5 hXY ⊢
          replace f0 := HM.out.cell HG.out i0
          replace f1 := HM.out.cell HG.out i1
          refine hK.out _ _ ⟨f0, f1⟩ (fun _ => ?_)
          clear hK K
          have a0 : v29.cell? ⟨X, 0, none⟩ = some (.int .i64 0) := HX.out.cell 0
          have a1 : v29.cell? ⟨X, 1, none⟩ = some (.int .i64 0) := HX.out.cell 1
          have a2 : v29.frozen? ⟨X, 0, none⟩ = false := HX.out.frozen 0
          have a3 : v29.frozen? ⟨X, 1, none⟩ = false := HX.out.frozen 1
          replace HY := Lib.hid ((HY.out.grown (grown_set v29 ⟨X, 0, none⟩ (.int .i64 1)) (fun e => by injection e with e; exact hXY e.symm)).grown (grown_set _ ⟨X, 1, none⟩ (.int .i64 1)) (fun e => by injection e with e; exact hXY e.symm))
          replace HX := Lib.hid ((HX.out.setAll (i := 0) (.int .i64 1)).setAll (i := 1) (.int .i64 1))
          replace HG := Lib.hid (grown_new (grown_new HG.out (p := ⟨X, 0, none⟩) hX5 (.int .i64 1)) (p := ⟨X, 1, none⟩) hX5 (.int .i64 1))
          refine wpAnyH_ready (rs := [12]) (by kernel_rfl) (by simp) ?_
          refine AllReadyH.cons rfl (fun K hK => ?_) AllReadyH.nil
          go_simp
          generalize (v29.setCell ⟨X, 0, none⟩ (.int .i64 1)).setCell ⟨X, 1, none⟩ (.int .i64 1) = zXv29 at HX HY HG ⊢
          clear a0 a1 a2 a3
          replace f0 := HM.out.cell HG.out i0
          replace f1 := HM.out.cell HG.out i1
          refine hK.out _ _ ⟨f0, f1⟩ (fun _ => ?_)
          clear hK K
          have a0 : zXv29.cell? ⟨Y, 0, none⟩ = some (.int .i64 0) := HY.out.cell 0
          have a1 : zXv29.cell? ⟨Y, 1, none⟩ = some (.int .i64 0) := HY.out.cell 1
          have a2 : zXv29.frozen? ⟨Y, 0, none⟩ = false := HY.out.frozen 0
          have a3 : zXv29.frozen? ⟨Y, 1, none⟩ = false := HY.out.frozen 1
          replace HX := Lib.hid ((HX.out.grown (grown_set zXv29 ⟨Y, 0, none⟩ (.int .i64 1)) (fun e => by injection e with e; exact hXY e)).grown (grown_set _ ⟨Y, 1, none⟩ (.int .i64 1)) (fun e => by injection e with e; exact hXY e))
          replace HY := Lib.hid ((HY.out.setAll (i := 0) (.int .i64 1)).setAll (i := 1) (.int .i64 1))
          replace HG := Lib.hid (grown_new (grown_new HG.out (p := ⟨Y, 0, none⟩) hY5 (.int .i64 1)) (p := ⟨Y, 1, none⟩) hY5 (.int .i64 1))
          refine wpAnyH_ready (rs := [13]) (by kernel_rfl) (by simp) ?_
          refine AllReadyH.cons rfl (fun K hK => ?_) AllReadyH.nil
          go_simp
          generalize (zXv29.setCell ⟨Y, 0, none⟩ (.int .i64 1)).setCell ⟨Y, 1, none⟩ (.int .i64 1) = zYzXv29 at HX HY HG ⊢
          clear a0 a1 a2 a3
          replace f0 := HM.out.cell HG.out i0
          replace f1 := HM.out.cell HG.out i1
          refine hK.out _ _ ⟨f0, f1⟩ (fun _ => ?_)
          clear hK K
          refine wpAnyH_done (by kernel_rfl) ?_ _
          go_wp2_with fail
          go_meet
          exact ⟨X, Y, rfl, rfl, HG, HX, HY⟩
        · skip
          go_simp
          have hbx := bBox v27 (.cells #[.int .i64 0, .int .i64 0] 76)
          have HX : Hid (Blk (v27.alloc (.cells #[.int .i64 0, .int .i64 0] 76)) v27.heap.size #[.int .i64 0, .int .i64 0] 76) := Lib.hid (Blk.new _ _ _)
          have hX5 : w5.heap.size ≤ v27.heap.size := HG.out.size
          have hXY : v27.heap.size ≠ Y := by have := HY.out.lt; omega
          replace HY := Lib.hid (HY.out.keep hbx)
          replace HG := Lib.hid (grown_trans HG.out (grown_below hbx (some M)))
          replace HMp := Lib.hid (HMp.out.keep hbx)
          clear hbx
          generalize v27.alloc (.cells #[.int .i64 0, .int .i64 0] 76) = v30 at HX HG HMp HY ⊢
          generalize v27.heap.size = X at HX hX5 hXY ⊢
          replace f0 := HM.out.cell HG.out i0
          replace f1 := HM.out.cell HG.out i1
          refine hK.out _ _ ⟨f0, f1⟩ (fun _ => ?_)
          clear hK K
          refine wpAnyH_ready (rs := [9]) (by kernel_rfl) (by simp) ?_
          refine AllReadyH.cons rfl (fun K hK => ?_) AllReadyH.nil
          go_simp
          refine (size1 1 (.inr rfl) M L 4 1 C1 o1 c1 1 0 (.agg #[.int .i64 1, .int .i64 1]) v30 (by decide) (HM.out.pat HG.out P2.out) HMp.out).mono ?_
          rintro e4 v31 ⟨rfl, hMm, hGm⟩
          replace HX := Lib.hid (HMp.out.blk hGm.out HX.out)
          replace HY := Lib.hid (HMp.out.blk hGm.out HY.out)
          replace HG := Lib.hid (grown_trans HG.out hGm.out)
          replace HMp := hMm
          clear hGm
          replace f0 := HM.out.cell HG.out i0
          replace f1 := HM.out.cell HG.out i1
          refine hK.out _ _ ⟨f0, f1⟩ (fun _ => ?_)
          clear hK K
          have a0 : v31.cell? ⟨X, 0, none⟩ = some (.int .i64 0) := HX.out.cell 0
          have a1 : v31.cell? ⟨X, 1, none⟩ = some (.int .i64 0) := HX.out.cell 1
          have a2 : v31.frozen? ⟨X, 0, none⟩ = false := HX.out.frozen 0
          have a3 : v31.frozen? ⟨X, 1, none⟩ = false := HX.out.frozen 1
          replace HY := Lib.hid ((HY.out.grown (grown_set v31 ⟨X, 0, none⟩ (.int .i64 1)) (fun e => by injection e with e; exact hXY e.symm)).grown (grown_set _ ⟨X, 1, none⟩ (.int .i64 1)) (fun e => by injection e with e; exact hXY e.symm))
          replace HX := Lib.hid ((HX.out.setAll (i := 0) (.int .i64 1)).setAll (i := 1) (.int .i64 1))
          replace HG := Lib.hid (grown_new (grown_new HG.out (p := ⟨X, 0, none⟩) hX5 (.int .i64 1)) (p := ⟨X, 1, none⟩) hX5 (.int .i64 1))
          refine wpAnyH_ready (rs := [12]) (by kernel_rfl) (by simp) ?_
          refine AllReadyH.cons rfl (fun K hK => ?_) AllReadyH.nil
          go_simp
          generalize (v31.setCell ⟨X, 0, none⟩ (.int .i64 1)).setCell ⟨X, 1, none⟩ (.int .i64 1) = zXv31 at HX HY HG ⊢
          clear a0 a1 a2 a3
          replace f0 := HM.out.cell HG.out i0
          replace f1 := HM.out.cell HG.out i1
          refine hK.out _ _ ⟨f0, f1⟩ (fun _ => ?_)
          clear hK K
          have a0 : zXv31.cell? ⟨Y, 0, none⟩ = some (.int .i64 0) := HY.out.cell 0
          have a1 : zXv31.cell? ⟨Y, 1, none⟩ = some (.int .i64 0) := HY.out.cell 1
          have a2 : zXv31.frozen? ⟨Y, 0, none⟩ = false := HY.out.frozen 0
          have a3 : zXv31.frozen? ⟨Y, 1, none⟩ = false := HY.out.frozen 1
          replace HX := Lib.hid ((HX.out.grown (grown_set zXv31 ⟨Y, 0, none⟩ (.int .i64 1)) (fun e => by injection e with e; exact hXY e)).grown (grown_set _ ⟨Y, 1, none⟩ (.int .i64 1)) (fun e => by injection e with e; exact hXY e))
          replace HY := Lib.hid ((HY.out.setAll (i := 0) (.int .i64 1)).setAll (i := 1) (.int .i64 1))
          replace HG := Lib.hid (grown_new (grown_new HG.out (p := ⟨Y, 0, none⟩) hY5 (.int .i64 1)) (p := ⟨Y, 1, none⟩) hY5 (.int .i64 1))
          refine wpAnyH_ready (rs := [13]) (by kernel_rfl) (by simp) ?_
          refine AllReadyH.cons rfl (fun K hK => ?_) AllReadyH.nil
          go_simp
          generalize (zXv31.setCell ⟨Y, 0, none⟩ (.int .i64 1)).setCell ⟨Y, 1, none⟩ (.int .i64 1) = zYzXv31 at HX HY HG ⊢
          clear a0 a1 a2 a3
          replace f0 := HM.out.cell HG.out i0
          replace f1 := HM.out.cell HG.out i1
          refine hK.out _ _ ⟨f0, f1⟩ (fun _ => ?_)
          clear hK K
          refine wpAnyH_done (by kernel_rfl) ?_ _
          go_wp2_with fail
          go_meet
          exact ⟨X, Y, rfl, rfl, HG, HX, HY⟩
      · skip
        go_simp
        have hbx := bBox v26 (.cells #[.int .i64 0, .int .i64 0] 76)
        have HX : Hid (Blk (v26.alloc (.cells #[.int .i64 0, .int .i64 0] 76)) v26.heap.size #[.int .i64 0, .int .i64 0] 76) := Lib.hid (Blk.new _ _ _)
        have hX5 : w5.heap.size ≤ v26.heap.size := HG.out.size
        have hXY : v26.heap.size ≠ Y := by have := HY.out.lt; omega
        replace HY := Lib.hid (HY.out.keep hbx)
        replace HG := Lib.hid (grown_trans HG.out (grown_below hbx (some M)))
        replace HMp := Lib.hid (HMp.out.keep hbx)
        clear hbx
        generalize v26.alloc (.cells #[.int .i64 0, .int .i64 0] 76) = v32 at HX HG HMp HY ⊢
        generalize v26.heap.size = X at HX hX5 hXY ⊢
        replace f0 := HM.out.cell HG.out i0
        replace f1 := HM.out.cell HG.out i1
        refine hK.out _ _ ⟨f0, f1⟩ (fun _ => ?_)
        clear hK K
        refine wpAnyH_ready (rs := [4]) (by kernel_rfl) (by simp) ?_
        refine AllReadyH.cons rfl (fun K hK => ?_) AllReadyH.nil
        go_simp
        refine (size0 0 (.inl rfl) M L 1 C0 o0 c0 0 v32 (HM.out.pat HG.out P1.out) HMp.out).mono ?_
        rintro e4 v33 ⟨rfl, hMm, hGm⟩
        replace HX := Lib.hid (HMp.out.blk hGm.out HX.out)
        replace HY := Lib.hid (HMp.out.blk hGm.out HY.out)
        replace HG := Lib.hid (grown_trans HG.out hGm.out)
        replace HMp := hMm
        clear hGm
        replace f0 := HM.out.cell HG.out i0
        replace f1 := HM.out.cell HG.out i1
        refine hK.out _ _ ⟨f0, f1⟩ (fun _ => ?_)
        clear hK K
        refine wpAnyH_ready (rs := [9]) (by kernel_rfl) (by simp) ?_
        refine AllReadyH.cons rfl (fun K hK => ?_) AllReadyH.nil
        go_simp
        refine (size1 1 (.inr rfl) M L 4 1 C1 o1 c1 1 0 (.agg #[.int .i64 1, .int .i64 1]) v33 (by decide) (HM.out.pat HG.out P2.out) HMp.out).mono ?_
        rintro e4 v34 ⟨rfl, hMm, hGm⟩
        replace HX := Lib.hid (HMp.out.blk hGm.out HX.out)
        replace HY := Lib.hid (HMp.out.blk hGm.out HY.out)
        replace HG := Lib.hid (grown_trans HG.out hGm.out)
        replace HMp := hMm
        clear hGm
        replace f0 := HM.out.cell HG.out i0
        replace f1 := HM.out.cell HG.out i1
        refine hK.out _ _ ⟨f0, f1⟩ (fun _ => ?_)
        clear hK K
        have a0 : v34.cell? ⟨X, 0, none⟩ = some (.int .i64 0) := HX.out.cell 0
        have a1 : v34.cell? ⟨X, 1, none⟩ = some (.int .i64 0) := HX.out.cell 1
        have a2 : v34.frozen? ⟨X, 0, none⟩ = false := HX.out.frozen 0
        have a3 : v34.frozen? ⟨X, 1, none⟩ = false := HX.out.frozen 1
        replace HY := Lib.hid ((HY.out.grown (grown_set v34 ⟨X, 0, none⟩ (.int .i64 1)) (fun e => by injection e with e; exact hXY e.symm)).grown (grown_set _ ⟨X, 1, none⟩ (.int .i64 1)) (fun e => by injection e with e; exact hXY e.symm))
        replace HX := Lib.hid ((HX.out.setAll (i := 0) (.int .i64 1)).setAll (i := 1) (.int .i64 1))
        replace HG := Lib.hid (grown_new (grown_new HG.out (p := ⟨X, 0, none⟩) hX5 (.int .i64 1)) (p := ⟨X, 1, none⟩) hX5 (.int .i64 1))
        refine wpAnyH_ready (rs := [12]) (by kernel_rfl) (by simp) ?_
        refine AllReadyH.cons rfl (fun K hK => ?_) AllReadyH.nil
        go_simp
        generalize (v34.setCell ⟨X, 0, none⟩ (.int .i64 1)).setCell ⟨X, 1, none⟩ (.int .i64 1) = zXv34 at HX HY HG ⊢
        clear a0 a1 a2 a3
        replace f0 := HM.out.cell HG.out i0
        replace f1 := HM.out.cell HG.out i1
        refine hK.out _ _ ⟨f0, f1⟩ (fun _ => ?_)
        clear hK K
        have a0 : zXv34.cell? ⟨Y, 0, none⟩ = some (.int .i64 0) := HY.out.cell 0
        have a1 : zXv34.cell? ⟨Y, 1, none⟩ = some (.int .i64 0) := HY.out.cell 1
        have a2 : zXv34.frozen? ⟨Y, 0, none⟩ = false := HY.out.frozen 0
        have a3 : zXv34.frozen? ⟨Y, 1, none⟩ = false := HY.out.frozen 1
        replace HX := Lib.hid ((HX.out.grown (grown_set zXv34 ⟨Y, 0, none⟩ (.int .i64 1)) (fun e => by injection e with e; exact hXY e)).grown (grown_set _ ⟨Y, 1, none⟩ (.int .i64 1)) (fun e => by injection e with e; exact hXY e))
        replace HY := Lib.hid ((HY.out.setAll (i := 0) (.int .i64 1)).setAll (i := 1) (.int .i64 1))
        replace HG := Lib.hid (grown_new (grown_new HG.out (p := ⟨Y, 0, none⟩) hY5 (.int .i64 1)) (p := ⟨Y, 1, none⟩) hY5 (.int .i64 1))
        refine wpAnyH_ready (rs := [13]) (by kernel_rfl) (by simp) ?_
        refine AllReadyH.cons rfl (fun K hK => ?_) AllReadyH.nil
        go_simp
        generalize (zXv34.setCell ⟨Y, 0, none⟩ (.int .i64 1)).setCell ⟨Y, 1, none⟩ (.int .i64 1) = zYzXv34 at HX HY HG ⊢
        clear a0 a1 a2 a3
        replace f0 := HM.out.cell HG.out i0
        replace f1 := HM.out.cell HG.out i1
        refine hK.out _ _ ⟨f0, f1⟩ (fun _ => ?_)
        clear hK K
        refine wpAnyH_done (by kernel_rfl) ?_ _
        go_wp2_with fail
        go_meet
        exact ⟨X, Y, rfl, rfl, HG, HX, HY⟩
  case rest =>
    obtain ⟨X, Y, rfl, rfl, HG, HX, HY⟩ := hcut
    have x0 : wc.cell? ⟨X, 0, none⟩ = some (.int .i64 1) := HX.out.cell 0
    have x1 : wc.cell? ⟨X, 1, none⟩ = some (.int .i64 1) := HX.out.cell 1
    have y0 : wc.cell? ⟨Y, 0, none⟩ = some (.int .i64 1) := HY.out.cell 0
    have y1 : wc.cell? ⟨Y, 1, none⟩ = some (.int .i64 1) := HY.out.cell 1
    have n0 := HM.out.cell HG.out m0
    have n1 := HM.out.cell HG.out m1
    have hbz : Hid (Below w.heap.size w wc) := Lib.hid (hb5.grown HG.out hb5.size (fun k hk => by injection hk with hk; omega))
    clear m0 m1 i0 i1 hr5
    go_wp2_with fail
    rw [rounds_succ]
    go_wp2_with fail
    go_ret
    exact ⟨rfl, hbz.out⟩
end Go.Proofs.YtlmdjggpeiddoaaDoor
