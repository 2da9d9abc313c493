/- BreakautoStates: the walk (written by wip/genBaL2.py) -/
import Derived.Test.YtlmdjggpeiddoaaDoorD17
namespace Go.Proofs.YtlmdjggpeiddoaaDoor
open Go.RowKit Go.Sort

theorem eqSame (xs : List Int) (hl : xs.length ≤ 1000) (A B : Option Addr) (c c' : Nat) (w : World) (hA : IntsAt w A xs) (hB : IntsAt w B xs) :
    Calls Tryd.prog 14 #[.slice A xs.length c, .slice B xs.length c'] w fun e w' => e = .returned (.bool true) ∧ Below w.heap.size w w' := by
  have h := rfEqual xs xs A B c c' w hA hB (by omega) (by omega)
  rw [decide_eq_true rfl] at h
  exact h
theorem rightT_le (t : TabD) (l : List Int) : (rightT t l).length ≤ l.length + 1 := by
  unfold rightT
  split
  · rw [runB_length]
    exact Nat.le_refl _
  · simp
theorem fewT_of {t : TabD} {l : List Int} (h : fewT t l = true) : smallT t = true ∧ l.length ≤ 40 := by
  unfold fewT at h
  rw [Bool.and_eq_true, decide_eq_true_eq] at h
  exact h
set_option maxHeartbeats 16000000 in
set_option maxRecDepth 100000 in
theorem lawBStates (t : TabD) (u : TabV) (l : List Int) (A : Option Addr) (c : Nat) (w : World) (hT : TabAt w t u) (hn : ∀ p ∈ t.classes, p.length ≤ 9223372036854775807) (hA : IntsAt w A l) (hE : EnvB w) :
    Calls Tryd.prog 4 #[.agg (tabCells t u), .slice A l.length c] w fun e w' => e = .returned (.bool true) ∧ Below w.heap.size w w' := by
  have HFw := Lib.hid (fun w' h => few t u l A c w' h)
  have hk := Lib.hid (Blk.new w (tabCells t u) 28)
  have hbx := bBox w (.cells (tabCells t u) 28)
  cases hf : fewT t l with
  | false =>
    rw [hf] at HFw
    obtain ⟨a0, a1, a2, a3, a4, a5, c0, c1, c2, c3, c4, c5⟩ := u
    obtain ⟨k0, k1, k2, k3, k4, k5⟩ := tab_cells hk.out
    unfold tabCells at *
    dsimp only at *
    have HT := Lib.hid hT
    have HE := Lib.hid hE
    clear hT hE
    clear hf hn hk
    go_enter Tryd.func4, Tryd.ntmps4
    go_wp2_with fail
    refine (HFw.out _ (HT.out.keep hbx)).mono ?_
    rintro e w1 ⟨rfl, hb1⟩
    go_wp2_with fail
    refine (alive _ (HE.out.keep (bUp hbx hb1))).mono ?_
    rintro e w2 ⟨rfl, hb2⟩
    go_wp2_with fail
    go_ret
    exact ⟨rfl, bUp (bUp hbx hb1) hb2⟩
  | true =>
    rw [hf] at HFw
    obtain ⟨hs, hl⟩ := fewT_of hf
    have hF := smallT_few hs hn
    have HL := Lib.hid (fun w' h h2 => left t u l A c w' h hF h2 (by omega))
    have HM := Lib.hid (fun w' h h2 => rfLeft t u l A c w' h hF h2 (by omega))
    have HR := Lib.hid (fun w' h h2 => right t u l A c w' h hF h2 (by omega))
    have HQ := Lib.hid (fun w' h h2 => rfRight t u l A c w' h hF h2 (by omega))
    have hxl : (leftT t l).length ≤ 1000 := by have := leftT_le t l; omega
    have hyl : (rightT t l).length ≤ 1000 := by have := rightT_le t l; omega
    generalize leftT t l = xs at HL HM hxl
    generalize rightT t l = ys at HR HQ hyl
    obtain ⟨a0, a1, a2, a3, a4, a5, c0, c1, c2, c3, c4, c5⟩ := u
    obtain ⟨k0, k1, k2, k3, k4, k5⟩ := tab_cells hk.out
    unfold tabCells at *
    dsimp only at *
    have HT := Lib.hid hT
    have HE := Lib.hid hE
    have HA := Lib.hid hA
    clear hT hE hA
    clear hf hn hk hs hF hl
    go_enter Tryd.func4, Tryd.ntmps4
    go_wp2_with fail
    refine (HFw.out _ (HT.out.keep hbx)).mono ?_
    rintro e w1 ⟨rfl, hb1⟩
    clear HFw
    replace k0 := cell_keep hb1 k0
    replace k1 := cell_keep hb1 k1
    replace k2 := cell_keep hb1 k2
    replace k3 := cell_keep hb1 k3
    replace k4 := cell_keep hb1 k4
    replace k5 := cell_keep hb1 k5
    have hbx1 := bUp hbx hb1
    have hcur := (Below.refl w1.heap.size w1).drew
    have HT1 := Lib.hid (HT.out.keep hbx1)
    have HA1 := Lib.hid (HA.out.keep hbx1)
    clear HT HA hb1 hbx
    go_wp2_with fail
    refine wp_region_held_drew (S := fun (w' : World) => w'.cell? ⟨w.heap.size, 0, none⟩ = some (.slice a0 t.classes.length c0) ∧ w'.cell? ⟨w.heap.size, 1, none⟩ = some (.slice a1 t.actions.length c1) ∧ w'.cell? ⟨w.heap.size, 2, none⟩ = some (.slice a2 t.left.next.length c2) ∧ w'.cell? ⟨w.heap.size, 3, none⟩ = some (.slice a3 t.left.marks.length c3) ∧ w'.cell? ⟨w.heap.size, 4, none⟩ = some (.slice a4 t.right.next.length c4) ∧ w'.cell? ⟨w.heap.size, 5, none⟩ = some (.slice a5 t.right.marks.length c5)) (by kernel_rfl) ⟨k0, k1, k2, k3, k4, k5⟩ ?_
    intro hHeld
    refine wpAnyH_take (i := 0) (v := ?_) rfl (by kernel_rfl) (by kernel_rfl) (by kernel_rfl) (fun _ _ _ h => h) (Or.inl ⟨by rfl, ?_⟩) (by assumption) ?_
    rotate_left 1
    · intro w hSw
      (try dsimp only at hSw)
      go_simp
      (try with_reducible rfl)
    refine wpAnyH_take (i := 1) (v := ?_) rfl (by kernel_rfl) (by kernel_rfl) (by kernel_rfl) (fun _ _ _ h => h) (Or.inl ⟨by rfl, ?_⟩) (by assumption) ?_
    rotate_left 1
    · intro w hSw
      (try dsimp only at hSw)
      go_simp
      (try with_reducible rfl)
    refine wpAnyH_take (i := 3) (v := ?_) rfl (by kernel_rfl) (by kernel_rfl) (by kernel_rfl) (fun _ _ _ h => h) (Or.inl ⟨by rfl, ?_⟩) (by assumption) ?_
    rotate_left 1
    · intro w hSw
      (try dsimp only at hSw)
      go_simp
      (try with_reducible rfl)
    refine wpAnyH_take (i := 4) (v := ?_) rfl (by kernel_rfl) (by kernel_rfl) (by kernel_rfl) (fun _ _ _ h => h) (Or.inl ⟨by rfl, ?_⟩) (by assumption) ?_
    rotate_left 1
    · intro w hSw
      (try dsimp only at hSw)
      go_simp
      (try with_reducible rfl)
    clear hHeld
    refine wpAnyH_ready (rs := [2]) (by kernel_rfl) (by simp) ?_
    refine AllReadyH.cons rfl (fun K hK => ?_) AllReadyH.nil
    go_simp
    refine (HL.out _ (HT1.out.keep hcur) (HA1.out.keep hcur)).mono ?_
    rintro e v1 ⟨AL, cL, rfl, IL, -, hb⟩
    replace k0 := cell_keep hb k0
    replace k1 := cell_keep hb k1
    replace k2 := cell_keep hb k2
    replace k3 := cell_keep hb k3
    replace k4 := cell_keep hb k4
    replace k5 := cell_keep hb k5
    replace hcur := bUp hcur hb
    clear hb
    refine hK.out _ _ ⟨k0, k1, k2, k3, k4, k5⟩ (fun _ => ?_)
    clear hK K
    refine wpAnyH_ready (rs := [5]) (by kernel_rfl) (by simp) ?_
    refine AllReadyH.cons rfl (fun K hK => ?_) AllReadyH.nil
    go_simp
    refine (HM.out _ (HT1.out.keep hcur) (HA1.out.keep hcur)).mono ?_
    rintro e v2 ⟨AM, cM, rfl, IM, -, hb⟩
    replace k0 := cell_keep hb k0
    replace k1 := cell_keep hb k1
    replace k2 := cell_keep hb k2
    replace k3 := cell_keep hb k3
    replace k4 := cell_keep hb k4
    replace k5 := cell_keep hb k5
    replace IL := Lib.hid (IL.out.keep hb)
    replace hcur := bUp hcur hb
    clear hb
    refine hK.out _ _ ⟨k0, k1, k2, k3, k4, k5⟩ (fun _ => ?_)
    clear hK K
    refine wpAnyH_ready (rs := [6]) (by kernel_rfl) (by simp) ?_
    refine AllReadyH.cons rfl (fun K hK => ?_) AllReadyH.nil
    go_simp
    refine (eqSame xs hxl AL AM cL cM _ IL.out IM.out).mono ?_
    rintro e v3 ⟨rfl, hb⟩
    replace k0 := cell_keep hb k0
    replace k1 := cell_keep hb k1
    replace k2 := cell_keep hb k2
    replace k3 := cell_keep hb k3
    replace k4 := cell_keep hb k4
    replace k5 := cell_keep hb k5
    replace IL := Lib.hid (IL.out.keep hb)
    replace IM := Lib.hid (IM.out.keep hb)
    replace hcur := bUp hcur hb
    clear hb
    refine hK.out _ _ ⟨k0, k1, k2, k3, k4, k5⟩ (fun hHeld => ?_)
    clear hK K
    refine wpAnyH_take (i := 7) (v := ?_) rfl (by kernel_rfl) (by kernel_rfl) (by kernel_rfl) (fun _ _ _ h => h) (Or.inl ⟨by rfl, ?_⟩) (by assumption) ?_
    rotate_left 1
    · intro w hSw
      (try dsimp only at hSw)
      go_simp
      (try with_reducible rfl)
    refine wpAnyH_take (i := 8) (v := ?_) rfl (by kernel_rfl) (by kernel_rfl) (by kernel_rfl) (fun _ _ _ h => h) (Or.inl ⟨by rfl, ?_⟩) (by assumption) ?_
    rotate_left 1
    · intro w hSw
      (try dsimp only at hSw)
      go_simp
      (try with_reducible rfl)
    refine wpAnyH_take (i := 9) (v := ?_) rfl (by kernel_rfl) (by kernel_rfl) (by kernel_rfl) (fun _ _ _ h => h) (Or.inl ⟨by rfl, ?_⟩) (by assumption) ?_
    rotate_left 1
    · intro w hSw
      (try dsimp only at hSw)
      go_simp
      (try with_reducible rfl)
    refine wpAnyH_take (i := 11) (v := ?_) rfl (by kernel_rfl) (by kernel_rfl) (by kernel_rfl) (fun _ _ _ h => h) (Or.inl ⟨by rfl, ?_⟩) (by assumption) ?_
    rotate_left 1
    · intro w hSw
      (try dsimp only at hSw)
      go_simp
      (try with_reducible rfl)
    refine wpAnyH_take (i := 12) (v := ?_) rfl (by kernel_rfl) (by kernel_rfl) (by kernel_rfl) (fun _ _ _ h => h) (Or.inl ⟨by rfl, ?_⟩) (by assumption) ?_
    rotate_left 1
    · intro w hSw
      (try dsimp only at hSw)
      go_simp
      (try with_reducible rfl)
    clear hHeld
    refine wpAnyH_ready (rs := [10]) (by kernel_rfl) (by simp) ?_
    refine AllReadyH.cons rfl (fun K hK => ?_) AllReadyH.nil
    go_simp
    refine (HR.out _ (HT1.out.keep hcur) (HA1.out.keep hcur)).mono ?_
    rintro e v4 ⟨AR, cR, rfl, IR, -, hb⟩
    replace k0 := cell_keep hb k0
    replace k1 := cell_keep hb k1
    replace k2 := cell_keep hb k2
    replace k3 := cell_keep hb k3
    replace k4 := cell_keep hb k4
    replace k5 := cell_keep hb k5
    replace IL := Lib.hid (IL.out.keep hb)
    replace IM := Lib.hid (IM.out.keep hb)
    replace hcur := bUp hcur hb
    clear hb
    refine hK.out _ _ ⟨k0, k1, k2, k3, k4, k5⟩ (fun _ => ?_)
    clear hK K
    refine wpAnyH_ready (rs := [13]) (by kernel_rfl) (by simp) ?_
    refine AllReadyH.cons rfl (fun K hK => ?_) AllReadyH.nil
    go_simp
    refine (HQ.out _ (HT1.out.keep hcur) (HA1.out.keep hcur)).mono ?_
    rintro e v5 ⟨AQ, cQ, rfl, IQ, -, hb⟩
    replace k0 := cell_keep hb k0
    replace k1 := cell_keep hb k1
    replace k2 := cell_keep hb k2
    replace k3 := cell_keep hb k3
    replace k4 := cell_keep hb k4
    replace k5 := cell_keep hb k5
    replace IL := Lib.hid (IL.out.keep hb)
    replace IM := Lib.hid (IM.out.keep hb)
    replace IR := Lib.hid (IR.out.keep hb)
    replace hcur := bUp hcur hb
    clear hb
    refine hK.out _ _ ⟨k0, k1, k2, k3, k4, k5⟩ (fun _ => ?_)
    clear hK K
    refine wpAnyH_ready (rs := [14]) (by kernel_rfl) (by simp) ?_
    refine AllReadyH.cons rfl (fun K hK => ?_) AllReadyH.nil
    go_simp
    refine (eqSame ys hyl AR AQ cR cQ _ IR.out IQ.out).mono ?_
    rintro e v6 ⟨rfl, hb⟩
    replace k0 := cell_keep hb k0
    replace k1 := cell_keep hb k1
    replace k2 := cell_keep hb k2
    replace k3 := cell_keep hb k3
    replace k4 := cell_keep hb k4
    replace k5 := cell_keep hb k5
    replace IL := Lib.hid (IL.out.keep hb)
    replace IM := Lib.hid (IM.out.keep hb)
    replace IR := Lib.hid (IR.out.keep hb)
    replace IQ := Lib.hid (IQ.out.keep hb)
    replace hcur := bUp hcur hb
    clear hb
    refine hK.out _ _ ⟨k0, k1, k2, k3, k4, k5⟩ (fun hHeld => ?_)
    clear hK K
    refine wpAnyH_take (i := 15) (v := ?_) rfl (by kernel_rfl) (by kernel_rfl) (by kernel_rfl) (fun _ _ _ h => h) (Or.inl ⟨by rfl, ?_⟩) (by assumption) ?_
    rotate_left 1
    · intro w hSw
      (try dsimp only at hSw)
      go_simp
      (try with_reducible rfl)
    refine wpAnyH_take (i := 16) (v := ?_) rfl (by kernel_rfl) (by kernel_rfl) (by kernel_rfl) (fun _ _ _ h => h) (Or.inl ⟨by rfl, ?_⟩) (by assumption) ?_
    rotate_left 1
    · intro w hSw
      (try dsimp only at hSw)
      go_simp
      (try with_reducible rfl)
    clear hHeld
    refine wpAnyH_ready (rs := [17]) (by kernel_rfl) (by simp) ?_
    refine AllReadyH.cons rfl (fun K hK => ?_) AllReadyH.nil
    go_simp
    refine (alive _ (HE.out.keep (bUp hbx1 hcur))).mono ?_
    rintro e v7 ⟨rfl, hb⟩
    replace k0 := cell_keep hb k0
    replace k1 := cell_keep hb k1
    replace k2 := cell_keep hb k2
    replace k3 := cell_keep hb k3
    replace k4 := cell_keep hb k4
    replace k5 := cell_keep hb k5
    replace IL := Lib.hid (IL.out.keep hb)
    replace IM := Lib.hid (IM.out.keep hb)
    replace IR := Lib.hid (IR.out.keep hb)
    replace IQ := Lib.hid (IQ.out.keep hb)
    replace hcur := bUp hcur hb
    clear hb
    refine hK.out _ _ ⟨k0, k1, k2, k3, k4, k5⟩ (fun hHeld => ?_)
    clear hK K
    refine wpAnyH_take (i := 18) (v := ?_) rfl (by kernel_rfl) (by kernel_rfl) (by kernel_rfl) (fun _ _ _ h => h) (Or.inl ⟨by rfl, ?_⟩) (by assumption) ?_
    rotate_left 1
    · intro w hSw
      (try dsimp only at hSw)
      go_simp
      (try with_reducible rfl)
    refine wpAnyH_take (i := 19) (v := ?_) rfl (by kernel_rfl) (by kernel_rfl) (by kernel_rfl) (fun _ _ _ h => h) (Or.inl ⟨by rfl, ?_⟩) (by assumption) ?_
    rotate_left 1
    · intro w hSw
      (try dsimp only at hSw)
      go_simp
      (try with_reducible rfl)
    clear hHeld
    refine wpAnyH_done (by kernel_rfl) ?_ _
    clear k0 k1 k2 k3 k4 k5
    have hbz := bUp hbx1 hcur
    go_wp2_with fail
    go_ret
    exact ⟨rfl, hbz⟩
end Go.Proofs.YtlmdjggpeiddoaaDoor
