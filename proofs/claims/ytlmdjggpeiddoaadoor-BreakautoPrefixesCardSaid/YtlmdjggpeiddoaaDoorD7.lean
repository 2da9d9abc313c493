/- Decide of the reference Actions of the reference small, Small of the reference; few -/
import Derived.Test.YtlmdjggpeiddoaaDoorD6
import Derived.Deep.RegionHeld
namespace Go.Proofs.YtlmdjggpeiddoaaDoor
open Go.RowKit Go.Sort

theorem decT_use {t : TabD} {l : List Int} {p : Int} (hu : usableB t l = true) (h0 : 0 ≤ p) (h1 : p ≤ l.length) : decT t l p = decO t ((rowAt t.left.marks (nth (leftT t l) p.toNat).toNat).find? fun x => (rowAt t.right.marks (nth (rightT t l) p.toNat).toNat).contains x) := by
  have hlen : (leftT t l).length = l.length + 1 := by unfold leftT; rw [if_pos hu, runA_length]
  obtain ⟨_, hv, _, hx, hy⟩ := pos_in (t := t) (l := l) (k := p.toNat) (by rw [hlen]; omega)
  unfold decT decV
  rw [if_pos ⟨h0, by rw [hlen]; omega⟩]
  obtain ⟨m1, m2⟩ := sound_marks (valid_left hv)
  obtain ⟨n1, n2⟩ := sound_marks (valid_right hv)
  rw [merge_find _ _ _ 0 0 (Nat.le_refl _) (m2 (nth (leftT t l) p.toNat).toNat (by omega)) (n2 (nth (rightT t l) p.toNat).toNat (by omega))]
theorem decT_out {t : TabD} {l : List Int} {p : Int} (h : usableB t l = false ∨ p < 0 ∨ (l.length : Int) < p) : decT t l p = (2, -1) := by
  unfold decT
  rw [if_neg]
  rintro ⟨h0, h1⟩
  rcases h with h | h | h
  · unfold leftT at h1
    rw [h] at h1
    simp at h1
    omega
  · omega
  · have := leftT_le t l
    omega
theorem wpAnyH_more {P : Program} {md : Region.Mode} {ops : Array Oper} {Q : Exit → Act → World → Prop} {S S' : World → Prop} (hS : ∀ w, S' w → S w) : ∀ (fuel : Nat) (listed : Array Bool) (a : Act) (w : World), wpAnyH P md ops Q S' fuel listed a w → wpAnyH P md ops Q S fuel listed a w
  | 0, _, _, _, h => h
  | fuel + 1, _, _, _, h => ⟨h.1, fun i hi => wpOp_mono (fun a' w' h' => ⟨hS _ h'.1, wpAnyH_more hS fuel _ a' w' h'.2⟩) (h.2 i hi)⟩
theorem find_hit {P : Int → Bool} {a : List Int} {i : Nat} (h : i < a.length) (hp : P (nth a i) = true) : (a.drop i).find? P = some (nth a i) := by
  rw [drop_nth h, List.find?_cons, hp]
theorem find_miss {P : Int → Bool} {a : List Int} {i : Nat} (h : i < a.length) (hp : P (nth a i) = false) : (a.drop i).find? P = (a.drop (i + 1)).find? P := by
  rw [drop_nth h, List.find?_cons, hp]
theorem con_step {b : List Int} {k : Nat} (x : Int) (h : k < b.length) : (b.drop k).contains x = (x == nth b k || (b.drop (k + 1)).contains x) := by
  rw [drop_nth h, List.contains_cons]

set_option maxHeartbeats 16000000 in
set_option maxRecDepth 100000 in
theorem rfDecide (t : TabD) (v : TabV) (l : List Int) (A : Option Addr) (c : Nat) (p : Int) (w : World) (hT : TabAt w t v) (hF : TabFew t) (hA : IntsAt w A l) (hl : l.length ≤ 1000) :
    Calls Tryd.prog 21 #[.agg (tabCells t v), .slice A l.length c, .int .i64 p] w fun e w' => e = .returned (.tuple #[.int .i64 (decT t l p).1, .int .i64 (decT t l p).2]) ∧ Below w.heap.size w w' := by
  have HU := Lib.hid (fun w' h h2 => rfUsable t v l A c w' h hF h2 (by omega))
  have HL := Lib.hid (fun w' h h2 => rfLeft t v l A c w' h hF h2 hl)
  have HR := Lib.hid (fun w' h h2 => rfRight t v l A c w' h hF h2 (by omega))
  have hk := Lib.hid (Blk.new w (tabCells t v) 28)
  have hbx := bBox w (.cells (tabCells t v) 28)
  obtain ⟨a0, a1, a2, a3, a4, a5, c0, c1, c2, c3, c4, c5⟩ := v
  have HFew := Lib.hid hF
  have HT := Lib.hid hT
  have HA := Lib.hid hA
  clear hT hA
  clear hF
  have HK := Lib.hid (tab_cells hk.out)
  clear hk
  have HE1 := Lib.hid (fun h => decT_out (t := t) (l := l) (p := p) h)
  have HE2 := Lib.hid (fun h h0 h1 => decT_use (t := t) (l := l) (p := p) h h0 h1)
  generalize decT t l p = res at HE1 HE2 ⊢
  unfold tabCells at HU HL HR HK hbx ⊢
  dsimp only at HU HL HR HK hbx ⊢
  cases hu : usableB t l with
  | false =>
    rw [hu] at HU
    obtain rfl : res = (2, -1) := HE1.out (.inl hu)
    clear HE1 HE2 HL HR hu
    go_enter Tryd.func21, Tryd.ntmps21
    go_wp2_with fail
    refine (HU.out _ (HT.out.keep hbx) (HA.out.keep hbx)).mono ?_
    rintro e w2 ⟨rfl, hb2⟩
    go_wp2_with fail
    go_ret2
    exact ⟨rfl, bUp hbx hb2⟩
  | true =>
    rw [hu] at HU
    by_cases hp0 : 0 ≤ p
    · have t1 : decide (p < 0) = false := decide_eq_false (by omega)
      by_cases hp1 : p ≤ l.length
      · have t2 : decide ((l.length : Int) < p) = false := decide_eq_false (by omega)
        have HE := Lib.hid (HE2.out hu hp0 hp1)
        have HP := Lib.hid (pos_in (t := t) (l := l) (k := p.toNat) (by unfold leftT; rw [if_pos hu, runA_length]; omega))
        have hlen := Lib.hid (show (leftT t l).length = l.length + 1 by unfold leftT; rw [if_pos hu, runA_length])
        clear HE1 HE2 hu
        generalize leftT t l = xs at HL HP HE hlen
        generalize rightT t l = ys at HR HP HE
        obtain ⟨kp, rfl⟩ := Int.eq_ofNat_of_zero_le hp0
        rw [Int.toNat_natCast] at HP HE
        have hkx : kp < xs.length := by rw [hlen.out]; omega
        go_enter Tryd.func21, Tryd.ntmps21
        go_wp2_with fail
        refine (HU.out _ (HT.out.keep hbx) (HA.out.keep hbx)).mono ?_
        rintro e w1 ⟨rfl, hb1⟩
        obtain ⟨k0, k1, k2, k3, k4, k5⟩ := HK.out
        replace k0 := cell_keep hb1 k0
        replace k1 := cell_keep hb1 k1
        replace k2 := cell_keep hb1 k2
        replace k3 := cell_keep hb1 k3
        replace k4 := cell_keep hb1 k4
        replace k5 := cell_keep hb1 k5
        have hbx1 := bUp hbx hb1
        clear hb1 hbx HK HU
        have hcur := (Below.refl w1.heap.size w1).drew
        have HT1 := Lib.hid (HT.out.keep hbx1)
        have HA1 := Lib.hid (HA.out.keep hbx1)
        clear HT HA
        generalize l.length = n at HL HR t2 hp1
        go_wp2_with fail
        clear t1 t2
        obtain ⟨_, hv, hy, ⟨hx0, hx1⟩, ⟨hy0, hy1⟩⟩ := HP.out
        obtain ⟨m1, _⟩ := sound_marks (valid_left hv)
        obtain ⟨n1, _⟩ := sound_marks (valid_right hv)
        obtain ⟨sx, hsx⟩ := Int.eq_ofNat_of_zero_le hx0
        obtain ⟨sy, hsy⟩ := Int.eq_ofNat_of_zero_le hy0
        have hxl : sx < t.left.marks.length := by omega
        have hyl : sy < t.right.marks.length := by omega
        rw [hsx, hsy, Int.toNat_natCast, Int.toNat_natCast] at HE
        have hkl : (kp : Int) < xs.length := by omega
        have hyi : (kp : Int) < ys.length := by omega
        have hxi : (sx : Int) < t.left.marks.length := by omega
        have hyi2 : (sy : Int) < t.right.marks.length := by omega
        clear HP hx0 hx1 hy0 hy1 m1 n1
        have Hsx := Lib.hid hsx
        have Hsy := Lib.hid hsy
        have Hv := Lib.hid hv
        clear hsx hsy hv
        obtain ⟨bL, oL, BL, cL', rfl, hbL', hcL, hIL'⟩ := HT1.out.lm.at_ hxl
        obtain ⟨bR, oR, BR, cR', rfl, hbR', hcR, hIR'⟩ := HT1.out.rm.at_ hyl
        have HIa := Lib.hid hIL'
        have HIb := Lib.hid hIR'
        have HAc := Lib.hid HT1.out.actions
        have HMa := Lib.hid (fun i h => marksOk_ge _ _ ((sound_marks (valid_left Hv.out)).2 sx (by have := (sound_marks (valid_left Hv.out)).1; omega)) i h)
        clear hIL' hIR' hlen hkx
        have hra := HFew.out.rml _ (rowAt_mem hxl)
        have hrb := HFew.out.rmr _ (rowAt_mem hyl)
        clear HFew
        generalize rowAt t.left.marks sx = ra at hcL HIa HE HMa hra
        generalize rowAt t.right.marks sy = rb at hcR HIb HE hrb
        refine wp_region_held_drew (S := fun (w' : World) => w'.cell? ⟨w.heap.size, 0, none⟩ = some (.slice a0 t.classes.length c0) ∧ w'.cell? ⟨w.heap.size, 1, none⟩ = some (.slice a1 t.actions.length c1) ∧ w'.cell? ⟨w.heap.size, 2, none⟩ = some (.slice a2 t.left.next.length c2) ∧ w'.cell? ⟨w.heap.size, 3, none⟩ = some (.slice (some ⟨bL, oL, none⟩) t.left.marks.length c3) ∧ w'.cell? ⟨w.heap.size, 4, none⟩ = some (.slice a4 t.right.next.length c4) ∧ w'.cell? ⟨w.heap.size, 5, none⟩ = some (.slice (some ⟨bR, oR, none⟩) t.right.marks.length c5) ∧ w'.cell? ⟨bL, oL + sx, none⟩ = some (.slice BL ra.length cL') ∧ w'.cell? ⟨bR, oR + sy, none⟩ = some (.slice BR rb.length cR')) (by kernel_rfl) ⟨k0, k1, k2, k3, k4, k5, hcL, hcR⟩ ?_
        intro hHeld
        refine wpAnyH_take (i := 0) (v := ?_) rfl (by kernel_rfl) (by kernel_rfl) (by kernel_rfl) (fun _ _ _ h => h) (Or.inl ⟨by rfl, ?_⟩) (by assumption) ?_
        rotate_left 1
        · intro w hSw
          (try dsimp only at hSw)
          go_simp
          (try with_reducible rfl)
        refine wpAnyH_take (i := 1) (v := ?_) rfl (by kernel_rfl) (by kernel_rfl) (by kernel_rfl) (fun _ _ _ h => h) (Or.inl ⟨by rfl, ?_⟩) (by assumption) ?_
        rotate_left 1
        · intro w hSw
          (try dsimp only at hSw)
          go_simp
          (try with_reducible rfl)
        refine wpAnyH_take (i := 2) (v := ?_) rfl (by kernel_rfl) (by kernel_rfl) (by kernel_rfl) (fun _ _ _ h => h) (Or.inl ⟨by rfl, ?_⟩) (by assumption) ?_
        rotate_left 1
        · intro w hSw
          (try dsimp only at hSw)
          go_simp
          (try with_reducible rfl)
        refine wpAnyH_take (i := 3) (v := ?_) rfl (by kernel_rfl) (by kernel_rfl) (by kernel_rfl) (fun _ _ _ h => h) (Or.inl ⟨by rfl, ?_⟩) (by assumption) ?_
        rotate_left 1
        · intro w hSw
          (try dsimp only at hSw)
          go_simp
          (try with_reducible rfl)
        refine wpAnyH_take (i := 4) (v := ?_) rfl (by kernel_rfl) (by kernel_rfl) (by kernel_rfl) (fun _ _ _ h => h) (Or.inl ⟨by rfl, ?_⟩) (by assumption) ?_
        rotate_left 1
        · intro w hSw
          (try dsimp only at hSw)
          go_simp
          (try with_reducible rfl)
        refine wpAnyH_take (i := 6) (v := ?_) rfl (by kernel_rfl) (by kernel_rfl) (by kernel_rfl) (fun _ _ _ h => h) (Or.inl ⟨by rfl, ?_⟩) (by assumption) ?_
        rotate_left 1
        · intro w hSw
          (try dsimp only at hSw)
          go_simp
          (try with_reducible rfl)
        refine wpAnyH_take (i := 11) (v := ?_) rfl (by kernel_rfl) (by kernel_rfl) (by kernel_rfl) (fun _ _ _ h => h) (Or.inl ⟨by rfl, ?_⟩) (by assumption) ?_
        rotate_left 1
        · intro w hSw
          (try dsimp only at hSw)
          go_simp
          (try with_reducible rfl)
        refine wpAnyH_take (i := 12) (v := ?_) rfl (by kernel_rfl) (by kernel_rfl) (by kernel_rfl) (fun _ _ _ h => h) (Or.inl ⟨by rfl, ?_⟩) (by assumption) ?_
        rotate_left 1
        · intro w hSw
          (try dsimp only at hSw)
          go_simp
          (try with_reducible rfl)
        refine wpAnyH_take (i := 13) (v := ?_) rfl (by kernel_rfl) (by kernel_rfl) (by kernel_rfl) (fun _ _ _ h => h) (Or.inl ⟨by rfl, ?_⟩) (by assumption) ?_
        rotate_left 1
        · intro w hSw
          (try dsimp only at hSw)
          go_simp
          (try with_reducible rfl)
        refine wpAnyH_take (i := 14) (v := ?_) rfl (by kernel_rfl) (by kernel_rfl) (by kernel_rfl) (fun _ _ _ h => h) (Or.inl ⟨by rfl, ?_⟩) (by assumption) ?_
        rotate_left 1
        · intro w hSw
          (try dsimp only at hSw)
          go_simp
          (try with_reducible rfl)
        refine wpAnyH_take (i := 15) (v := ?_) rfl (by kernel_rfl) (by kernel_rfl) (by kernel_rfl) (fun _ _ _ h => h) (Or.inl ⟨by rfl, ?_⟩) (by assumption) ?_
        rotate_left 1
        · intro w hSw
          (try dsimp only at hSw)
          go_simp
          (try with_reducible rfl)
        refine wpAnyH_take (i := 17) (v := ?_) rfl (by kernel_rfl) (by kernel_rfl) (by kernel_rfl) (fun _ _ _ h => h) (Or.inl ⟨by rfl, ?_⟩) (by assumption) ?_
        rotate_left 1
        · intro w hSw
          (try dsimp only at hSw)
          go_simp
          (try with_reducible rfl)
        clear hHeld
        refine wpAnyH_ready (rs := [5]) (by kernel_rfl) (by simp) ?_
        refine AllReadyH.cons rfl (fun K hK => ?_) AllReadyH.nil
        · skip
          go_simp
          refine (HL.out _ (HT1.out.keep hcur) (HA1.out.keep hcur)).mono ?_
          rintro e w5 ⟨AL, cL, rfl, hIL, _, hb5⟩
          obtain ⟨bx, ox, rfl, _, hcx⟩ := hIL.out.at_ (k := kp) (by omega)
          rw [Hsx.out] at hcx
          replace k0 := cell_keep hb5 k0
          replace k1 := cell_keep hb5 k1
          replace k2 := cell_keep hb5 k2
          replace k3 := cell_keep hb5 k3
          replace k4 := cell_keep hb5 k4
          replace k5 := cell_keep hb5 k5
          replace hcL := cell_keep hb5 hcL
          replace hcR := cell_keep hb5 hcR
          replace hcur := bUp hcur hb5
          clear hb5 hIL
          refine hK.out _ _ ⟨k0, k1, k2, k3, k4, k5, hcL, hcR⟩ (fun _ => ?_)
          clear hK K
          refine wpAnyH_more (S' := fun (w' : World) => w'.cell? ⟨w.heap.size, 0, none⟩ = some (.slice a0 t.classes.length c0) ∧ w'.cell? ⟨w.heap.size, 1, none⟩ = some (.slice a1 t.actions.length c1) ∧ w'.cell? ⟨w.heap.size, 2, none⟩ = some (.slice a2 t.left.next.length c2) ∧ w'.cell? ⟨w.heap.size, 3, none⟩ = some (.slice (some ⟨bL, oL, none⟩) t.left.marks.length c3) ∧ w'.cell? ⟨w.heap.size, 4, none⟩ = some (.slice a4 t.right.next.length c4) ∧ w'.cell? ⟨w.heap.size, 5, none⟩ = some (.slice (some ⟨bR, oR, none⟩) t.right.marks.length c5) ∧ w'.cell? ⟨bL, oL + sx, none⟩ = some (.slice BL ra.length cL') ∧ w'.cell? ⟨bR, oR + sy, none⟩ = some (.slice BR rb.length cR') ∧ w'.cell? ⟨bx, ox + kp, none⟩ = some (.int .i64 sx)) (fun _ h => ⟨h.1, h.2.1, h.2.2.1, h.2.2.2.1, h.2.2.2.2.1, h.2.2.2.2.2.1, h.2.2.2.2.2.2.1, h.2.2.2.2.2.2.2.1⟩) _ _ _ _ ?_
          have hHeld : (fun (w' : World) => w'.cell? ⟨w.heap.size, 0, none⟩ = some (.slice a0 t.classes.length c0) ∧ w'.cell? ⟨w.heap.size, 1, none⟩ = some (.slice a1 t.actions.length c1) ∧ w'.cell? ⟨w.heap.size, 2, none⟩ = some (.slice a2 t.left.next.length c2) ∧ w'.cell? ⟨w.heap.size, 3, none⟩ = some (.slice (some ⟨bL, oL, none⟩) t.left.marks.length c3) ∧ w'.cell? ⟨w.heap.size, 4, none⟩ = some (.slice a4 t.right.next.length c4) ∧ w'.cell? ⟨w.heap.size, 5, none⟩ = some (.slice (some ⟨bR, oR, none⟩) t.right.marks.length c5) ∧ w'.cell? ⟨bL, oL + sx, none⟩ = some (.slice BL ra.length cL') ∧ w'.cell? ⟨bR, oR + sy, none⟩ = some (.slice BR rb.length cR') ∧ w'.cell? ⟨bx, ox + kp, none⟩ = some (.int .i64 sx)) w5 := ⟨k0, k1, k2, k3, k4, k5, hcL, hcR, hcx⟩
          refine wpAnyH_take (i := 7) (v := ?_) rfl (by kernel_rfl) (by kernel_rfl) (by kernel_rfl) (fun _ _ _ h => h) (Or.inl ⟨by rfl, ?_⟩) (by assumption) ?_
          rotate_left 1
          · intro w hSw
            (try dsimp only at hSw)
            go_simp
            (try with_reducible rfl)
          refine wpAnyH_take (i := 8) (v := ?_) rfl (by kernel_rfl) (by kernel_rfl) (by kernel_rfl) (fun _ _ _ h => h) (Or.inl ⟨by rfl, ?_⟩) (by assumption) ?_
          rotate_left 1
          · intro w hSw
            (try dsimp only at hSw)
            go_simp
            (try with_reducible rfl)
          refine wpAnyH_take (i := 9) (v := ?_) rfl (by kernel_rfl) (by kernel_rfl) (by kernel_rfl) (fun _ _ _ h => h) (Or.inl ⟨by rfl, ?_⟩) (by assumption) ?_
          rotate_left 1
          · intro w hSw
            (try dsimp only at hSw)
            go_simp
            (try with_reducible rfl)
          refine wpAnyH_take (i := 10) (v := ?_) rfl (by kernel_rfl) (by kernel_rfl) (by kernel_rfl) (fun _ _ _ h => h) (Or.inl ⟨by rfl, ?_⟩) (by assumption) ?_
          rotate_left 1
          · intro w hSw
            (try dsimp only at hSw)
            go_simp
            (try with_reducible rfl)
          clear hHeld
          refine wpAnyH_ready (rs := [16]) (by kernel_rfl) (by simp) ?_
          refine AllReadyH.cons rfl (fun K hK => ?_) AllReadyH.nil
          go_simp
          refine (HR.out _ (HT1.out.keep hcur) (HA1.out.keep hcur)).mono ?_
          rintro e w5 ⟨AR, cR, rfl, hIR, _, hb5⟩
          obtain ⟨by_, oy, rfl, _, hcy⟩ := hIR.out.at_ (k := kp) (by omega)
          rw [Hsy.out] at hcy
          replace k0 := cell_keep hb5 k0
          replace k1 := cell_keep hb5 k1
          replace k2 := cell_keep hb5 k2
          replace k3 := cell_keep hb5 k3
          replace k4 := cell_keep hb5 k4
          replace k5 := cell_keep hb5 k5
          replace hcL := cell_keep hb5 hcL
          replace hcR := cell_keep hb5 hcR
          replace hcur := bUp hcur hb5
          replace hcx := cell_keep hb5 hcx
          clear hb5 hIR
          refine hK.out _ _ ⟨k0, k1, k2, k3, k4, k5, hcL, hcR, hcx⟩ (fun _ => ?_)
          clear hK K
          refine wpAnyH_more (S' := fun (w' : World) => w'.cell? ⟨w.heap.size, 0, none⟩ = some (.slice a0 t.classes.length c0) ∧ w'.cell? ⟨w.heap.size, 1, none⟩ = some (.slice a1 t.actions.length c1) ∧ w'.cell? ⟨w.heap.size, 2, none⟩ = some (.slice a2 t.left.next.length c2) ∧ w'.cell? ⟨w.heap.size, 3, none⟩ = some (.slice (some ⟨bL, oL, none⟩) t.left.marks.length c3) ∧ w'.cell? ⟨w.heap.size, 4, none⟩ = some (.slice a4 t.right.next.length c4) ∧ w'.cell? ⟨w.heap.size, 5, none⟩ = some (.slice (some ⟨bR, oR, none⟩) t.right.marks.length c5) ∧ w'.cell? ⟨bL, oL + sx, none⟩ = some (.slice BL ra.length cL') ∧ w'.cell? ⟨bR, oR + sy, none⟩ = some (.slice BR rb.length cR') ∧ w'.cell? ⟨bx, ox + kp, none⟩ = some (.int .i64 sx) ∧ w'.cell? ⟨by_, oy + kp, none⟩ = some (.int .i64 sy)) (fun _ h => ⟨h.1, h.2.1, h.2.2.1, h.2.2.2.1, h.2.2.2.2.1, h.2.2.2.2.2.1, h.2.2.2.2.2.2.1, h.2.2.2.2.2.2.2.1, h.2.2.2.2.2.2.2.2.1⟩) _ _ _ _ ?_
          have hHeld : (fun (w' : World) => w'.cell? ⟨w.heap.size, 0, none⟩ = some (.slice a0 t.classes.length c0) ∧ w'.cell? ⟨w.heap.size, 1, none⟩ = some (.slice a1 t.actions.length c1) ∧ w'.cell? ⟨w.heap.size, 2, none⟩ = some (.slice a2 t.left.next.length c2) ∧ w'.cell? ⟨w.heap.size, 3, none⟩ = some (.slice (some ⟨bL, oL, none⟩) t.left.marks.length c3) ∧ w'.cell? ⟨w.heap.size, 4, none⟩ = some (.slice a4 t.right.next.length c4) ∧ w'.cell? ⟨w.heap.size, 5, none⟩ = some (.slice (some ⟨bR, oR, none⟩) t.right.marks.length c5) ∧ w'.cell? ⟨bL, oL + sx, none⟩ = some (.slice BL ra.length cL') ∧ w'.cell? ⟨bR, oR + sy, none⟩ = some (.slice BR rb.length cR') ∧ w'.cell? ⟨bx, ox + kp, none⟩ = some (.int .i64 sx) ∧ w'.cell? ⟨by_, oy + kp, none⟩ = some (.int .i64 sy)) w5 := ⟨k0, k1, k2, k3, k4, k5, hcL, hcR, hcx, hcy⟩
          refine wpAnyH_take (i := 18) (v := ?_) rfl (by kernel_rfl) (by kernel_rfl) (by kernel_rfl) (fun _ _ _ h => h) (Or.inl ⟨by rfl, ?_⟩) (by assumption) ?_
          rotate_left 1
          · intro w hSw
            (try dsimp only at hSw)
            go_simp
            (try with_reducible rfl)
          refine wpAnyH_take (i := 19) (v := ?_) rfl (by kernel_rfl) (by kernel_rfl) (by kernel_rfl) (fun _ _ _ h => h) (Or.inl ⟨by rfl, ?_⟩) (by assumption) ?_
          rotate_left 1
          · intro w hSw
            (try dsimp only at hSw)
            go_simp
            (try with_reducible rfl)
          refine wpAnyH_take (i := 20) (v := ?_) rfl (by kernel_rfl) (by kernel_rfl) (by kernel_rfl) (fun _ _ _ h => h) (Or.inl ⟨by rfl, ?_⟩) (by assumption) ?_
          rotate_left 1
          · intro w hSw
            (try dsimp only at hSw)
            go_simp
            (try with_reducible rfl)
          refine wpAnyH_take (i := 21) (v := ?_) rfl (by kernel_rfl) (by kernel_rfl) (by kernel_rfl) (fun _ _ _ h => h) (Or.inl ⟨by rfl, ?_⟩) (by assumption) ?_
          rotate_left 1
          · intro w hSw
            (try dsimp only at hSw)
            go_simp
            (try with_reducible rfl)
          refine wpAnyH_take (i := 22) (v := ?_) rfl (by kernel_rfl) (by kernel_rfl) (by kernel_rfl) (fun _ _ _ h => h) (Or.inl ⟨by rfl, ?_⟩) (by assumption) ?_
          rotate_left 1
          · intro w hSw
            (try dsimp only at hSw)
            go_simp
            (try with_reducible rfl)
          refine wpAnyH_take (i := 23) (v := ?_) rfl (by kernel_rfl) (by kernel_rfl) (by kernel_rfl) (fun _ _ _ h => h) (Or.inl ⟨by rfl, ?_⟩) (by assumption) ?_
          rotate_left 1
          · intro w hSw
            (try dsimp only at hSw)
            go_simp
            (try with_reducible rfl)
          clear hHeld
          refine wpAnyH_done (by kernel_rfl) ?_ _
          clear k0 k2 k3 k4 k5 hcL hcR hcx hcy hxi hyi2 hkl hyi hxl hyl HL HR hp0 hp1
          have HIa' := Lib.hid (HIa.out.keep hcur)
          have HIb' := Lib.hid (HIb.out.keep hcur)
          have HAc' := Lib.hid (HAc.out.keep hcur)
          have hbx5 := bUp hbx1 hcur
          clear HIa HIb HAc hcur HT1 HA1 hbx1
          go_wp2_with fail
          go_loopw [10] (fun i wr => ∃ k : Nat, k ≤ ra.length ∧ i = .int .i64 k ∧ Hid (res = decO t ((ra.drop k).find? fun x => rb.contains x)) ∧ Below w5.heap.size w5 wr) (fun i _ => ra.length - (intOf i).toNat)
          case atStart => exact ⟨0, Nat.zero_le _, rfl, HE, Below.refl _ _⟩
          case round =>
            clear HE
            obtain ⟨k, hk, rfl, HE, hbr⟩ := hrel
            by_cases hlt : k < ra.length
            · have hki : (k : Int) < ra.length := by omega
              obtain ⟨hx0, hx1⟩ := HMa.out _ (nth_mem hlt)
              obtain ⟨ba, oa, rfl, hba, hca⟩ := HIa'.out.at_ hlt
              have HH := Lib.hid (fun h => find_hit (P := fun x => rb.contains x) hlt h)
              have HM := Lib.hid (fun h => find_miss (P := fun x => rb.contains x) hlt h)
              generalize nth ra k = x at hx0 hx1 hca HH HM
              obtain ⟨n, rfl⟩ := Int.eq_ofNat_of_zero_le hx0
              obtain ⟨bc, oc, eAc, hbc, hcc⟩ := HAc'.out.at_ (k := n) (by omega)
              have hnt : (n : Int) < t.actions.length := by omega
              go_wp2_with fail
              go_loopw [11] (fun i wq => ∃ m : Nat, m ≤ rb.length ∧ i = .int .i64 m ∧ Hid (rb.contains (n : Int) = (rb.drop m).contains (n : Int)) ∧ Below w5.heap.size w5 wq) (fun i _ => rb.length - (intOf i).toNat)
              case atStart => exact ⟨0, Nat.zero_le _, rfl, Lib.hid rfl, hbr⟩
              case round =>
                clear hbr
                obtain ⟨m, hm, rfl, HC, hbr⟩ := hrel
                by_cases hlm : m < rb.length
                · have hmi : (m : Int) < rb.length := by omega
                  obtain ⟨bb, ob, rfl, hbb, hcb⟩ := HIb'.out.at_ hlm
                  have HS := Lib.hid (HC.out.trans (con_step _ hlm))
                  generalize nth rb m = y at hcb HS
                  have r1 := cell_regrown (cell_keep hbr hca)
                  have r2 := cell_regrown (cell_keep hbr hcb)
                  by_cases hxy : (n : Int) = y
                  · subst hxy
                    have HF := Lib.hid (HH.out (by rw [HS.out]; simp))
                    have HV := Lib.hid (show res = (nth t.actions n, (n : Int)) by rw [HE.out, HF.out]; rfl)
                    go_wp2_with fail
                    refine wp_region_quiet_below (by kernel_rfl) (by kernel_rfl) ?_
                    repeat (go_big_quiet_step (fail))
                    refine wpQuiet_nil ?_
                    rintro _ ⟨⟨dq, osq⟩, rfl⟩
                    have hb6 := below_regrown wr dq osq
                    generalize grow (redrawn wr dq) osq = w6 at hb6 ⊢
                    have hb7 := bUp hbr hb6
                    have r3 := cell_regrown (cell_keep hb7 k1)
                    have r4 := cell_regrown (cell_keep hb7 hca)
                    have r5 := cell_regrown (cell_keep hb7 hcc)
                    subst eAc
                    go_wp2_with fail
                    refine wp_region_quiet_below (by kernel_rfl) (by kernel_rfl) ?_
                    repeat (go_big_quiet_step (fail))
                    refine wpQuiet_nil ?_
                    rintro _ ⟨⟨dq, osq⟩, rfl⟩
                    have hb8 := below_regrown w6 dq osq
                    generalize grow (redrawn w6 dq) osq = w8 at hb8 ⊢
                    go_wp2_with fail
                    go_ret2
                    exact ⟨by rw [HV.out]; rfl, bUp hbx5 (bUp hb7 hb8)⟩
                  · have t1 : ((n : Int) == y) = false := by simpa using hxy
                    rw [t1, Bool.false_or] at HS
                    clear hxy
                    go_wp2_with fail
                    refine wp_region_quiet_below (by kernel_rfl) (by kernel_rfl) ?_
                    repeat (go_big_quiet_step (fail))
                    refine wpQuiet_nil ?_
                    rintro _ ⟨⟨dq, osq⟩, rfl⟩
                    have hb6 := below_regrown wr dq osq
                    generalize grow (redrawn wr dq) osq = w6 at hb6 ⊢
                    go_wp2_with fail
                    go_roundw
                    case rel => exact ⟨m + 1, by omega, by go_num, HS, bUp hbr hb6⟩
                    case measure => simp [intOf]; omega
                · obtain rfl : m = rb.length := by omega
                  have hmi : ¬ (rb.length : Int) < rb.length := by omega
                  have HF := Lib.hid (HM.out (by rw [HC.out, List.drop_length]; rfl))
                  have HE' := Lib.hid (show res = decO t ((ra.drop (k + 1)).find? fun x => rb.contains x) by rw [HE.out, HF.out])
                  go_wp2_with fail
                  go_roundw
                  case rel => exact ⟨k + 1, by omega, by go_num, HE', hbr⟩
                  case measure => simp [intOf]; omega
            · obtain rfl : k = ra.length := by omega
              have hki : ¬ (ra.length : Int) < ra.length := by omega
              have HV := Lib.hid (show res = (2, -1) by rw [HE.out, List.drop_length]; rfl)
              obtain rfl : res = (2, -1) := HV.out
              go_wp2_with fail
              go_ret2
              exact ⟨rfl, bUp hbx5 hbr⟩
      · have t2 : decide ((l.length : Int) < p) = true := decide_eq_true (by omega)
        obtain rfl : res = (2, -1) := HE1.out (.inr (.inr (by omega)))
        clear HE1 HE2 HL HR hu
        go_enter Tryd.func21, Tryd.ntmps21
        go_wp2_with fail
        refine (HU.out _ (HT.out.keep hbx) (HA.out.keep hbx)).mono ?_
        rintro e w2 ⟨rfl, hb2⟩
        go_wp2_with fail
        go_ret2
        exact ⟨rfl, bUp hbx hb2⟩
    · have t1 : decide (p < 0) = true := decide_eq_true (by omega)
      obtain rfl : res = (2, -1) := HE1.out (.inr (.inl (by omega)))
      clear HE1 HE2 HL HR hu
      go_enter Tryd.func21, Tryd.ntmps21
      go_wp2_with fail
      refine (HU.out _ (HT.out.keep hbx) (HA.out.keep hbx)).mono ?_
      rintro e w2 ⟨rfl, hb2⟩
      go_wp2_with fail
      go_ret2
      exact ⟨rfl, bUp hbx hb2⟩
end Go.Proofs.YtlmdjggpeiddoaaDoor
namespace Go.Proofs.YtlmdjggpeiddoaaDoor
open Go.RowKit Go.Sort

set_option maxHeartbeats 8000000 in
set_option maxRecDepth 100000 in
theorem rfActions (t : TabD) (v : TabV) (l : List Int) (A : Option Addr) (c : Nat) (w : World) (hT : TabAt w t v) (hF : TabFew t) (hA : IntsAt w A l) (hl : l.length ≤ 1000) :
    Calls Tryd.prog 22 #[.agg (tabCells t v), .slice A l.length c] w (SlInts (actsT t l) w) := by
  have HV := Lib.hid (fun w' h h2 => rfUsable t v l A c w' h hF h2 (by omega))
  have HD := Lib.hid (fun p w' h h2 => rfDecide t v l A c p w' h hF h2 hl)
  have hk := Lib.hid (Blk.new w (tabCells t v) 28)
  have hbx := bBox w (.cells (tabCells t v) 28)
  have HN := Lib.hid (fun n => actsN_snoc t l n)
  have HM := Lib.hid (fun n => actsN_length t l n)
  obtain ⟨a0, a1, a2, a3, a4, a5, c0, c1, c2, c3, c4, c5⟩ := v
  have HT := Lib.hid hT
  have HA := Lib.hid hA
  clear hT hA
  clear hF
  have HK := Lib.hid (tab_cells hk.out)
  clear hk
  unfold actsT
  have H0 := Lib.hid (show actsN t l 0 = [] from rfl)
  generalize actsN t l = ac at HN HM H0 ⊢
  generalize decT t l = dt at HD HN
  unfold tabCells at HV HD HK hbx ⊢
  dsimp only at HV HD HK hbx ⊢
  cases hu : usableB t l with
  | false =>
    rw [hu] at HV
    have HX := Lib.hid (show (leftT t l).length = 0 by unfold leftT; rw [hu]; rfl)
    rw [HX.out, H0.out]
    clear hu HX HD HN HM H0
    go_enter Tryd.func22, Tryd.ntmps22
    go_wp2_with fail
    refine (HV.out _ (HT.out.keep hbx) (HA.out.keep hbx)).mono ?_
    rintro e w2 ⟨rfl, hb2⟩
    go_wp2_with fail
    go_ret
    exact slints_nil (bUp hbx hb2)
  | true =>
    rw [hu] at HV
    rw [show (leftT t l).length = l.length + 1 by unfold leftT; rw [if_pos hu, runA_length]]
    clear hu
    go_enter Tryd.func22, Tryd.ntmps22
    go_wp2_with fail
    refine (HV.out _ (HT.out.keep hbx) (HA.out.keep hbx)).mono ?_
    rintro e w2 ⟨rfl, hb2⟩
    obtain ⟨k0, k1, k2, k3, k4, k5⟩ := HK.out
    have hb2' := bUp hbx hb2
    have HK2 := Lib.hid (And.intro (cell_keep hb2 k0) (And.intro (cell_keep hb2 k1) (And.intro (cell_keep hb2 k2) (And.intro (cell_keep hb2 k3) (And.intro (cell_keep hb2 k4) (cell_keep hb2 k5))))))
    have HT2 := Lib.hid (HT.out.keep hb2')
    have HA2 := Lib.hid (HA.out.keep hb2')
    clear HT HA HK hbx hb2 HV k0 k1 k2 k3 k4 k5
    go_wp2_with fail
    go_loopw [6, 5] (fun i o wr => ∃ k : Nat, k ≤ l.length + 1 ∧ i = .int .i64 k ∧ Hid (OwnI wr w2.heap.size o (ac k)) ∧ Below w2.heap.size w2 wr) (fun i _ _ => l.length + 1 - (intOf i).toNat)
    case atStart => exact ⟨0, Nat.zero_le _, rfl, Lib.hid (by rw [H0.out]; exact OwnI.nil _ _), Below.refl _ _⟩
    case round =>
      obtain ⟨k, hk, rfl, HO, hbr⟩ := hrel
      by_cases hlt : k ≤ l.length
      · have hki : (k : Int) ≤ l.length := by omega
        have HS := Lib.hid (HN.out k)
        have hlen : (ac k).length + 1 ≤ 1000000 := by rw [HM.out]; omega
        have CD := Lib.hid (HD.out (k : Int) wr (HT2.out.keep hbr) (HA2.out.keep hbr))
        generalize dt k = res at CD HS
        obtain ⟨r1, r2⟩ := res
        dsimp only at HS CD
        have k0 := cell_keep hbr HK2.out.1
        have k1 := cell_keep hbr HK2.out.2.1
        have k2 := cell_keep hbr HK2.out.2.2.1
        have k3 := cell_keep hbr HK2.out.2.2.2.1
        have k4 := cell_keep hbr HK2.out.2.2.2.2.1
        have k5 := cell_keep hbr HK2.out.2.2.2.2.2
        have hsz := hbr.size
        go_wp2_with fail
        refine CD.out.mono ?_
        rintro e w7 ⟨rfl, hb7⟩
        clear k0 k1 k2 k3 k4 k5 CD
        have hsz7 := hb7.size
        have HO7 := Lib.hid (HO.out.keep hb7)
        generalize ac k = acc at HO7 hlen HS
        have hbase : ∀ o, w2.heap.size ≤ (w7.alloc o).heap.size := fun o => by simp; omega
        have hone : 0 < [r1].length := by simp
        go_wp2_with (at_builtin; refine wpI rfl _ _ rfl w2.heap.size rfl (HO7.out.keep (bBox _ _)) [r1] rfl (ints_new _ _ _) hone hlen (hbase _) ?_)
        intro o2 w8 hO8 hb8
        have hb9 := hb8 w2 (bUp (bUp hbr hb7) (bBox _ _))
        clear hb8
        go_wp2_with fail
        go_roundw
        case rel => exact ⟨k + 1, by omega, by go_num, Lib.hid (by rw [HS.out]; exact hO8.out), hb9⟩
        case measure => simp [intOf]; omega
      · obtain rfl : k = l.length + 1 := by omega
        have hki : decide (((l.length + 1 : Nat) : Int) ≤ (l.length : Int)) = false := decide_eq_false (by omega)
        have hki2 : decide ((l.length + 1 : Nat) ≤ l.length) = false := decide_eq_false (by omega)
        have hki3 : decide ((l.length : Int) + 1 ≤ (l.length : Int)) = false := decide_eq_false (by omega)
        obtain ⟨A', c', rfl⟩ := HO.out.form
        have hcap := Lib.hid (HO.out.cap)
        go_wp2_with fail
        go_ret
        exact ⟨A', c', rfl, Lib.hid HO.out.ints, Lib.hid hcap.out.1, bUp hb2' hbr⟩
end Go.Proofs.YtlmdjggpeiddoaaDoor
namespace Go.Proofs.YtlmdjggpeiddoaaDoor
open Go.RowKit Go.Sort

def leN (n : Nat) (r : List Int) : Bool := decide (r.length ≤ n)
def smallA (a : AutoD) : Bool := decide (a.next.length ≤ 20) && decide (a.marks.length ≤ 20) && (a.next.all (leN 12) && a.marks.all (leN 20))
def smallT (t : TabD) : Bool := decide (t.classes.length ≤ 8) && decide (t.actions.length ≤ 12) && (smallA t.left && smallA t.right)
def fewT (t : TabD) (l : List Int) : Bool := smallT t && decide (l.length ≤ 40)
theorem allR_bad {P : List Int → Bool} {rs : List (List Int)} {k : Nat} (h : k < rs.length) (hp : P (rowAt rs k) = false) : rs.all P = false := by
  rw [← Bool.not_eq_true]
  intro h'
  have := List.all_eq_true.1 h' _ (rowAt_mem h)
  rw [hp] at this
  cases this
theorem allR_step {P : List Int → Bool} {rs : List (List Int)} {k : Nat} (h : k < rs.length) (ha : (rs.take k).all P = true) (hp : P (rowAt rs k) = true) : (rs.take (k + 1)).all P = true := by
  rw [List.take_succ_eq_append_getElem h, List.all_append, ha, show rs[k] = rowAt rs k by simp [rowAt, h]]
  simp [hp]
theorem smallA_rows {a : AutoD} (h : smallA a = true) : a.next.length ≤ 20 ∧ a.marks.length ≤ 20 ∧ (∀ r ∈ a.next, r.length ≤ 12) ∧ ∀ r ∈ a.marks, r.length ≤ 20 := by
  unfold smallA at h
  simp only [Bool.and_eq_true, decide_eq_true_eq] at h
  refine ⟨h.1.1, h.1.2, fun r hr => ?_, fun r hr => ?_⟩
  · exact of_decide_eq_true (List.all_eq_true.1 h.2.1 r hr)
  · exact of_decide_eq_true (List.all_eq_true.1 h.2.2 r hr)
theorem smallT_few {t : TabD} (h : smallT t = true) (hn : ∀ p ∈ t.classes, p.length ≤ 9223372036854775807) : TabFew t := by
  unfold smallT at h
  simp only [Bool.and_eq_true, decide_eq_true_eq] at h
  obtain ⟨a1, a2, a3, a4⟩ := smallA_rows h.2.1
  obtain ⟨b1, b2, b3, b4⟩ := smallA_rows h.2.2
  exact ⟨hn, by omega, by omega, by omega, by omega, by omega, by omega, fun r hr => Nat.le_trans (a3 r hr) (by decide), fun r hr => Nat.le_trans (a4 r hr) (by decide), fun r hr => Nat.le_trans (b3 r hr) (by decide), fun r hr => Nat.le_trans (b4 r hr) (by decide)⟩

set_option maxHeartbeats 4000000 in
set_option maxRecDepth 100000 in
theorem small (a : AutoD) (A B : Option Addr) (cA cB : Nat) (w : World) (hN : RowsAt w A a.next) (hM : RowsAt w B a.marks) :
    Calls Tryd.prog 26 #[.agg #[.slice A a.next.length cA, .slice B a.marks.length cB]] w fun e w' => e = .returned (.bool (smallA a)) ∧ Below w.heap.size w w' := by
  have HS := Lib.hid (show smallA a = (decide (a.next.length ≤ 20) && decide (a.marks.length ≤ 20) && (a.next.all (leN 12) && a.marks.all (leN 20))) from rfl)
  generalize smallA a = r at HS
  obtain ⟨nx, mk⟩ := a
  dsimp only at hN hM HS ⊢
  have HN := Lib.hid hN
  have HM := Lib.hid hM
  clear hN hM
  by_cases h1 : nx.length ≤ 20
  · have t1 : decide (20 < nx.length) = false := decide_eq_false (by omega)
    have t2 : decide ((20 : Int) < nx.length) = false := decide_eq_false (by omega)
    by_cases h2 : mk.length ≤ 20
    · have t3 : decide (20 < mk.length) = false := decide_eq_false (by omega)
      have t4 : decide ((20 : Int) < mk.length) = false := decide_eq_false (by omega)
      rw [show decide (nx.length ≤ 20) = true from decide_eq_true h1, show decide (mk.length ≤ 20) = true from decide_eq_true h2, Bool.true_and, Bool.true_and] at HS
      go_enter Tryd.func26, Tryd.ntmps26
      go_wp2_with fail
      clear t1 t2 t3 t4
      have hbx := bBox w (.cells #[.slice A nx.length cA, .slice B mk.length cB] 26)
      have k0 : (w.alloc (.cells #[.slice A nx.length cA, .slice B mk.length cB] 26)).cell? ⟨w.heap.size, 0, none⟩ = some (.slice A nx.length cA) := cell_box _ _ _ 0
      have k1 : (w.alloc (.cells #[.slice A nx.length cA, .slice B mk.length cB] 26)).cell? ⟨w.heap.size, 1, none⟩ = some (.slice B mk.length cB) := cell_box _ _ _ 1
      generalize w.alloc (.cells #[.slice A nx.length cA, .slice B mk.length cB] 26) = w1 at hbx k0 k1 ⊢
      have HN1 := Lib.hid (HN.out.keep hbx)
      have HM1 := Lib.hid (HM.out.keep hbx)
      clear HN HM
      go_loop [3] (fun i => ∃ m : Nat, m ≤ nx.length ∧ i = .int .i64 m ∧ Hid ((nx.take m).all (leN 12) = true)) (fun i => nx.length - (intOf i).toNat)
      case atStart => exact ⟨0, Nat.zero_le _, rfl, Lib.hid rfl⟩
      case round =>
        obtain ⟨m, hm, rfl, HG⟩ := hrel
        by_cases hlt : m < nx.length
        · have hmi : (m : Int) < nx.length := by omega
          obtain ⟨b1, o1, C1, c1, rfl, hb1, hc1, _⟩ := HN1.out.at_ hlt
          have HA1 := Lib.hid (fun h => allR_bad (P := leN 12) hlt h)
          have HA2 := Lib.hid (fun h => allR_step (P := leN 12) hlt HG.out h)
          generalize rowAt nx m = row at hc1 HA1 HA2
          by_cases hr : row.length ≤ 12
          · have t1 : decide (12 < row.length) = false := decide_eq_false (by omega)
            have t2 : decide ((12 : Int) < row.length) = false := decide_eq_false (by omega)
            have HE := Lib.hid (HA2.out (decide_eq_true hr))
            go_wp2_with fail
            go_round
            case rel => exact ⟨m + 1, by omega, by go_num, HE⟩
            case measure => simp [intOf]; omega
          · have t1 : decide (12 < row.length) = true := decide_eq_true (by omega)
            have t2 : decide ((12 : Int) < row.length) = true := decide_eq_true (by omega)
            have HE := Lib.hid (HA1.out (decide_eq_false hr))
            rw [HE.out, Bool.false_and] at HS
            obtain rfl : r = false := HS.out
            clear HS HE
            go_wp2_with fail
            go_ret
            exact ⟨rfl, hbx⟩
        · obtain rfl : m = nx.length := by omega
          have hmi : ¬ (nx.length : Int) < nx.length := by omega
          rw [show nx.all (leN 12) = true by have := HG.out; rwa [List.take_length] at this, Bool.true_and] at HS
          clear HG
          go_wp2_with fail
          go_loop [4] (fun i => ∃ m : Nat, m ≤ mk.length ∧ i = .int .i64 m ∧ Hid ((mk.take m).all (leN 20) = true)) (fun i => mk.length - (intOf i).toNat)
          case atStart => exact ⟨0, Nat.zero_le _, rfl, Lib.hid rfl⟩
          case round =>
            obtain ⟨m, hm, rfl, HG⟩ := hrel
            by_cases hlt : m < mk.length
            · have hmi : (m : Int) < mk.length := by omega
              obtain ⟨b1, o1, C1, c1, rfl, hb1, hc1, _⟩ := HM1.out.at_ hlt
              have HA1 := Lib.hid (fun h => allR_bad (P := leN 20) hlt h)
              have HA2 := Lib.hid (fun h => allR_step (P := leN 20) hlt HG.out h)
              generalize rowAt mk m = row at hc1 HA1 HA2
              by_cases hr : row.length ≤ 20
              · have t1 : decide (20 < row.length) = false := decide_eq_false (by omega)
                have t2 : decide ((20 : Int) < row.length) = false := decide_eq_false (by omega)
                have HE := Lib.hid (HA2.out (decide_eq_true hr))
                go_wp2_with fail
                go_round
                case rel => exact ⟨m + 1, by omega, by go_num, HE⟩
                case measure => simp [intOf]; omega
              · have t1 : decide (20 < row.length) = true := decide_eq_true (by omega)
                have t2 : decide ((20 : Int) < row.length) = true := decide_eq_true (by omega)
                have HE := Lib.hid (HA1.out (decide_eq_false hr))
                rw [HE.out] at HS
                obtain rfl : r = false := HS.out
                clear HS HE
                go_wp2_with fail
                go_ret
                exact ⟨rfl, hbx⟩
            · obtain rfl : m = mk.length := by omega
              have hmi : ¬ (mk.length : Int) < mk.length := by omega
              rw [show mk.all (leN 20) = true by have := HG.out; rwa [List.take_length] at this] at HS
              obtain rfl : r = true := HS.out
              clear HG HS
              go_wp2_with fail
              go_ret
              exact ⟨rfl, hbx⟩
    · have t3 : decide (20 < mk.length) = true := decide_eq_true (by omega)
      have t4 : decide ((20 : Int) < mk.length) = true := decide_eq_true (by omega)
      rw [show decide (mk.length ≤ 20) = false from decide_eq_false h2, Bool.and_false, Bool.false_and] at HS
      obtain rfl : r = false := HS.out
      clear HS
      go_enter Tryd.func26, Tryd.ntmps26
      go_wp2_with fail
      go_ret
      exact ⟨rfl, bBox w _⟩
  · have t1 : decide (20 < nx.length) = true := decide_eq_true (by omega)
    have t2 : decide ((20 : Int) < nx.length) = true := decide_eq_true (by omega)
    rw [show decide (nx.length ≤ 20) = false from decide_eq_false h1, Bool.false_and, Bool.false_and] at HS
    obtain rfl : r = false := HS.out
    clear HS
    go_enter Tryd.func26, Tryd.ntmps26
    go_wp2_with fail
    go_ret
    exact ⟨rfl, bBox w _⟩

set_option maxHeartbeats 4000000 in
set_option maxRecDepth 100000 in
theorem smallTab (t : TabD) (v : TabV) (w : World) (hT : TabAt w t v) :
    Calls Tryd.prog 9 #[.agg (tabCells t v)] w fun e w' => e = .returned (.bool (smallT t)) ∧ Below w.heap.size w w' := by
  have HS := Lib.hid (show smallT t = (decide (t.classes.length ≤ 8) && decide (t.actions.length ≤ 12) && (smallA t.left && smallA t.right)) from rfl)
  obtain ⟨a0, a1, a2, a3, a4, a5, c0, c1, c2, c3, c4, c5⟩ := v
  have HL := Lib.hid (fun w' h1 h2 => small t.left a2 a3 c2 c3 w' h1 h2)
  have HR := Lib.hid (fun w' h1 h2 => small t.right a4 a5 c4 c5 w' h1 h2)
  have hk := Lib.hid (Blk.new w (tabCells t ⟨a0, a1, a2, a3, a4, a5, c0, c1, c2, c3, c4, c5⟩) 28)
  have hbx := bBox w (.cells (tabCells t ⟨a0, a1, a2, a3, a4, a5, c0, c1, c2, c3, c4, c5⟩) 28)
  have HK := Lib.hid (tab_cells hk.out)
  clear hk
  have HT := Lib.hid hT
  clear hT
  generalize smallT t = r at HS
  generalize smallA t.left = sl at HS HL
  generalize smallA t.right = sr at HS HR
  unfold tabCells at HK hbx ⊢
  dsimp only at HK hbx ⊢
  by_cases h1 : t.classes.length ≤ 8
  · have t1 : decide (t.classes.length ≤ 8) = true := decide_eq_true h1
    have t2 : decide ((t.classes.length : Int) ≤ 8) = true := decide_eq_true (by omega)
    by_cases h2 : t.actions.length ≤ 12
    · have t3 : decide (t.actions.length ≤ 12) = true := decide_eq_true h2
      have t4 : decide ((t.actions.length : Int) ≤ 12) = true := decide_eq_true (by omega)
      rw [t1, t3, Bool.true_and, Bool.true_and] at HS
      go_enter Tryd.func9, Tryd.ntmps9
      go_wp2_with fail
      generalize w.alloc (.cells #[.slice a0 t.classes.length c0, .slice a1 t.actions.length c1, .slice a2 t.left.next.length c2, .slice a3 t.left.marks.length c3, .slice a4 t.right.next.length c4, .slice a5 t.right.marks.length c5] 28) = w1 at hbx HK ⊢
      refine (HL.out _ (HT.out.keep hbx).ln (HT.out.keep hbx).lm).mono ?_
      rintro e w2 ⟨rfl, hb2⟩
      cases sl with
      | false =>
        obtain rfl : r = false := HS.out
        clear HS
        go_wp2_with fail
        go_ret
        exact ⟨rfl, bUp hbx hb2⟩
      | true =>
        rw [Bool.true_and] at HS
        obtain ⟨k0, k1, k2, k3, k4, k5⟩ := HK.out
        have k4 := cell_keep hb2 k4
        have k5 := cell_keep hb2 k5
        have hbx2 := bUp hbx hb2
        go_wp2_with fail
        refine (HR.out _ (HT.out.keep hbx2).rn (HT.out.keep hbx2).rm).mono ?_
        rintro e w3 ⟨rfl, hb3⟩
        obtain rfl : r = sr := HS.out
        clear HS
        go_wp2_with fail
        go_ret
        exact ⟨rfl, bUp hbx2 hb3⟩
    · have t3 : decide (t.actions.length ≤ 12) = false := decide_eq_false h2
      have t4 : decide ((t.actions.length : Int) ≤ 12) = false := decide_eq_false (by omega)
      rw [t1, t3, Bool.true_and, Bool.false_and] at HS
      obtain rfl : r = false := HS.out
      clear HS
      go_enter Tryd.func9, Tryd.ntmps9
      go_wp2_with fail
      go_ret
      exact ⟨rfl, hbx⟩
  · have t1 : decide (t.classes.length ≤ 8) = false := decide_eq_false h1
    have t2 : decide ((t.classes.length : Int) ≤ 8) = false := decide_eq_false (by omega)
    rw [t1, Bool.false_and, Bool.false_and] at HS
    obtain rfl : r = false := HS.out
    clear HS
    go_enter Tryd.func9, Tryd.ntmps9
    go_wp2_with fail
    go_ret
    exact ⟨rfl, hbx⟩

set_option maxHeartbeats 4000000 in
set_option maxRecDepth 100000 in
theorem few (t : TabD) (v : TabV) (l : List Int) (A : Option Addr) (c : Nat) (w : World) (hT : TabAt w t v) :
    Calls Tryd.prog 13 #[.agg (tabCells t v), .slice A l.length c] w fun e w' => e = .returned (.bool (fewT t l)) ∧ Below w.heap.size w w' := by
  have HS := Lib.hid (show fewT t l = (smallT t && decide (l.length ≤ 40)) from rfl)
  have HV := Lib.hid (fun w' h => smallTab t v w' h)
  have hbx := bBox w (.cells (tabCells t v) 28)
  have HT := Lib.hid hT
  clear hT
  generalize fewT t l = r at HS
  generalize smallT t = s at HS HV
  obtain ⟨a0, a1, a2, a3, a4, a5, c0, c1, c2, c3, c4, c5⟩ := v
  unfold tabCells at HV hbx ⊢
  dsimp only at HV hbx ⊢
  cases s with
  | false =>
    obtain rfl : r = false := HS.out
    clear HS
    go_enter Tryd.func13, Tryd.ntmps13
    go_wp2_with fail
    refine (HV.out _ (HT.out.keep hbx)).mono ?_
    rintro e w2 ⟨rfl, hb2⟩
    go_wp2_with fail
    go_ret
    exact ⟨rfl, bUp hbx hb2⟩
  | true =>
    rw [Bool.true_and] at HS
    by_cases h1 : l.length ≤ 40
    · have t1 : decide (l.length ≤ 40) = true := decide_eq_true h1
      have t2 : decide ((l.length : Int) ≤ 40) = true := decide_eq_true (by omega)
      rw [t1] at HS
      obtain rfl : r = true := HS.out
      clear HS
      go_enter Tryd.func13, Tryd.ntmps13
      go_wp2_with fail
      refine (HV.out _ (HT.out.keep hbx)).mono ?_
      rintro e w2 ⟨rfl, hb2⟩
      go_wp2_with fail
      go_ret
      exact ⟨rfl, bUp hbx hb2⟩
    · have t1 : decide (l.length ≤ 40) = false := decide_eq_false h1
      have t2 : decide ((l.length : Int) ≤ 40) = false := decide_eq_false (by omega)
      rw [t1] at HS
      obtain rfl : r = false := HS.out
      clear HS
      go_enter Tryd.func13, Tryd.ntmps13
      go_wp2_with fail
      refine (HV.out _ (HT.out.keep hbx)).mono ?_
      rintro e w2 ⟨rfl, hb2⟩
      go_wp2_with fail
      go_ret
      exact ⟨rfl, bUp hbx hb2⟩
end Go.Proofs.YtlmdjggpeiddoaaDoor
