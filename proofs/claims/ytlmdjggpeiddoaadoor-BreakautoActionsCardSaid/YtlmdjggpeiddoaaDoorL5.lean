/- BreakautoActions: the walk -/
import Derived.Test.YtlmdjggpeiddoaaDoorL2
namespace Go.Proofs.YtlmdjggpeiddoaaDoor
open Go.RowKit Go.Sort

theorem decT_ok {t : TabD} {l : List Int} {k : Nat} (h : k < (leftT t l).length) : decT t l k = (2, -1) ∨ ∃ m : Nat, m < t.actions.length ∧ decT t l k = (nth t.actions m, (m : Int)) := by
  obtain ⟨_, hv, _, hx, _⟩ := pos_in h
  unfold decT decV
  rw [if_pos ⟨by omega, by omega⟩, Int.toNat_natCast]
  obtain ⟨m1, m2⟩ := sound_marks (valid_left hv)
  have m3 := m2 (nth (leftT t l) k).toNat (by omega)
  generalize rowAt t.left.marks (nth (leftT t l) k).toNat = ra at m3 ⊢
  generalize rowAt t.right.marks (nth (rightT t l) k).toNat = rb
  cases hm : mergeF ra rb with
  | none => exact .inl rfl
  | some i =>
    obtain ⟨h0, h1⟩ := marksOk_ge _ _ m3 i (merge_mem _ ra rb (Nat.le_refl _) i hm)
    obtain ⟨m, rfl⟩ := Int.eq_ofNat_of_zero_le h0
    exact .inr ⟨m, by omega, rfl⟩
theorem nth_acts (t : TabD) (l : List Int) (n : Nat) {k : Nat} (h : k < n) : nth (actsN t l n) k = (decT t l k).1 := by
  unfold actsN nth
  rw [List.getD_eq_getElem?_getD, List.getElem?_map, List.getElem?_range h]
  rfl
theorem leftT_len (t : TabD) (l : List Int) : (leftT t l).length = 0 ∨ (leftT t l).length = l.length + 1 := by
  unfold leftT
  split
  · exact .inr (runA_length _ _ _)
  · exact .inl rfl

set_option maxHeartbeats 16000000 in
set_option maxRecDepth 100000 in
theorem lawBActions (t : TabD) (u : TabV) (l : List Int) (A : Option Addr) (c : Nat) (w : World) (hT : TabAt w t u) (hn : ∀ p ∈ t.classes, p.length ≤ 9223372036854775807) (hA : IntsAt w A l) (hE : EnvB w) :
    Calls Tryd.prog 7 #[.agg (tabCells t u), .slice A l.length c] w fun e w' => e = .returned (.bool true) ∧ Below w.heap.size w w' := by
  have HFw := Lib.hid (fun w' h => few t u l A c w' h)
  have hk := Lib.hid (Blk.new w (tabCells t u) 28)
  have hbx := bBox w (.cells (tabCells t u) 28)
  cases hf : fewT t l with
  | false =>
    rw [hf] at HFw
    obtain ⟨a0, a1, a2, a3, a4, a5, c0, c1, c2, c3, c4, c5⟩ := u
    obtain ⟨k0, k1, k2, k3, k4, k5⟩ := tab_cells hk.out
    unfold tabCells at *
    dsimp only at *
    have HT := Lib.hid hT
    have HE := Lib.hid hE
    clear hT hE
    clear hf hn hk
    go_enter Tryd.func7, Tryd.ntmps7
    go_wp2_with fail
    refine (HFw.out _ (HT.out.keep hbx)).mono ?_
    rintro e w1 ⟨rfl, hb1⟩
    go_wp2_with fail
    refine (alive _ (HE.out.keep (bUp hbx hb1))).mono ?_
    rintro e w2 ⟨rfl, hb2⟩
    go_wp2_with fail
    go_ret
    exact ⟨rfl, bUp (bUp hbx hb1) hb2⟩
  | true =>
    rw [hf] at HFw
    obtain ⟨hs, hl⟩ := fewT_of hf
    have hF := smallT_few hs hn
    have HD := Lib.hid (fun p w' h h2 => decide1 t u l A c p w' h hF h2 (by omega))
    have HL := Lib.hid (fun w' h h2 => actions t u l A c w' h hF h2 (by omega))
    have hxl : (actsT t l).length ≤ 1000 := by unfold actsT; rw [actsN_length]; have := leftT_le t l; omega
    have HX := Lib.hid (show (actsT t l).length = 0 ∨ (actsT t l).length = l.length + 1 by unfold actsT; rw [actsN_length]; exact leftT_len t l)
    have HG := Lib.hid (show ∀ k : Nat, k < (actsT t l).length → nth (actsT t l) k = (decT t l k).1 ∧ (decT t l k = (2, -1) ∨ ∃ m : Nat, m < t.actions.length ∧ decT t l k = (nth t.actions m, (m : Int))) from fun k hk => by
      have hk' : k < (leftT t l).length := by unfold actsT at hk; rwa [actsN_length] at hk
      exact ⟨nth_acts t l _ hk', decT_ok hk'⟩)
    have HO1 := Lib.hid (decT_out (t := t) (l := l) (p := (l.length : Int) + 1) (.inr (.inr (by omega))))
    have HO2 := Lib.hid (decT_out (t := t) (l := l) (p := -1) (.inr (.inl (by omega))))
    have hna : t.actions.length ≤ 1000000 := hF.na
    generalize actsT t l = xs at HL hxl HX HG
    obtain ⟨a0, a1, a2, a3, a4, a5, c0, c1, c2, c3, c4, c5⟩ := u
    obtain ⟨k0, k1, k2, k3, k4, k5⟩ := tab_cells hk.out
    unfold tabCells at *
    dsimp only at *
    have HT := Lib.hid hT
    have HE := Lib.hid hE
    have HA := Lib.hid hA
    clear hT hE hA
    clear hf hn hk hs hF
    go_enter Tryd.func7, Tryd.ntmps7
    go_wp2_with fail
    refine (HFw.out _ (HT.out.keep hbx)).mono ?_
    rintro e w1 ⟨rfl, hb1⟩
    clear HFw
    replace k0 := cell_keep hb1 k0
    replace k1 := cell_keep hb1 k1
    replace k2 := cell_keep hb1 k2
    replace k3 := cell_keep hb1 k3
    replace k4 := cell_keep hb1 k4
    replace k5 := cell_keep hb1 k5
    replace hbx := bUp hbx hb1
    clear hb1
    go_wp2_with fail
    refine (HL.out _ (HT.out.keep hbx) (HA.out.keep hbx)).mono ?_
    rintro e w2 ⟨AL, cL, rfl, IL, -, hb1⟩
    clear HL
    replace k0 := cell_keep hb1 k0
    replace k1 := cell_keep hb1 k1
    replace k2 := cell_keep hb1 k2
    replace k3 := cell_keep hb1 k3
    replace k4 := cell_keep hb1 k4
    replace k5 := cell_keep hb1 k5
    have hbx1 := bUp hbx hb1
    have HT1 := Lib.hid (HT.out.keep hbx1)
    have HA1 := Lib.hid (HA.out.keep hbx1)
    clear HT HA hb1 hbx
    have q0 := Lib.hid k0
    have q1 := Lib.hid k1
    have q2 := Lib.hid k2
    have q3 := Lib.hid k3
    have q4 := Lib.hid k4
    have q5 := Lib.hid k5
    clear k0 k1 k2 k3 k4 k5
    go_wp2_with fail
    go_loopw [6] (fun i wr => ∃ k : Nat, k ≤ xs.length ∧ i = .int .i64 k ∧ Below w2.heap.size w2 wr) (fun i _ => xs.length - (intOf i).toNat)
    case atStart => exact ⟨0, Nat.zero_le _, rfl, Below.refl _ _⟩
    case round =>
      obtain ⟨k, hk, rfl, hbr⟩ := hrel
      have k0 := cell_keep hbr q0.out
      have k1 := cell_keep hbr q1.out
      have k2 := cell_keep hbr q2.out
      have k3 := cell_keep hbr q3.out
      have k4 := cell_keep hbr q4.out
      have k5 := cell_keep hbr q5.out
      by_cases hlt : k < xs.length
      · have hki : (k : Int) < xs.length := by omega
        obtain ⟨ba, oa, rfl, hba, hca⟩ := (IL.out.keep hbr).at_ hlt
        obtain ⟨hx, hy⟩ := HG.out k hlt
        have HDk := Lib.hid (HD.out k wr (HT1.out.keep hbr) (HA1.out.keep hbr))
        rw [hx] at hca
        clear hx
        generalize decT t l k = res at HDk hca hy
        go_wp2_with fail
        refine HDk.out.mono ?_
        rintro e w3 ⟨rfl, hb3⟩
        replace hca := cell_keep hb3 hca
        replace k1 := cell_keep hb3 k1
        clear k0 k2 k3 k4 k5 HDk
        rcases hy with rfl | ⟨m, hm, rfl⟩
        · have n1 : decide ((t.actions.length : Int) ≤ -1) = false := decide_eq_false (by omega)
          dsimp only at hca ⊢
          go_wp2_with fail
          go_roundw
          case rel => exact ⟨k + 1, by omega, by go_num, bUp hbr hb3⟩
          case measure => simp [intOf]; omega
        · have n1 : decide ((t.actions.length : Int) ≤ (m : Int)) = false := decide_eq_false (by omega)
          have n2 : decide ((m : Int) < -1) = false := decide_eq_false (by omega)
          have n3 : decide (0 ≤ (m : Int)) = true := decide_eq_true (by omega)
          have n4 : decide ((m : Int) < 0) = false := decide_eq_false (by omega)
          have hmi : (m : Int) < t.actions.length := by omega
          obtain ⟨bc, oc, rfl, hbc, hcc⟩ := (HT1.out.actions.keep (bUp hbr hb3)).at_ hm
          dsimp only at hca ⊢
          generalize nth t.actions m = x at hca hcc ⊢
          go_wp2_with fail
          go_roundw
          case rel => exact ⟨k + 1, by omega, by go_num, bUp hbr hb3⟩
          case measure => simp [intOf]; omega
      · obtain rfl : k = xs.length := by omega
        have hki : ¬ (xs.length : Int) < xs.length := by omega
        have HD1 := Lib.hid (HD.out ((l.length : Int) + 1) wr (HT1.out.keep hbr) (HA1.out.keep hbr))
        rw [HO1.out] at HD1
        go_wp2_with fail
        refine HD1.out.mono ?_
        rintro e w3 ⟨rfl, hb3⟩
        clear HD1
        replace k0 := cell_keep hb3 k0
        replace k1 := cell_keep hb3 k1
        replace k2 := cell_keep hb3 k2
        replace k3 := cell_keep hb3 k3
        replace k4 := cell_keep hb3 k4
        replace k5 := cell_keep hb3 k5
        replace hbr := bUp hbr hb3
        clear hb3
        have HD1 := Lib.hid (HD.out (-1) w3 (HT1.out.keep hbr) (HA1.out.keep hbr))
        rw [HO2.out] at HD1
        go_wp2_with fail
        refine HD1.out.mono ?_
        rintro e w4 ⟨rfl, hb3⟩
        clear HD1 k0 k1 k2 k3 k4 k5
        replace hbr := bUp hbr hb3
        clear hb3
        rcases HX.out with h0 | h0
        · have e1 : ((xs.length : Int) == 0) = true := by rw [h0]; rfl
          clear h0 hki
          go_wp2_with fail
          refine (alive _ (HE.out.keep (bUp hbx1 hbr))).mono ?_
          rintro e w5 ⟨rfl, hb5⟩
          go_wp2_with fail
          go_ret
          exact ⟨rfl, bUp (bUp hbx1 hbr) hb5⟩
        · have e1 : ((xs.length : Int) == 0) = false := by rw [beq_eq_false_iff_ne]; omega
          have e2 : ((xs.length : Int) == (l.length : Int) + 1) = true := by rw [beq_iff_eq]; omega
          clear h0 hki
          go_wp2_with fail
          refine (alive _ (HE.out.keep (bUp hbx1 hbr))).mono ?_
          rintro e w5 ⟨rfl, hb5⟩
          go_wp2_with fail
          go_ret
          exact ⟨rfl, bUp (bUp hbx1 hbr) hb5⟩
end Go.Proofs.YtlmdjggpeiddoaaDoor
