/- usable of the reference (written by wip/genBa11.py) Right of the program and of the reference (written by wip/genBa11.py) Left of the reference -/
import Derived.Test.YtlmdjggpeiddoaaDoorD4
namespace Go.Proofs.YtlmdjggpeiddoaaDoor
open Go.RowKit Go.Sort

set_option maxHeartbeats 4000000 in
set_option maxRecDepth 100000 in
theorem rfUsable (t : TabD) (v : TabV) (l : List Int) (A : Option Addr) (c : Nat) (w : World) (hT : TabAt w t v) (hF : TabFew t) (hA : IntsAt w A l) (hl : l.length ≤ 1000000) :
    Calls Tryd.prog 34 #[.agg (tabCells t v), .slice A l.length c] w fun e w' => e = .returned (.bool (usableB t l)) ∧ Below w.heap.size w w' := by
  have HU := Lib.hid (show usableB t l = (l.all (inSt t.classes.length) && validB t) from rfl)
  have HV := Lib.hid (fun w' h => rfValid t v w' h hF)
  have hk := Lib.hid (Blk.new w (tabCells t v) 28)
  have hbx := bBox w (.cells (tabCells t v) 28)
  obtain ⟨a0, a1, a2, a3, a4, a5, c0, c1, c2, c3, c4, c5⟩ := v
  generalize usableB t l = r at HU
  generalize validB t = vb at HU HV
  have HT := Lib.hid hT
  have HA := Lib.hid hA
  clear hT hA
  clear hF
  unfold tabCells at HV
  have HK := Lib.hid (tab_cells hk.out)
  clear hk
  unfold tabCells at HK hbx ⊢
  dsimp only at HV HK hbx ⊢
  go_enter Tryd.func34, Tryd.ntmps34
  go_wp2_with fail
  generalize w.alloc (.cells #[.slice a0 t.classes.length c0, .slice a1 t.actions.length c1, .slice a2 t.left.next.length c2, .slice a3 t.left.marks.length c3, .slice a4 t.right.next.length c4, .slice a5 t.right.marks.length c5] 28) = w1 at hbx HK ⊢
  go_loopw [5] (fun i wr => ∃ m : Nat, m ≤ l.length ∧ i = .int .i64 m ∧ Hid ((l.take m).all (inSt t.classes.length) = true) ∧ Below w1.heap.size w1 wr) (fun i _ => l.length - (intOf i).toNat)
  case atStart => exact ⟨0, Nat.zero_le _, rfl, Lib.hid rfl, Below.refl _ _⟩
  case round =>
    obtain ⟨m, hm, rfl, HG, hbr⟩ := hrel
    by_cases hlt : m < l.length
    · have hmi : (m : Int) < l.length := by omega
      obtain ⟨b, off, rfl, hb, hc⟩ := (HA.out.keep (bUp hbx hbr)).at_ hlt
      have HA1 := Lib.hid (fun h => all_bad (P := inSt t.classes.length) hlt h)
      have HA2 := Lib.hid (fun h => all_step (P := inSt t.classes.length) hlt HG.out h)
      generalize nth l m = x at hc HA1 HA2
      have r0 := cell_regrown hc
      have r1 := cell_regrown (cell_keep hbr HK.out.1)
      by_cases hx0 : 0 ≤ x
      · have t1 : decide (x < 0) = false := decide_eq_false (by omega)
        by_cases hx1 : x < t.classes.length
        · have t2 : decide ((t.classes.length : Int) ≤ x) = false := decide_eq_false (by omega)
          have HE := Lib.hid (HA2.out (by unfold inSt; rw [show decide (0 ≤ x) = true from decide_eq_true hx0, show decide (x < (t.classes.length : Int)) = true from decide_eq_true hx1]; rfl))
          clear hx0 hx1
          go_wp2_with fail
          refine wp_region_quiet_below (by kernel_rfl) (by kernel_rfl) ?_
          repeat (go_big_quiet_step (fail))
          refine wpQuiet_nil ?_
          rintro _ ⟨⟨dq, osq⟩, rfl⟩
          have hb2 := below_regrown wr dq osq
          generalize grow (redrawn wr dq) osq = w2 at hb2 ⊢
          go_wp2_with fail
          go_roundw
          case rel => exact ⟨m + 1, by omega, by go_num, HE, bUp hbr hb2⟩
          case measure => simp [intOf]; omega
        · have t2 : decide ((t.classes.length : Int) ≤ x) = true := decide_eq_true (by omega)
          have HE := Lib.hid (HA1.out (by unfold inSt; rw [show decide (x < (t.classes.length : Int)) = false from decide_eq_false hx1, Bool.and_false]))
          have HF : Hid (r = false) := Lib.hid (by rw [HU.out, HE.out, Bool.false_and])
          obtain rfl : r = false := HF.out
          clear hx0 hx1 HF
          go_wp2_with fail
          refine wp_region_quiet_below (by kernel_rfl) (by kernel_rfl) ?_
          repeat (go_big_quiet_step (fail))
          refine wpQuiet_nil ?_
          rintro _ ⟨⟨dq, osq⟩, rfl⟩
          have hb2 := below_regrown wr dq osq
          generalize grow (redrawn wr dq) osq = w2 at hb2 ⊢
          go_wp2_with fail
          go_ret
          exact ⟨rfl, bUp hbx (bUp hbr hb2)⟩
      · have t1 : decide (x < 0) = true := decide_eq_true (by omega)
        have HE := Lib.hid (HA1.out (by unfold inSt; rw [show decide (0 ≤ x) = false from decide_eq_false hx0, Bool.false_and]))
        have HF : Hid (r = false) := Lib.hid (by rw [HU.out, HE.out, Bool.false_and])
        obtain rfl : r = false := HF.out
        clear hx0 HF
        go_wp2_with fail
        refine wp_region_quiet_below (by kernel_rfl) (by kernel_rfl) ?_
        repeat (go_big_quiet_step (fail))
        refine wpQuiet_nil ?_
        rintro _ ⟨⟨dq, osq⟩, rfl⟩
        have hb2 := below_regrown wr dq osq
        generalize grow (redrawn wr dq) osq = w2 at hb2 ⊢
        go_wp2_with fail
        go_ret
        exact ⟨rfl, bUp hbx (bUp hbr hb2)⟩
    · obtain rfl : m = l.length := by omega
      have hmi : ¬ (l.length : Int) < l.length := by omega
      rw [show l.all (inSt t.classes.length) = true by have := HG.out; rwa [List.take_length] at this, Bool.true_and] at HU
      clear HG
      obtain rfl : r = vb := HU.out
      clear HU
      obtain ⟨k0, k1, k2, k3, k4, k5⟩ := HK.out
      have k0 := cell_keep hbr k0
      have k1 := cell_keep hbr k1
      have k2 := cell_keep hbr k2
      have k3 := cell_keep hbr k3
      have k4 := cell_keep hbr k4
      have k5 := cell_keep hbr k5
      go_wp2_with fail
      refine (HV.out _ (HT.out.keep (bUp hbx hbr))).mono ?_
      rintro e w2 ⟨rfl, hb2⟩
      go_wp2_with fail
      go_ret
      exact ⟨rfl, bUp hbx (bUp hbr hb2)⟩

end Go.Proofs.YtlmdjggpeiddoaaDoor
namespace Go.Proofs.YtlmdjggpeiddoaaDoor
open Go.RowKit Go.Sort

set_option maxHeartbeats 8000000 in
set_option maxRecDepth 100000 in
theorem right (t : TabD) (v : TabV) (l : List Int) (A : Option Addr) (c : Nat) (w : World) (hT : TabAt w t v) (hF : TabFew t) (hA : IntsAt w A l) (hl : l.length ≤ 1000000) :
    Calls Tryd.prog 17 #[.agg (tabCells t v), .slice A l.length c] w (SlInts (rightT t l) w) := by
  have HV := Lib.hid (fun w' h h2 => fits t v l A c w' h hF h2 hl)
  have hk := Lib.hid (Blk.new w (tabCells t v) 28)
  have hbx := bBox w (.cells (tabCells t v) 28)
  obtain ⟨a0, a1, a2, a3, a4, a5, c0, c1, c2, c3, c4, c5⟩ := v
  have HT := Lib.hid hT
  have HA := Lib.hid hA
  clear hT hA
  clear hF
  unfold rightT
  cases hu : usableB t l with
  | false =>
    rw [hu] at HV
    rw [if_neg (by simp)]
    clear hu
    unfold tabCells at HV hk hbx ⊢
    dsimp only at HV hk hbx ⊢
    go_enter Tryd.func17, Tryd.ntmps17
    go_wp2_with fail
    refine (HV.out _ (HT.out.keep hbx) (HA.out.keep hbx)).mono ?_
    rintro e w2 ⟨rfl, hb2⟩
    go_wp2_with fail
    go_ret
    exact slints_nil (bUp hbx hb2)
  | true =>
    rw [hu] at HV
    rw [if_pos rfl]
    have HS := Lib.hid (usable_steps hu)
    clear hu
    have hmk := makeI (l.length + 1) (by omega)
    rw [show ((l.length + 1 : Nat) : Int) = (l.length : Int) + 1 by omega] at hmk
    unfold tabCells at HV hbx ⊢
    dsimp only at HV hbx ⊢
    go_enter Tryd.func17, Tryd.ntmps17
    go_wp2_with fail
    refine (HV.out _ (HT.out.keep hbx) (HA.out.keep hbx)).mono ?_
    rintro e w2 ⟨rfl, hb2⟩
    have hk2 := Lib.hid (Blk.keep hk.out hb2)
    have hb2 := bUp hbx hb2
    clear hk hbx HV
    have HT2 := Lib.hid (HT.out.keep hb2)
    have HA2 := Lib.hid (HA.out.keep hb2)
    clear HT HA
    go_wp2_with fail
    have hAr : Arr (w2.alloc (.cells (intVals (List.replicate (l.length + 1) 0)).toArray 3)) w2.heap.size (List.replicate (l.length + 1) 0) := Blk.new _ _ _
    have hbA := bBox w2 (.cells (intVals (List.replicate (l.length + 1) 0)).toArray 3)
    have hAr := Lib.hid hAr
    generalize w2.alloc (.cells (intVals (List.replicate (l.length + 1) 0)).toArray 3) = w3 at hAr hbA ⊢
    clear hmk
    go_loopw [6] (fun i wr => ∃ (k : Nat) (os : List Int), k ≤ l.length ∧ i = .int .i64 ((k : Int) - 1) ∧ Hid (os.length = l.length + 1) ∧ Hid (os.drop k = runB t.right.next (l.drop k)) ∧ Hid (0 ≤ nth os k ∧ nth os k < t.right.next.length) ∧ Hid (Arr wr w2.heap.size os) ∧ Below w2.heap.size w2 wr) (fun i _ => (intOf i + 1).toNat)
    case atStart =>
      refine ⟨l.length, List.replicate (l.length + 1) 0, Nat.le_refl _, rfl, Lib.hid (by simp), Lib.hid ?_, Lib.hid ?_, hAr, hbA⟩
      · rw [List.drop_length, runB]
        simp
      · have h0 : nth (List.replicate (l.length + 1) 0) l.length = 0 := by simp [nth]
        rw [h0]
        have := HS.out.2.1.1
        omega
    case round =>
      obtain ⟨k, os, hm, rfl, HL, HR, HB, HAr, hbr⟩ := hrel
      cases k with
      | succ m =>
        have hlt : m < l.length := by omega
        rw [show (((m + 1 : Nat) : Int) - 1) = (m : Int) by omega]
        have hmi : (m : Int) < l.length := by omega
        have hmo : m < os.length := by rw [HL.out]; omega
        have hmo1 : m + 1 < os.length := by rw [HL.out]; omega
        obtain ⟨bl, ol, rfl, hbl, hcl⟩ := (HA2.out.keep hbr).at_ hlt
        have co := HAr.out.get hmo1
        have co1 := HAr.out.get hmo
        have hs0 := HB.out.1
        have hs1 := HB.out.2
        have hc0 := (HS.out.2.2 m hlt).1
        have hc1 := (HS.out.2.2 m hlt).2
        have HX := Lib.hid (fun x => HAr.out.set m x)
        have HN := Lib.hid (fun x => drop_set x hmo)
        have HO := Lib.hid (fun x : Int => nth_set_same (x := x) hmo)
        have HQ := Lib.hid (show runB t.right.next (l.drop m) = nth (rowAt t.right.next (nth os (m + 1)).toNat) (nth l m).toNat :: os.drop (m + 1) by
          rw [drop_nth hlt, runB, ← HR.out, nth_drop])
        generalize nth os (m + 1) = s at co hs0 hs1 HQ
        generalize nth l m = d at hcl hc0 hc1 HQ
        obtain ⟨sn, rfl⟩ := Int.eq_ofNat_of_zero_le hs0
        obtain ⟨dn, rfl⟩ := Int.eq_ofNat_of_zero_le hc0
        have hsn : sn < t.right.next.length := by omega
        have hdn : dn < t.classes.length := by omega
        rw [Int.toNat_natCast, Int.toNat_natCast] at HQ
        obtain ⟨hrl, hst⟩ := HS.out.2.1.2 sn hsn
        have HZ := Lib.hid (hst dn hdn)
        clear hst
        obtain ⟨bR, oR, B, cB, rfl, hbR, hcR, hI⟩ := (HT2.out.keep hbr).rn.at_ hsn
        have hdr : (dn : Int) < (rowAt t.right.next sn).length := by omega
        obtain ⟨bE, oE, rfl, hbE, hcE⟩ := hI.at_ (k := dn) (by omega)
        clear hI hrl
        generalize nth (rowAt t.right.next sn) dn = x at hcE HZ HQ
        generalize (rowAt t.right.next sn).length = rl at hcR hdr
        obtain ⟨_, _, _, _, q4, _⟩ := tab_cells (hk2.out.keepB hbr hk2.out.lt)
        have hw : IntKind.i64.wrap ((m : Int) + 1) = (m : Int) + 1 := IntWalk.i64_in _ (by omega)
        have hw2 : ((m : Int) + 1).toNat = m + 1 := by omega
        have hw3 : 0 ≤ (m : Int) + 1 := by omega
        have hw4 : (m : Int) + 1 < (l.length : Int) + 1 := by omega
        have hw5 : (m : Int) < (l.length : Int) + 1 := by omega
        have hf : wr.frozen? ⟨w2.heap.size, m, none⟩ = false := HAr.out.frozen _
        go_wp2_with fail
        go_region
        go_wp2_with fail
        go_roundw
        case rel => exact ⟨m, os.set m x, by omega, rfl, Lib.hid (by rw [List.length_set]; exact HL.out), Lib.hid ((HN.out x).trans HQ.out.symm), Lib.hid (by rw [HO.out]; exact HZ.out), Lib.hid (HX.out x), (hbr.setCell (p := ⟨w2.heap.size, m, none⟩) (Nat.le_refl _) _).drew⟩
        case measure => simp [intOf]
      | zero =>
        have HE : Hid (os = runB t.right.next l) := HR
        have hlen := Lib.hid (runB_length t.right.next l)
        go_wp2_with fail
        go_ret
        refine ⟨some ⟨w2.heap.size, 0, none⟩, l.length + 1, by rw [hlen.out]; rfl, Lib.hid ?_, Lib.hid (fun h => by cases h), bUp hb2 hbr⟩
        rw [← HE.out]
        exact HAr.out.ints

set_option maxHeartbeats 8000000 in
set_option maxRecDepth 100000 in
theorem rfRight (t : TabD) (v : TabV) (l : List Int) (A : Option Addr) (c : Nat) (w : World) (hT : TabAt w t v) (hF : TabFew t) (hA : IntsAt w A l) (hl : l.length ≤ 1000000) :
    Calls Tryd.prog 18 #[.agg (tabCells t v), .slice A l.length c] w (SlInts (rightT t l) w) := by
  have HV := Lib.hid (fun w' h h2 => rfUsable t v l A c w' h hF h2 hl)
  have hk := Lib.hid (Blk.new w (tabCells t v) 28)
  have hbx := bBox w (.cells (tabCells t v) 28)
  obtain ⟨a0, a1, a2, a3, a4, a5, c0, c1, c2, c3, c4, c5⟩ := v
  have HT := Lib.hid hT
  have HA := Lib.hid hA
  clear hT hA
  clear hF
  unfold rightT
  cases hu : usableB t l with
  | false =>
    rw [hu] at HV
    rw [if_neg (by simp)]
    clear hu
    unfold tabCells at HV hk hbx ⊢
    dsimp only at HV hk hbx ⊢
    go_enter Tryd.func18, Tryd.ntmps18
    go_wp2_with fail
    refine (HV.out _ (HT.out.keep hbx) (HA.out.keep hbx)).mono ?_
    rintro e w2 ⟨rfl, hb2⟩
    go_wp2_with fail
    go_ret
    exact slints_nil (bUp hbx hb2)
  | true =>
    rw [hu] at HV
    rw [if_pos rfl]
    have HS := Lib.hid (usable_steps hu)
    clear hu
    have hmk := makeI (l.length + 1) (by omega)
    rw [show ((l.length + 1 : Nat) : Int) = (l.length : Int) + 1 by omega] at hmk
    unfold tabCells at HV hbx ⊢
    dsimp only at HV hbx ⊢
    go_enter Tryd.func18, Tryd.ntmps18
    go_wp2_with fail
    refine (HV.out _ (HT.out.keep hbx) (HA.out.keep hbx)).mono ?_
    rintro e w2 ⟨rfl, hb2⟩
    have hk2 := Lib.hid (Blk.keep hk.out hb2)
    have hb2 := bUp hbx hb2
    clear hk hbx HV
    have HT2 := Lib.hid (HT.out.keep hb2)
    have HA2 := Lib.hid (HA.out.keep hb2)
    clear HT HA
    go_wp2_with fail
    have hAr : Arr (w2.alloc (.cells (intVals (List.replicate (l.length + 1) 0)).toArray 3)) w2.heap.size (List.replicate (l.length + 1) 0) := Blk.new _ _ _
    have hbA := bBox w2 (.cells (intVals (List.replicate (l.length + 1) 0)).toArray 3)
    have hAr := Lib.hid hAr
    generalize w2.alloc (.cells (intVals (List.replicate (l.length + 1) 0)).toArray 3) = w3 at hAr hbA ⊢
    clear hmk
    go_loopw [6] (fun i wr => ∃ (k : Nat) (os : List Int), k ≤ l.length ∧ i = .int .i64 ((k : Int) - 1) ∧ Hid (os.length = l.length + 1) ∧ Hid (os.drop k = runB t.right.next (l.drop k)) ∧ Hid (0 ≤ nth os k ∧ nth os k < t.right.next.length) ∧ Hid (Arr wr w2.heap.size os) ∧ Below w2.heap.size w2 wr) (fun i _ => (intOf i + 1).toNat)
    case atStart =>
      refine ⟨l.length, List.replicate (l.length + 1) 0, Nat.le_refl _, rfl, Lib.hid (by simp), Lib.hid ?_, Lib.hid ?_, hAr, hbA⟩
      · rw [List.drop_length, runB]
        simp
      · have h0 : nth (List.replicate (l.length + 1) 0) l.length = 0 := by simp [nth]
        rw [h0]
        have := HS.out.2.1.1
        omega
    case round =>
      obtain ⟨k, os, hm, rfl, HL, HR, HB, HAr, hbr⟩ := hrel
      cases k with
      | succ m =>
        have hlt : m < l.length := by omega
        rw [show (((m + 1 : Nat) : Int) - 1) = (m : Int) by omega]
        have hmi : (m : Int) < l.length := by omega
        have hmo : m < os.length := by rw [HL.out]; omega
        have hmo1 : m + 1 < os.length := by rw [HL.out]; omega
        obtain ⟨bl, ol, rfl, hbl, hcl⟩ := (HA2.out.keep hbr).at_ hlt
        have co := HAr.out.get hmo1
        have co1 := HAr.out.get hmo
        have hs0 := HB.out.1
        have hs1 := HB.out.2
        have hc0 := (HS.out.2.2 m hlt).1
        have hc1 := (HS.out.2.2 m hlt).2
        have HX := Lib.hid (fun x => HAr.out.set m x)
        have HN := Lib.hid (fun x => drop_set x hmo)
        have HO := Lib.hid (fun x : Int => nth_set_same (x := x) hmo)
        have HQ := Lib.hid (show runB t.right.next (l.drop m) = nth (rowAt t.right.next (nth os (m + 1)).toNat) (nth l m).toNat :: os.drop (m + 1) by
          rw [drop_nth hlt, runB, ← HR.out, nth_drop])
        generalize nth os (m + 1) = s at co hs0 hs1 HQ
        generalize nth l m = d at hcl hc0 hc1 HQ
        obtain ⟨sn, rfl⟩ := Int.eq_ofNat_of_zero_le hs0
        obtain ⟨dn, rfl⟩ := Int.eq_ofNat_of_zero_le hc0
        have hsn : sn < t.right.next.length := by omega
        have hdn : dn < t.classes.length := by omega
        rw [Int.toNat_natCast, Int.toNat_natCast] at HQ
        obtain ⟨hrl, hst⟩ := HS.out.2.1.2 sn hsn
        have HZ := Lib.hid (hst dn hdn)
        clear hst
        obtain ⟨bR, oR, B, cB, rfl, hbR, hcR, hI⟩ := (HT2.out.keep hbr).rn.at_ hsn
        have hdr : (dn : Int) < (rowAt t.right.next sn).length := by omega
        obtain ⟨bE, oE, rfl, hbE, hcE⟩ := hI.at_ (k := dn) (by omega)
        clear hI hrl
        generalize nth (rowAt t.right.next sn) dn = x at hcE HZ HQ
        generalize (rowAt t.right.next sn).length = rl at hcR hdr
        obtain ⟨_, _, _, _, q4, _⟩ := tab_cells (hk2.out.keepB hbr hk2.out.lt)
        have hw : IntKind.i64.wrap ((m : Int) + 1) = (m : Int) + 1 := IntWalk.i64_in _ (by omega)
        have hw2 : ((m : Int) + 1).toNat = m + 1 := by omega
        have hw3 : 0 ≤ (m : Int) + 1 := by omega
        have hw4 : (m : Int) + 1 < (l.length : Int) + 1 := by omega
        have hw5 : (m : Int) < (l.length : Int) + 1 := by omega
        have hf : wr.frozen? ⟨w2.heap.size, m, none⟩ = false := HAr.out.frozen _
        go_wp2_with fail
        go_region
        go_wp2_with fail
        go_roundw
        case rel => exact ⟨m, os.set m x, by omega, rfl, Lib.hid (by rw [List.length_set]; exact HL.out), Lib.hid ((HN.out x).trans HQ.out.symm), Lib.hid (by rw [HO.out]; exact HZ.out), Lib.hid (HX.out x), (hbr.setCell (p := ⟨w2.heap.size, m, none⟩) (Nat.le_refl _) _).drew⟩
        case measure => simp [intOf]
      | zero =>
        have HE : Hid (os = runB t.right.next l) := HR
        have hlen := Lib.hid (runB_length t.right.next l)
        go_wp2_with fail
        go_ret
        refine ⟨some ⟨w2.heap.size, 0, none⟩, l.length + 1, by rw [hlen.out]; rfl, Lib.hid ?_, Lib.hid (fun h => by cases h), bUp hb2 hbr⟩
        rw [← HE.out]
        exact HAr.out.ints
end Go.Proofs.YtlmdjggpeiddoaaDoor
namespace Go.Proofs.YtlmdjggpeiddoaaDoor
open Go.RowKit Go.Sort

theorem OwnI.lit (w : World) (base : Nat) (zs : List Int) (hb : base ≤ w.heap.size) (hm : zs.length ≤ maxLen) : OwnI (w.alloc (.cells (intVals zs).toArray 3)) base (.slice (some ⟨w.heap.size, 0, none⟩) zs.length zs.length) zs :=
  ⟨by simp [intVals], .inr ⟨w.heap.size, zs.length, (intVals zs).toArray, rfl, hb, heap_alloc_new w _, Nat.le_refl _, hm, by simp [intVals], by rw [List.take_of_length_le] <;> simp [intVals]⟩⟩

set_option maxHeartbeats 8000000 in
set_option maxRecDepth 100000 in
theorem rfLeft (t : TabD) (v : TabV) (l : List Int) (A : Option Addr) (c : Nat) (w : World) (hT : TabAt w t v) (hF : TabFew t) (hA : IntsAt w A l) (hl : l.length ≤ 1000) :
    Calls Tryd.prog 16 #[.agg (tabCells t v), .slice A l.length c] w (SlInts (leftT t l) w) := by
  have HV := Lib.hid (fun w' h h2 => rfUsable t v l A c w' h hF h2 (by omega))
  have hk := Lib.hid (Blk.new w (tabCells t v) 28)
  have hbx := bBox w (.cells (tabCells t v) 28)
  obtain ⟨a0, a1, a2, a3, a4, a5, c0, c1, c2, c3, c4, c5⟩ := v
  have HT := Lib.hid hT
  have HA := Lib.hid hA
  clear hT hA
  clear hF
  unfold leftT
  cases hu : usableB t l with
  | false =>
    rw [hu] at HV
    rw [if_neg (by simp)]
    clear hu
    unfold tabCells at HV hk hbx ⊢
    dsimp only at HV hk hbx ⊢
    go_enter Tryd.func16, Tryd.ntmps16
    go_wp2_with fail
    refine (HV.out _ (HT.out.keep hbx) (HA.out.keep hbx)).mono ?_
    rintro e w2 ⟨rfl, hb2⟩
    go_wp2_with fail
    go_ret
    exact slints_nil (bUp hbx hb2)
  | true =>
    rw [hu] at HV
    rw [if_pos rfl]
    have HS := Lib.hid (usable_steps hu)
    clear hu
    unfold tabCells at HV hbx ⊢
    dsimp only at HV hbx ⊢
    go_enter Tryd.func16, Tryd.ntmps16
    go_wp2_with fail
    refine (HV.out _ (HT.out.keep hbx) (HA.out.keep hbx)).mono ?_
    rintro e w2 ⟨rfl, hb2⟩
    have hk2 := Lib.hid (Blk.keep hk.out hb2)
    have hb2 := bUp hbx hb2
    clear hk hbx HV
    have HT2 := Lib.hid (HT.out.keep hb2)
    have HA2 := Lib.hid (HA.out.keep hb2)
    clear HT HA
    go_wp2_with fail
    have hO := Lib.hid (OwnI.lit w2 w2.heap.size [0] (Nat.le_refl _) (by decide))
    have hbA := bBox w2 (.cells (intVals [0]).toArray 3)
    go_loopw [6, 5] (fun i o wr => ∃ (m : Nat) (os : List Int), m ≤ l.length ∧ i = .int .i64 m ∧ Hid (OwnI wr w2.heap.size o os) ∧ Hid (os.length = m + 1) ∧ Hid (os = runA t.left.next 0 (l.take m)) ∧ Hid (0 ≤ nth os m ∧ nth os m < t.left.next.length) ∧ Below w2.heap.size w2 wr) (fun i _ _ => l.length - (intOf i).toNat)
    case atStart =>
      refine ⟨0, [0], Nat.zero_le _, rfl, hO, Lib.hid rfl, Lib.hid rfl, Lib.hid ?_, hbA⟩
      have := HS.out.1.1
      exact ⟨Int.le_refl _, by show (0 : Int) < _; omega⟩
    case round =>
      obtain ⟨m, os, hm, rfl, HO, HL, HR, HB, hbr⟩ := hrel
      obtain ⟨A', c', rfl⟩ := HO.out.form
      by_cases hlt : m < l.length
      · have hmi : (m : Int) < l.length := by omega
        have hmo : m < os.length := by rw [HL.out]; omega
        have hmoi : (m : Int) < os.length := by omega
        have hlo : os.length + 1 ≤ 1000000 := by rw [HL.out]; omega
        obtain ⟨bl, ol, rfl, hbl, hcl⟩ := (HA2.out.keep hbr).at_ hlt
        obtain ⟨bo, oo, rfl, hbo, co⟩ := HO.out.ints.at_ hmo
        have hs0 := HB.out.1
        have hs1 := HB.out.2
        have hc0 := (HS.out.2.2 m hlt).1
        have hc1 := (HS.out.2.2 m hlt).2
        have HQ := Lib.hid (show runA t.left.next 0 (l.take (m + 1)) = os ++ [nth (rowAt t.left.next (nth os m).toNat) (nth l m).toNat] by
          rw [take_step hlt, runA_snoc, ← HR.out]
          simp [Nat.min_eq_left hm])
        generalize nth os m = s at co hs0 hs1 HQ
        generalize nth l m = d at hcl hc0 hc1 HQ
        obtain ⟨sn, rfl⟩ := Int.eq_ofNat_of_zero_le hs0
        obtain ⟨dn, rfl⟩ := Int.eq_ofNat_of_zero_le hc0
        have hsn : sn < t.left.next.length := by omega
        have hdn : dn < t.classes.length := by omega
        rw [Int.toNat_natCast, Int.toNat_natCast] at HQ
        obtain ⟨hrl, hst⟩ := HS.out.1.2 sn hsn
        have HZ := Lib.hid (hst dn hdn)
        clear hst
        obtain ⟨bR, oR, B, cB, rfl, hbR, hcR, hI⟩ := (HT2.out.keep hbr).ln.at_ hsn
        have hdr : (dn : Int) < (rowAt t.left.next sn).length := by omega
        obtain ⟨bE, oE, rfl, hbE, hcE⟩ := hI.at_ (k := dn) (by omega)
        clear hI hrl
        generalize nth (rowAt t.left.next sn) dn = x at hcE HZ HQ
        generalize (rowAt t.left.next sn).length = rl at hcR hdr
        obtain ⟨_, _, q2, _, _, _⟩ := tab_cells (hk2.out.keepB hbr hk2.out.lt)
        have hz2 := hbr.size
        have HG := Lib.hid (show nth (os ++ [x]) (m + 1) = x by unfold nth; rw [List.getD_eq_getElem?_getD, List.getElem?_append_right (by rw [HL.out]; omega), HL.out]; simp)
        go_wp2_with fail
        go_region_law (refine stepI rfl _ _ rfl w2.heap.size rfl (HO.out.keep (bUp (bBox _ _) (Below.refl _ _).drew)) [x] rfl (IntsAt.keep (ints_new _ _ _) (Below.refl _ _).drew) (by simp) hlo (by simp; omega) ?_; intro v' w5 hown4 hb6)
        all_goals
          have hb5 := hb6 w2 (bUp (bUp hbr (bBox _ _)) (Below.refl _ _).drew)
          clear hb6
          go_wp2_with fail
          go_roundw
          case rel => exact ⟨m + 1, os ++ [x], by omega, by go_num, hown4, Lib.hid (by rw [List.length_append, HL.out]; rfl), Lib.hid HQ.out.symm, Lib.hid (by rw [HG.out]; exact HZ.out), hb5⟩
          case measure => simp [intOf]; omega
      · obtain rfl : m = l.length := by omega
        have hmi : ¬ (l.length : Int) < l.length := by omega
        have HE : Hid (os = runA t.left.next 0 l) := Lib.hid (by
          have := HR.out
          rwa [List.take_length] at this)
        have hlen := Lib.hid (HO.out.cap)
        go_wp2_with fail
        go_ret
        refine ⟨A', c', by rw [← HE.out]; rfl, Lib.hid ?_, Lib.hid hlen.out.1, bUp hb2 hbr⟩
        rw [← HE.out]
        exact HO.out.ints
end Go.Proofs.YtlmdjggpeiddoaaDoor
