/- Left and Right with what is known of the result's capacity (written by wip/genBaC.py) BreakautoPrefixes: the walk (written by wip/genBaL3.py) -/
import Derived.Test.YtlmdjggpeiddoaaDoorD5
import Derived.Test.YtlmdjggpeiddoaaDoorL2
namespace Go.Proofs.YtlmdjggpeiddoaaDoor
open Go.RowKit Go.Sort

def SlC (zs : List Int) (w : World) (e : Ending) (w' : World) : Prop := ∃ A c, e = .returned (.slice A zs.length c) ∧ Hid (IntsAt w' A zs) ∧ Hid ((A = none → c = 0) ∧ zs.length ≤ c) ∧ Below w.heap.size w w'
theorem slc_nil {w w' : World} (hb : Below w.heap.size w w') : SlC [] w (.returned (.slice none 0 0)) w' := ⟨none, 0, rfl, Lib.hid IntsAt.nil, Lib.hid ⟨fun _ => rfl, Nat.le_refl _⟩, hb⟩

set_option maxHeartbeats 8000000 in
set_option maxRecDepth 100000 in
theorem leftC (t : TabD) (v : TabV) (l : List Int) (A : Option Addr) (c : Nat) (w : World) (hT : TabAt w t v) (hF : TabFew t) (hA : IntsAt w A l) (hl : l.length ≤ 1000000) :
    Calls Tryd.prog 15 #[.agg (tabCells t v), .slice A l.length c] w (SlC (leftT t l) w) := by
  have HV := Lib.hid (fun w' h h2 => fits t v l A c w' h hF h2 hl)
  have hk := Lib.hid (Blk.new w (tabCells t v) 28)
  have hbx := bBox w (.cells (tabCells t v) 28)
  obtain ⟨a0, a1, a2, a3, a4, a5, c0, c1, c2, c3, c4, c5⟩ := v
  have HT := Lib.hid hT
  have HA := Lib.hid hA
  clear hT hA
  clear hF
  unfold leftT
  cases hu : usableB t l with
  | false =>
    rw [hu] at HV
    rw [if_neg (by simp)]
    clear hu
    unfold tabCells at HV hk hbx ⊢
    dsimp only at HV hk hbx ⊢
    go_enter Tryd.func15, Tryd.ntmps15
    go_wp2_with fail
    refine (HV.out _ (HT.out.keep hbx) (HA.out.keep hbx)).mono ?_
    rintro e w2 ⟨rfl, hb2⟩
    go_wp2_with fail
    go_ret
    exact slc_nil (bUp hbx hb2)
  | true =>
    rw [hu] at HV
    rw [if_pos rfl]
    have HS := Lib.hid (usable_steps hu)
    clear hu
    have hmk := makeI (l.length + 1) (by omega)
    rw [show ((l.length + 1 : Nat) : Int) = (l.length : Int) + 1 by omega] at hmk
    unfold tabCells at HV hbx ⊢
    dsimp only at HV hbx ⊢
    go_enter Tryd.func15, Tryd.ntmps15
    go_wp2_with fail
    refine (HV.out _ (HT.out.keep hbx) (HA.out.keep hbx)).mono ?_
    rintro e w2 ⟨rfl, hb2⟩
    have hk2 := Lib.hid (Blk.keep hk.out hb2)
    have hb2 := bUp hbx hb2
    clear hk hbx HV
    have HT2 := Lib.hid (HT.out.keep hb2)
    have HA2 := Lib.hid (HA.out.keep hb2)
    clear HT HA
    go_wp2_with fail
    have hAr : Arr (w2.alloc (.cells (intVals (List.replicate (l.length + 1) 0)).toArray 3)) w2.heap.size (List.replicate (l.length + 1) 0) := Blk.new _ _ _
    have hbA := bBox w2 (.cells (intVals (List.replicate (l.length + 1) 0)).toArray 3)
    have hAr := Lib.hid hAr
    generalize w2.alloc (.cells (intVals (List.replicate (l.length + 1) 0)).toArray 3) = w3 at hAr hbA ⊢
    clear hmk
    go_loopw [18] (fun i wr => ∃ (m : Nat) (os : List Int), m ≤ l.length ∧ i = .int .i64 m ∧ Hid (os.length = l.length + 1) ∧ Hid (os.take (m + 1) = runA t.left.next 0 (l.take m)) ∧ Hid (0 ≤ nth os m ∧ nth os m < t.left.next.length) ∧ Hid (Arr wr w2.heap.size os) ∧ Below w2.heap.size w2 wr) (fun i _ => l.length - (intOf i).toNat)
    case atStart =>
      refine ⟨0, List.replicate (l.length + 1) 0, Nat.zero_le _, rfl, Lib.hid (by simp), Lib.hid (by simp [List.replicate_succ, runA]), Lib.hid ?_, hAr, hbA⟩
      have h0 : nth (List.replicate (l.length + 1) 0) 0 = 0 := by simp [nth, List.replicate_succ]
      rw [h0]
      have := HS.out.1.1
      omega
    case round =>
      obtain ⟨m, os, hm, rfl, HL, HR, HB, HAr, hbr⟩ := hrel
      by_cases hlt : m < l.length
      · have hmi : (m : Int) < l.length := by omega
        have hmo : m < os.length := by rw [HL.out]; omega
        have hmo1 : m + 1 < os.length := by rw [HL.out]; omega
        obtain ⟨bl, ol, rfl, hbl, hcl⟩ := (HA2.out.keep hbr).at_ hlt
        have co := HAr.out.get hmo
        have hs0 := HB.out.1
        have hs1 := HB.out.2
        have hc0 := (HS.out.2.2 m hlt).1
        have hc1 := (HS.out.2.2 m hlt).2
        have HX := Lib.hid (fun x => HAr.out.set (m + 1) x)
        have HN := Lib.hid (fun x => take_set x hmo1)
        have HO := Lib.hid (fun x : Int => nth_set_same (x := x) hmo1)
        have HQ := Lib.hid (show runA t.left.next 0 (l.take (m + 1)) = os.take (m + 1) ++ [nth (rowAt t.left.next (nth os m).toNat) (nth l m).toNat] by
          rw [take_step hlt, runA_snoc, ← HR.out, nth_take (by simp; omega)]
          simp [Nat.min_eq_left hm])
        generalize nth os m = s at co hs0 hs1 HQ
        generalize nth l m = d at hcl hc0 hc1 HQ
        obtain ⟨sn, rfl⟩ := Int.eq_ofNat_of_zero_le hs0
        obtain ⟨dn, rfl⟩ := Int.eq_ofNat_of_zero_le hc0
        have hsn : sn < t.left.next.length := by omega
        have hdn : dn < t.classes.length := by omega
        rw [Int.toNat_natCast, Int.toNat_natCast] at HQ
        obtain ⟨hrl, hst⟩ := HS.out.1.2 sn hsn
        have HZ := Lib.hid (hst dn hdn)
        clear hst
        obtain ⟨bR, oR, B, cB, rfl, hbR, hcR, hI⟩ := (HT2.out.keep hbr).ln.at_ hsn
        have hdr : (dn : Int) < (rowAt t.left.next sn).length := by omega
        obtain ⟨bE, oE, rfl, hbE, hcE⟩ := hI.at_ (k := dn) (by omega)
        clear hI hrl
        generalize nth (rowAt t.left.next sn) dn = x at hcE HZ HQ
        generalize (rowAt t.left.next sn).length = rl at hcR hdr
        obtain ⟨_, _, q2, _, _, _⟩ := tab_cells (hk2.out.keepB hbr hk2.out.lt)
        have hw : IntKind.i64.wrap ((m : Int) + 1) = (m : Int) + 1 := IntWalk.i64_in _ (by omega)
        have hw2 : ((m : Int) + 1).toNat = m + 1 := by omega
        have hw3 : 0 ≤ (m : Int) + 1 := by omega
        have hw4 : (m : Int) + 1 < (l.length : Int) + 1 := by omega
        have co1 := HAr.out.get hmo1
        have hf : wr.frozen? ⟨w2.heap.size, m + 1, none⟩ = false := HAr.out.frozen _
        have hz := Lib.hid HAr.out.lt
        go_wp2_with fail
        go_region
        go_wp2_with fail
        go_roundw
        case rel => exact ⟨m + 1, os.set (m + 1) x, by omega, by go_num, Lib.hid (by rw [List.length_set]; exact HL.out), Lib.hid ((HN.out x).trans HQ.out.symm), Lib.hid (by rw [HO.out]; exact HZ.out), Lib.hid (HX.out x), (hbr.setCell (p := ⟨w2.heap.size, m + 1, none⟩) (Nat.le_refl _) _).drew⟩
        case measure => simp [intOf]; omega
      · obtain rfl : m = l.length := by omega
        have hmi : ¬ (l.length : Int) < l.length := by omega
        have HE : Hid (os = runA t.left.next 0 l) := Lib.hid (by
          have := HR.out
          rwa [List.take_of_length_le (by rw [HL.out]; omega), List.take_length] at this)
        have hlen := Lib.hid (runA_length t.left.next l 0)
        go_wp2_with fail
        go_ret
        refine ⟨some ⟨w2.heap.size, 0, none⟩, l.length + 1, by rw [hlen.out]; rfl, Lib.hid ?_, Lib.hid ⟨(fun h => by cases h), Nat.le_of_eq hlen.out⟩, bUp hb2 hbr⟩
        rw [← HE.out]
        exact HAr.out.ints

set_option maxHeartbeats 8000000 in
set_option maxRecDepth 100000 in
theorem rightC (t : TabD) (v : TabV) (l : List Int) (A : Option Addr) (c : Nat) (w : World) (hT : TabAt w t v) (hF : TabFew t) (hA : IntsAt w A l) (hl : l.length ≤ 1000000) :
    Calls Tryd.prog 17 #[.agg (tabCells t v), .slice A l.length c] w (SlC (rightT t l) w) := by
  have HV := Lib.hid (fun w' h h2 => fits t v l A c w' h hF h2 hl)
  have hk := Lib.hid (Blk.new w (tabCells t v) 28)
  have hbx := bBox w (.cells (tabCells t v) 28)
  obtain ⟨a0, a1, a2, a3, a4, a5, c0, c1, c2, c3, c4, c5⟩ := v
  have HT := Lib.hid hT
  have HA := Lib.hid hA
  clear hT hA
  clear hF
  unfold rightT
  cases hu : usableB t l with
  | false =>
    rw [hu] at HV
    rw [if_neg (by simp)]
    clear hu
    unfold tabCells at HV hk hbx ⊢
    dsimp only at HV hk hbx ⊢
    go_enter Tryd.func17, Tryd.ntmps17
    go_wp2_with fail
    refine (HV.out _ (HT.out.keep hbx) (HA.out.keep hbx)).mono ?_
    rintro e w2 ⟨rfl, hb2⟩
    go_wp2_with fail
    go_ret
    exact slc_nil (bUp hbx hb2)
  | true =>
    rw [hu] at HV
    rw [if_pos rfl]
    have HS := Lib.hid (usable_steps hu)
    clear hu
    have hmk := makeI (l.length + 1) (by omega)
    rw [show ((l.length + 1 : Nat) : Int) = (l.length : Int) + 1 by omega] at hmk
    unfold tabCells at HV hbx ⊢
    dsimp only at HV hbx ⊢
    go_enter Tryd.func17, Tryd.ntmps17
    go_wp2_with fail
    refine (HV.out _ (HT.out.keep hbx) (HA.out.keep hbx)).mono ?_
    rintro e w2 ⟨rfl, hb2⟩
    have hk2 := Lib.hid (Blk.keep hk.out hb2)
    have hb2 := bUp hbx hb2
    clear hk hbx HV
    have HT2 := Lib.hid (HT.out.keep hb2)
    have HA2 := Lib.hid (HA.out.keep hb2)
    clear HT HA
    go_wp2_with fail
    have hAr : Arr (w2.alloc (.cells (intVals (List.replicate (l.length + 1) 0)).toArray 3)) w2.heap.size (List.replicate (l.length + 1) 0) := Blk.new _ _ _
    have hbA := bBox w2 (.cells (intVals (List.replicate (l.length + 1) 0)).toArray 3)
    have hAr := Lib.hid hAr
    generalize w2.alloc (.cells (intVals (List.replicate (l.length + 1) 0)).toArray 3) = w3 at hAr hbA ⊢
    clear hmk
    go_loopw [6] (fun i wr => ∃ (k : Nat) (os : List Int), k ≤ l.length ∧ i = .int .i64 ((k : Int) - 1) ∧ Hid (os.length = l.length + 1) ∧ Hid (os.drop k = runB t.right.next (l.drop k)) ∧ Hid (0 ≤ nth os k ∧ nth os k < t.right.next.length) ∧ Hid (Arr wr w2.heap.size os) ∧ Below w2.heap.size w2 wr) (fun i _ => (intOf i + 1).toNat)
    case atStart =>
      refine ⟨l.length, List.replicate (l.length + 1) 0, Nat.le_refl _, rfl, Lib.hid (by simp), Lib.hid ?_, Lib.hid ?_, hAr, hbA⟩
      · rw [List.drop_length, runB]
        simp
      · have h0 : nth (List.replicate (l.length + 1) 0) l.length = 0 := by simp [nth]
        rw [h0]
        have := HS.out.2.1.1
        omega
    case round =>
      obtain ⟨k, os, hm, rfl, HL, HR, HB, HAr, hbr⟩ := hrel
      cases k with
      | succ m =>
        have hlt : m < l.length := by omega
        rw [show (((m + 1 : Nat) : Int) - 1) = (m : Int) by omega]
        have hmi : (m : Int) < l.length := by omega
        have hmo : m < os.length := by rw [HL.out]; omega
        have hmo1 : m + 1 < os.length := by rw [HL.out]; omega
        obtain ⟨bl, ol, rfl, hbl, hcl⟩ := (HA2.out.keep hbr).at_ hlt
        have co := HAr.out.get hmo1
        have co1 := HAr.out.get hmo
        have hs0 := HB.out.1
        have hs1 := HB.out.2
        have hc0 := (HS.out.2.2 m hlt).1
        have hc1 := (HS.out.2.2 m hlt).2
        have HX := Lib.hid (fun x => HAr.out.set m x)
        have HN := Lib.hid (fun x => drop_set x hmo)
        have HO := Lib.hid (fun x : Int => nth_set_same (x := x) hmo)
        have HQ := Lib.hid (show runB t.right.next (l.drop m) = nth (rowAt t.right.next (nth os (m + 1)).toNat) (nth l m).toNat :: os.drop (m + 1) by
          rw [drop_nth hlt, runB, ← HR.out, nth_drop])
        generalize nth os (m + 1) = s at co hs0 hs1 HQ
        generalize nth l m = d at hcl hc0 hc1 HQ
        obtain ⟨sn, rfl⟩ := Int.eq_ofNat_of_zero_le hs0
        obtain ⟨dn, rfl⟩ := Int.eq_ofNat_of_zero_le hc0
        have hsn : sn < t.right.next.length := by omega
        have hdn : dn < t.classes.length := by omega
        rw [Int.toNat_natCast, Int.toNat_natCast] at HQ
        obtain ⟨hrl, hst⟩ := HS.out.2.1.2 sn hsn
        have HZ := Lib.hid (hst dn hdn)
        clear hst
        obtain ⟨bR, oR, B, cB, rfl, hbR, hcR, hI⟩ := (HT2.out.keep hbr).rn.at_ hsn
        have hdr : (dn : Int) < (rowAt t.right.next sn).length := by omega
        obtain ⟨bE, oE, rfl, hbE, hcE⟩ := hI.at_ (k := dn) (by omega)
        clear hI hrl
        generalize nth (rowAt t.right.next sn) dn = x at hcE HZ HQ
        generalize (rowAt t.right.next sn).length = rl at hcR hdr
        obtain ⟨_, _, _, _, q4, _⟩ := tab_cells (hk2.out.keepB hbr hk2.out.lt)
        have hw : IntKind.i64.wrap ((m : Int) + 1) = (m : Int) + 1 := IntWalk.i64_in _ (by omega)
        have hw2 : ((m : Int) + 1).toNat = m + 1 := by omega
        have hw3 : 0 ≤ (m : Int) + 1 := by omega
        have hw4 : (m : Int) + 1 < (l.length : Int) + 1 := by omega
        have hw5 : (m : Int) < (l.length : Int) + 1 := by omega
        have hf : wr.frozen? ⟨w2.heap.size, m, none⟩ = false := HAr.out.frozen _
        go_wp2_with fail
        go_region
        go_wp2_with fail
        go_roundw
        case rel => exact ⟨m, os.set m x, by omega, rfl, Lib.hid (by rw [List.length_set]; exact HL.out), Lib.hid ((HN.out x).trans HQ.out.symm), Lib.hid (by rw [HO.out]; exact HZ.out), Lib.hid (HX.out x), (hbr.setCell (p := ⟨w2.heap.size, m, none⟩) (Nat.le_refl _) _).drew⟩
        case measure => simp [intOf]
      | zero =>
        have HE : Hid (os = runB t.right.next l) := HR
        have hlen := Lib.hid (runB_length t.right.next l)
        go_wp2_with fail
        go_ret
        refine ⟨some ⟨w2.heap.size, 0, none⟩, l.length + 1, by rw [hlen.out]; rfl, Lib.hid ?_, Lib.hid ⟨(fun h => by cases h), Nat.le_of_eq hlen.out⟩, bUp hb2 hbr⟩
        rw [← HE.out]
        exact HAr.out.ints
end Go.Proofs.YtlmdjggpeiddoaaDoor
namespace Go.Proofs.YtlmdjggpeiddoaaDoor
open Go.RowKit Go.Sort

theorem runA_take (nx : List (List Int)) : ∀ (l : List Int) (s : Int) (j : Nat), j ≤ l.length → runA nx s (l.take j) = (runA nx s l).take (j + 1)
  | [], s, j, h => by
    obtain rfl : j = 0 := by simpa using h
    rfl
  | c :: l, s, 0, _ => rfl
  | c :: l, s, j + 1, h => by
    rw [List.take_succ_cons, runA, runA, List.take_succ_cons, runA_take nx l _ j (by simpa using h)]
theorem runB_drop (nx : List (List Int)) : ∀ (l : List Int) (j : Nat), j ≤ l.length → runB nx (l.drop j) = (runB nx l).drop j
  | l, 0, _ => rfl
  | [], j + 1, h => by simp at h
  | c :: l, j + 1, h => by
    rw [List.drop_succ_cons, runB, List.drop_succ_cons, runB_drop nx l j (by simpa using h)]
theorem runA_first (nx : List (List Int)) (l : List Int) (s : Int) : nth (runA nx s l) 0 = s := by cases l <;> rfl
theorem runB_last (nx : List (List Int)) : ∀ l : List Int, nth (runB nx l) l.length = 0
  | [] => rfl
  | c :: l => by
    have h := runB_last nx l
    rw [runB, List.length_cons]
    exact h
theorem usable_take {t : TabD} {l : List Int} (h : usableB t l = true) (j : Nat) : usableB t (l.take j) = true ∧ usableB t (l.drop j) = true := by
  unfold usableB at *
  rw [Bool.and_eq_true, List.all_eq_true] at h
  refine ⟨?_, ?_⟩
  · rw [Bool.and_eq_true, List.all_eq_true]
    exact ⟨fun x hx => h.1 x (List.mem_of_mem_take hx), h.2⟩
  · rw [Bool.and_eq_true, List.all_eq_true]
    exact ⟨fun x hx => h.1 x (List.mem_of_mem_drop hx), h.2⟩
theorem left_take {t : TabD} {l : List Int} (h : usableB t l = true) {j : Nat} (hj : j ≤ l.length) : leftT t (l.take j) = (leftT t l).take (j + 1) := by
  unfold leftT
  rw [if_pos h, if_pos (usable_take h j).1, runA_take _ _ _ _ hj]
theorem right_drop {t : TabD} {l : List Int} (h : usableB t l = true) {j : Nat} (hj : j ≤ l.length) : rightT t (l.drop j) = (rightT t l).drop j := by
  unfold rightT
  rw [if_pos h, if_pos (usable_take h j).2, runB_drop _ _ _ hj]
theorem left_use {t : TabD} {l : List Int} (h : usableB t l = true) : (leftT t l).length = l.length + 1 ∧ nth (leftT t l) 0 = 0 := by
  unfold leftT
  rw [if_pos h]
  exact ⟨runA_length _ _ _, runA_first _ _ _⟩
theorem right_use {t : TabD} {l : List Int} (h : usableB t l = true) : (rightT t l).length = l.length + 1 ∧ nth (rightT t l) l.length = 0 := by
  unfold rightT
  rw [if_pos h]
  exact ⟨runB_length _ _, runB_last _ _⟩
theorem use_not {t : TabD} {l : List Int} (h : usableB t l = false) : leftT t l = [] ∧ rightT t l = [] ∧ actsT t l = [] := by
  have h1 : leftT t l = [] := by unfold leftT; rw [h]; rfl
  have h2 : rightT t l = [] := by unfold rightT; rw [h]; rfl
  exact ⟨h1, h2, by unfold actsT; rw [h1]; rfl⟩
/-- there is a class that is none, if the table is valid -/
theorem use_bad {t : TabD} {l : List Int} (h : usableB t l = false) (hv : validB t = true) (ha : (l.take l.length).all (inSt t.classes.length) = true) : False := by
  unfold usableB at h
  rw [List.take_length] at ha
  rw [ha, hv] at h
  cases h

set_option maxHeartbeats 32000000 in
set_option maxRecDepth 100000 in
theorem lawBPrefixes (t : TabD) (u : TabV) (l : List Int) (A : Option Addr) (c : Nat) (p : Int) (w : World) (hT : TabAt w t u) (hn : ∀ p ∈ t.classes, p.length ≤ 9223372036854775807) (hA : IntsAt w A l) (hlc : l.length ≤ c) (hN : A = none → c = 0) (hE : EnvB w) :
    Calls Tryd.prog 5 #[.agg (tabCells t u), .slice A l.length c, .int .i64 p] w fun e w' => e = .returned (.bool true) ∧ Below w.heap.size w w' := by
  have HFw := Lib.hid (fun w' h => few t u l A c w' h)
  have hk := Lib.hid (Blk.new w (tabCells t u) 28)
  have hbx := bBox w (.cells (tabCells t u) 28)
  cases hf : fewT t l with
  | false =>
    rw [hf] at HFw
    obtain ⟨a0, a1, a2, a3, a4, a5, c0, c1, c2, c3, c4, c5⟩ := u
    obtain ⟨k0, k1, k2, k3, k4, k5⟩ := tab_cells hk.out
    unfold tabCells at *
    dsimp only at *
    have HT := Lib.hid hT
    have HA := Lib.hid hA
    have HE := Lib.hid hE
    clear hT hA hE
    clear hf hn hk hlc hN
    go_enter Tryd.func5, Tryd.ntmps5
    go_wp2_with fail
    refine (HFw.out _ (HT.out.keep hbx)).mono ?_
    rintro e w1 ⟨rfl, hb1⟩
    go_wp2_with fail
    refine (alive _ (HE.out.keep (bUp hbx hb1))).mono ?_
    rintro e w2 ⟨rfl, hb2⟩
    go_wp2_with fail
    go_ret
    exact ⟨rfl, bUp (bUp hbx hb1) hb2⟩
  | true =>
   rw [hf] at HFw
   obtain ⟨hs, hl⟩ := fewT_of hf
   have hF := smallT_few hs hn
   by_cases hp0 : p < 0
   · have t1 : decide (p < 0) = true := decide_eq_true hp0
     obtain ⟨a0, a1, a2, a3, a4, a5, c0, c1, c2, c3, c4, c5⟩ := u
     obtain ⟨k0, k1, k2, k3, k4, k5⟩ := tab_cells hk.out
     unfold tabCells at *
     dsimp only at *
     have HT := Lib.hid hT
     have HA := Lib.hid hA
     have HE := Lib.hid hE
     clear hT hA hE
     clear hf hn hk hlc hN hs hF
     go_enter Tryd.func5, Tryd.ntmps5
     go_wp2_with fail
     refine (HFw.out _ (HT.out.keep hbx)).mono ?_
     rintro e w1 ⟨rfl, hb1⟩
     go_wp2_with fail
     refine (alive _ (HE.out.keep (bUp hbx hb1))).mono ?_
     rintro e w2 ⟨rfl, hb2⟩
     go_wp2_with fail
     go_ret
     exact ⟨rfl, bUp (bUp hbx hb1) hb2⟩
   by_cases hp1 : (l.length : Int) < p
   · have t1 : decide (p < 0) = false := decide_eq_false hp0
     have t2 : decide ((l.length : Int) < p) = true := decide_eq_true hp1
     obtain ⟨a0, a1, a2, a3, a4, a5, c0, c1, c2, c3, c4, c5⟩ := u
     obtain ⟨k0, k1, k2, k3, k4, k5⟩ := tab_cells hk.out
     unfold tabCells at *
     dsimp only at *
     have HT := Lib.hid hT
     have HA := Lib.hid hA
     have HE := Lib.hid hE
     clear hT hA hE
     clear hf hn hk hlc hN hs hF
     go_enter Tryd.func5, Tryd.ntmps5
     go_wp2_with fail
     refine (HFw.out _ (HT.out.keep hbx)).mono ?_
     rintro e w1 ⟨rfl, hb1⟩
     go_wp2_with fail
     refine (alive _ (HE.out.keep (bUp hbx hb1))).mono ?_
     rintro e w2 ⟨rfl, hb2⟩
     go_wp2_with fail
     go_ret
     exact ⟨rfl, bUp (bUp hbx hb1) hb2⟩
   have t1 : decide (p < 0) = false := decide_eq_false hp0
   have t2 : decide ((l.length : Int) < p) = false := decide_eq_false hp1
   have HV := Lib.hid (fun w' h => valid t u w' h hF)
   cases hv : validB t with
   | false =>
    rw [hv] at HV
    obtain ⟨a0, a1, a2, a3, a4, a5, c0, c1, c2, c3, c4, c5⟩ := u
    obtain ⟨k0, k1, k2, k3, k4, k5⟩ := tab_cells hk.out
    unfold tabCells at *
    dsimp only at *
    have HT := Lib.hid hT
    have HA := Lib.hid hA
    have HE := Lib.hid hE
    clear hT hA hE
    clear hf hn hk hlc hN hs hF hv
    go_enter Tryd.func5, Tryd.ntmps5
    go_wp2_with fail
    refine (HFw.out _ (HT.out.keep hbx)).mono ?_
    rintro e w1 ⟨rfl, hb1⟩
    replace k0 := cell_keep hb1 k0
    replace k1 := cell_keep hb1 k1
    replace k2 := cell_keep hb1 k2
    replace k3 := cell_keep hb1 k3
    replace k4 := cell_keep hb1 k4
    replace k5 := cell_keep hb1 k5
    replace hbx := bUp hbx hb1
    clear hb1
    go_wp2_with fail
    refine (HV.out _ (HT.out.keep hbx)).mono ?_
    rintro e w3 ⟨rfl, hb1⟩
    go_wp2_with fail
    refine (alive _ (HE.out.keep (bUp hbx hb1))).mono ?_
    rintro e w2 ⟨rfl, hb2⟩
    go_wp2_with fail
    go_ret
    exact ⟨rfl, bUp (bUp hbx hb1) hb2⟩
   | true =>
    rw [hv] at HV
    have HL := Lib.hid (fun w' h h2 => leftC t u l A c w' h hF h2 (by omega))
    have HR := Lib.hid (fun w' h h2 => rightC t u l A c w' h hF h2 (by omega))
    obtain ⟨j, rfl⟩ := Int.eq_ofNat_of_zero_le (show 0 ≤ p by omega)
    have hj : j ≤ l.length := by omega
    cases hu : usableB t l with
    | false =>
      have HBad := Lib.hid (use_bad hu hv)
      obtain ⟨e1, e2, e3⟩ := use_not hu
      have HA2 := Lib.hid (fun w' h h2 => actions t u l A c w' h hF h2 (by omega))
      rw [e1] at HL
      rw [e2] at HR
      rw [e3] at HA2
      clear e1 e2 e3
      obtain ⟨a0, a1, a2, a3, a4, a5, c0, c1, c2, c3, c4, c5⟩ := u
      obtain ⟨k0, k1, k2, k3, k4, k5⟩ := tab_cells hk.out
      unfold tabCells at *
      dsimp only at *
      have HT := Lib.hid hT
      have HA := Lib.hid hA
      have HE := Lib.hid hE
      clear hT hA hE
      clear hf hn hk hlc hN hs hF hv hu
      go_enter Tryd.func5, Tryd.ntmps5
      go_wp2_with fail
      refine (HFw.out _ (HT.out.keep hbx)).mono ?_
      rintro e w1 ⟨rfl, hb1⟩
      clear HFw
      replace k0 := cell_keep hb1 k0
      replace k1 := cell_keep hb1 k1
      replace k2 := cell_keep hb1 k2
      replace k3 := cell_keep hb1 k3
      replace k4 := cell_keep hb1 k4
      replace k5 := cell_keep hb1 k5
      replace hbx := bUp hbx hb1
      clear hb1
      go_wp2_with fail
      refine (HV.out _ (HT.out.keep hbx)).mono ?_
      rintro e w2 ⟨rfl, hb1⟩
      clear HV
      replace k0 := cell_keep hb1 k0
      replace k1 := cell_keep hb1 k1
      replace k2 := cell_keep hb1 k2
      replace k3 := cell_keep hb1 k3
      replace k4 := cell_keep hb1 k4
      replace k5 := cell_keep hb1 k5
      have hbx1 := bUp hbx hb1
      have HT1 := Lib.hid (HT.out.keep hbx1)
      have HA1 := Lib.hid (HA.out.keep hbx1)
      clear HT HA hb1 hbx
      have hcur := (Below.refl w2.heap.size w2).drew
      go_wp2_with fail
      refine wp_region_held_drew (S := fun (w' : World) => w'.cell? ⟨w.heap.size, 0, none⟩ = some (.slice a0 t.classes.length c0) ∧ w'.cell? ⟨w.heap.size, 1, none⟩ = some (.slice a1 t.actions.length c1) ∧ w'.cell? ⟨w.heap.size, 2, none⟩ = some (.slice a2 t.left.next.length c2) ∧ w'.cell? ⟨w.heap.size, 3, none⟩ = some (.slice a3 t.left.marks.length c3) ∧ w'.cell? ⟨w.heap.size, 4, none⟩ = some (.slice a4 t.right.next.length c4) ∧ w'.cell? ⟨w.heap.size, 5, none⟩ = some (.slice a5 t.right.marks.length c5)) (by kernel_rfl) ⟨k0, k1, k2, k3, k4, k5⟩ ?_
      intro hHeld
      refine wpAnyH_take (i := 0) (v := ?_) rfl (by kernel_rfl) (by kernel_rfl) (by kernel_rfl) (fun _ _ _ h => h) (Or.inl ⟨by kernel_rfl, ?_⟩) (by assumption) ?_
      rotate_left 1
      · intro w hSw
        (try dsimp only at hSw)
        go_simp
        (try with_reducible rfl)
      refine wpAnyH_take (i := 1) (v := ?_) rfl (by kernel_rfl) (by kernel_rfl) (by kernel_rfl) (fun _ _ _ h => h) (Or.inl ⟨by kernel_rfl, ?_⟩) (by assumption) ?_
      rotate_left 1
      · intro w hSw
        (try dsimp only at hSw)
        go_simp
        (try with_reducible rfl)
      refine wpAnyH_take (i := 3) (v := ?_) rfl (by kernel_rfl) (by kernel_rfl) (by kernel_rfl) (fun _ _ _ h => h) (Or.inl ⟨by kernel_rfl, ?_⟩) (by assumption) ?_
      rotate_left 1
      · intro w hSw
        (try dsimp only at hSw)
        go_simp
        (try with_reducible rfl)
      refine wpAnyH_take (i := 4) (v := ?_) rfl (by kernel_rfl) (by kernel_rfl) (by kernel_rfl) (fun _ _ _ h => h) (Or.inl ⟨by kernel_rfl, ?_⟩) (by assumption) ?_
      rotate_left 1
      · intro w hSw
        (try dsimp only at hSw)
        go_simp
        (try with_reducible rfl)
      clear hHeld
      refine wpAnyH_ready (rs := [2]) (by kernel_rfl) (by simp) ?_
      refine AllReadyH.cons rfl (fun K hK => ?_) AllReadyH.nil
      go_simp
      refine (HL.out _ (HT1.out.keep hcur) (HA1.out.keep hcur)).mono ?_
      rintro e v1 ⟨AL, cL, rfl, IL, NL, hb⟩
      replace k0 := cell_keep hb k0
      replace k1 := cell_keep hb k1
      replace k2 := cell_keep hb k2
      replace k3 := cell_keep hb k3
      replace k4 := cell_keep hb k4
      replace k5 := cell_keep hb k5
      replace hcur := bUp hcur hb
      clear hb
      refine hK.out _ _ ⟨k0, k1, k2, k3, k4, k5⟩ (fun _ => ?_)
      clear hK K
      refine wpAnyH_ready (rs := [5]) (by kernel_rfl) (by simp) ?_
      refine AllReadyH.cons rfl (fun K hK => ?_) AllReadyH.nil
      go_simp
      refine (HR.out _ (HT1.out.keep hcur) (HA1.out.keep hcur)).mono ?_
      rintro e v2 ⟨AR, cR, rfl, IR, NR, hb⟩
      replace k0 := cell_keep hb k0
      replace k1 := cell_keep hb k1
      replace k2 := cell_keep hb k2
      replace k3 := cell_keep hb k3
      replace k4 := cell_keep hb k4
      replace k5 := cell_keep hb k5
      replace IL := Lib.hid (IL.out.keep hb)
      replace hcur := bUp hcur hb
      clear hb
      refine hK.out _ _ ⟨k0, k1, k2, k3, k4, k5⟩ (fun hHeld => ?_)
      clear hK K
      refine wpAnyH_take (i := 6) (v := ?_) rfl (by kernel_rfl) (by kernel_rfl) (by kernel_rfl) (fun _ _ _ h => h) (Or.inl ⟨by kernel_rfl, ?_⟩) (by assumption) ?_
      rotate_left 1
      · intro w hSw
        (try dsimp only at hSw)
        go_simp
        (try with_reducible rfl)
      refine wpAnyH_take (i := 7) (v := ?_) rfl (by kernel_rfl) (by kernel_rfl) (by kernel_rfl) (fun _ _ _ h => h) (Or.inl ⟨by kernel_rfl, ?_⟩) (by assumption) ?_
      rotate_left 1
      · intro w hSw
        (try dsimp only at hSw)
        go_simp
        (try with_reducible rfl)
      clear hHeld
      refine wpAnyH_done (by kernel_rfl) ?_ _
      have q0 := Lib.hid k0
      have q1 := Lib.hid k1
      have q2 := Lib.hid k2
      have q3 := Lib.hid k3
      have q4 := Lib.hid k4
      have q5 := Lib.hid k5
      clear k0 k1 k2 k3 k4 k5 IL IR NL NR HL HR
      replace HT1 := Lib.hid (HT1.out.keep hcur)
      replace HA1 := Lib.hid (HA1.out.keep hcur)
      replace hbx1 := bUp hbx1 hcur
      clear hcur
      have z0 : ((([] : List Int).length : Int) == 0) = true := rfl
      go_wp2_with fail
      go_loopw [9] (fun i wr => ∃ k : Nat, k ≤ l.length ∧ i = .int .i64 k ∧ Hid ((l.take k).all (inSt t.classes.length) = true) ∧ Below v2.heap.size v2 wr) (fun i _ => l.length - (intOf i).toNat)
      case atStart => exact ⟨0, Nat.zero_le _, rfl, Lib.hid rfl, Below.refl _ _⟩
      case round =>
        obtain ⟨k, hk, rfl, HG, hbr⟩ := hrel
        have k0 := cell_keep hbr q0.out
        by_cases hlt : k < l.length
        · have hki : (k : Int) < l.length := by omega
          obtain ⟨ba, oa, rfl, hba, hca⟩ := (HA1.out.keep hbr).at_ hlt
          have HG2 := Lib.hid (fun h => all_step (P := inSt t.classes.length) hlt HG.out h)
          generalize nth l k = x at hca HG2
          have r1 := cell_regrown hca
          have r2 := cell_regrown k0
          by_cases hx0 : x < 0
          · have n1 : decide (x < 0) = true := decide_eq_true hx0
            go_wp2_with fail
            refine wp_region_quiet_below (by kernel_rfl) (by kernel_rfl) ?_
            repeat (go_big_quiet_step (fail))
            refine wpQuiet_nil ?_
            rintro _ ⟨⟨dq, osq⟩, rfl⟩
            have hb4 := below_regrown wr dq osq
            generalize grow (redrawn wr dq) osq = w4 at hb4 ⊢
            replace hbr := bUp hbr hb4
            clear r1 r2 hca k0 hb4
            have k0 := cell_keep hbr q0.out
            have k1 := cell_keep hbr q1.out
            have k2 := cell_keep hbr q2.out
            have k3 := cell_keep hbr q3.out
            have k4 := cell_keep hbr q4.out
            have k5 := cell_keep hbr q5.out
            clear n1 hx0
            go_wp2_with fail
            refine (HA2.out _ (HT1.out.keep hbr) (HA1.out.keep hbr)).mono ?_
            rintro e w5 ⟨A5, c5', rfl, -, -, hb5⟩
            clear k0 k1 k2 k3 k4 k5
            go_wp2_with fail
            refine (alive _ (HE.out.keep (bUp hbx1 (bUp hbr hb5)))).mono ?_
            rintro e w6 ⟨rfl, hb6⟩
            go_wp2_with fail
            go_ret
            exact ⟨rfl, bUp (bUp hbx1 (bUp hbr hb5)) hb6⟩
          · have n1 : decide (x < 0) = false := decide_eq_false hx0
            by_cases hx1 : (t.classes.length : Int) ≤ x
            · have n2 : decide ((t.classes.length : Int) ≤ x) = true := decide_eq_true hx1
              go_wp2_with fail
              refine wp_region_quiet_below (by kernel_rfl) (by kernel_rfl) ?_
              repeat (go_big_quiet_step (fail))
              refine wpQuiet_nil ?_
              rintro _ ⟨⟨dq, osq⟩, rfl⟩
              have hb4 := below_regrown wr dq osq
              generalize grow (redrawn wr dq) osq = w4 at hb4 ⊢
              replace hbr := bUp hbr hb4
              clear r1 r2 hca k0 hb4
              have k0 := cell_keep hbr q0.out
              have k1 := cell_keep hbr q1.out
              have k2 := cell_keep hbr q2.out
              have k3 := cell_keep hbr q3.out
              have k4 := cell_keep hbr q4.out
              have k5 := cell_keep hbr q5.out
              clear n1 hx0
              go_wp2_with fail
              refine (HA2.out _ (HT1.out.keep hbr) (HA1.out.keep hbr)).mono ?_
              rintro e w5 ⟨A5, c5', rfl, -, -, hb5⟩
              clear k0 k1 k2 k3 k4 k5
              go_wp2_with fail
              refine (alive _ (HE.out.keep (bUp hbx1 (bUp hbr hb5)))).mono ?_
              rintro e w6 ⟨rfl, hb6⟩
              go_wp2_with fail
              go_ret
              exact ⟨rfl, bUp (bUp hbx1 (bUp hbr hb5)) hb6⟩
            · have n2 : decide ((t.classes.length : Int) ≤ x) = false := decide_eq_false hx1
              have HGn := Lib.hid (HG2.out (by unfold inSt; rw [show decide (0 ≤ x) = true from decide_eq_true (by omega), show decide (x < (t.classes.length : Int)) = true from decide_eq_true (by omega)]; rfl))
              go_wp2_with fail
              refine wp_region_quiet_below (by kernel_rfl) (by kernel_rfl) ?_
              repeat (go_big_quiet_step (fail))
              refine wpQuiet_nil ?_
              rintro _ ⟨⟨dq, osq⟩, rfl⟩
              have hb4 := below_regrown wr dq osq
              generalize grow (redrawn wr dq) osq = w4 at hb4 ⊢
              go_wp2_with fail
              go_roundw
              case rel => exact ⟨k + 1, by omega, by go_num, HGn, bUp hbr hb4⟩
              case measure => simp [intOf]; omega
        · obtain rfl : k = l.length := by omega
          exact (HBad.out HG.out).elim
    | true =>
      obtain ⟨hxl, hxf⟩ := left_use hu
      obtain ⟨hyl, hyf⟩ := right_use hu
      have HL2 := Lib.hid (fun (B : Option Addr) (d : Nat) w' h h2 => left t u (l.take j) B d w' h hF h2 (by simp; omega))
      have HR2 := Lib.hid (fun (B : Option Addr) (d : Nat) w' h h2 => right t u (l.drop j) B d w' h hF h2 (by simp; omega))
      rw [left_take hu hj] at HL2
      rw [right_drop hu hj] at HR2
      generalize leftT t l = xs at HL HL2 hxl hxf
      generalize rightT t l = ys at HR HR2 hyl hyf
      obtain ⟨B1, hs1a, hs1b, -⟩ := sliceHi A l c j hj hlc hN
      obtain ⟨B3, hs3a, hs3b, -⟩ := sliceLo A l c j hj hlc hN
      replace HL2 := Lib.hid (HL2.out B1 c)
      replace HR2 := Lib.hid (HR2.out B3 (c - j))
      obtain ⟨a0, a1, a2, a3, a4, a5, c0, c1, c2, c3, c4, c5⟩ := u
      obtain ⟨k0, k1, k2, k3, k4, k5⟩ := tab_cells hk.out
      unfold tabCells at *
      dsimp only at *
      have HT := Lib.hid hT
      have HA := Lib.hid hA
      have HE := Lib.hid hE
      clear hT hA hE
      clear hf hn hk hlc hN hs hF hv hu
      have Hs1 := Lib.hid hs1a
      have Hs3 := Lib.hid hs3a
      have Hxl := Lib.hid hxl
      have Hyl := Lib.hid hyl
      have Hxf := Lib.hid hxf
      have Hyf := Lib.hid hyf
      clear hs1a hs3a hxl hyl hxf hyf
      go_enter Tryd.func5, Tryd.ntmps5
      go_wp2_with fail
      refine (HFw.out _ (HT.out.keep hbx)).mono ?_
      rintro e w1 ⟨rfl, hb1⟩
      clear HFw
      replace k0 := cell_keep hb1 k0
      replace k1 := cell_keep hb1 k1
      replace k2 := cell_keep hb1 k2
      replace k3 := cell_keep hb1 k3
      replace k4 := cell_keep hb1 k4
      replace k5 := cell_keep hb1 k5
      replace hbx := bUp hbx hb1
      clear hb1
      go_wp2_with fail
      refine (HV.out _ (HT.out.keep hbx)).mono ?_
      rintro e w2 ⟨rfl, hb1⟩
      clear HV
      replace k0 := cell_keep hb1 k0
      replace k1 := cell_keep hb1 k1
      replace k2 := cell_keep hb1 k2
      replace k3 := cell_keep hb1 k3
      replace k4 := cell_keep hb1 k4
      replace k5 := cell_keep hb1 k5
      have hbx1 := bUp hbx hb1
      have HT1 := Lib.hid (HT.out.keep hbx1)
      have HA1 := Lib.hid (HA.out.keep hbx1)
      clear HT HA hb1 hbx
      have hcur := (Below.refl w2.heap.size w2).drew
      go_wp2_with fail
      refine wp_region_held_drew (S := fun (w' : World) => w'.cell? ⟨w.heap.size, 0, none⟩ = some (.slice a0 t.classes.length c0) ∧ w'.cell? ⟨w.heap.size, 1, none⟩ = some (.slice a1 t.actions.length c1) ∧ w'.cell? ⟨w.heap.size, 2, none⟩ = some (.slice a2 t.left.next.length c2) ∧ w'.cell? ⟨w.heap.size, 3, none⟩ = some (.slice a3 t.left.marks.length c3) ∧ w'.cell? ⟨w.heap.size, 4, none⟩ = some (.slice a4 t.right.next.length c4) ∧ w'.cell? ⟨w.heap.size, 5, none⟩ = some (.slice a5 t.right.marks.length c5)) (by kernel_rfl) ⟨k0, k1, k2, k3, k4, k5⟩ ?_
      intro hHeld
      refine wpAnyH_take (i := 0) (v := ?_) rfl (by kernel_rfl) (by kernel_rfl) (by kernel_rfl) (fun _ _ _ h => h) (Or.inl ⟨by kernel_rfl, ?_⟩) (by assumption) ?_
      rotate_left 1
      · intro w hSw
        (try dsimp only at hSw)
        go_simp
        (try with_reducible rfl)
      refine wpAnyH_take (i := 1) (v := ?_) rfl (by kernel_rfl) (by kernel_rfl) (by kernel_rfl) (fun _ _ _ h => h) (Or.inl ⟨by kernel_rfl, ?_⟩) (by assumption) ?_
      rotate_left 1
      · intro w hSw
        (try dsimp only at hSw)
        go_simp
        (try with_reducible rfl)
      refine wpAnyH_take (i := 3) (v := ?_) rfl (by kernel_rfl) (by kernel_rfl) (by kernel_rfl) (fun _ _ _ h => h) (Or.inl ⟨by kernel_rfl, ?_⟩) (by assumption) ?_
      rotate_left 1
      · intro w hSw
        (try dsimp only at hSw)
        go_simp
        (try with_reducible rfl)
      refine wpAnyH_take (i := 4) (v := ?_) rfl (by kernel_rfl) (by kernel_rfl) (by kernel_rfl) (fun _ _ _ h => h) (Or.inl ⟨by kernel_rfl, ?_⟩) (by assumption) ?_
      rotate_left 1
      · intro w hSw
        (try dsimp only at hSw)
        go_simp
        (try with_reducible rfl)
      clear hHeld
      refine wpAnyH_ready (rs := [2]) (by kernel_rfl) (by simp) ?_
      refine AllReadyH.cons rfl (fun K hK => ?_) AllReadyH.nil
      go_simp
      refine (HL.out _ (HT1.out.keep hcur) (HA1.out.keep hcur)).mono ?_
      rintro e v1 ⟨AL, cL, rfl, IL, NL, hb⟩
      replace k0 := cell_keep hb k0
      replace k1 := cell_keep hb k1
      replace k2 := cell_keep hb k2
      replace k3 := cell_keep hb k3
      replace k4 := cell_keep hb k4
      replace k5 := cell_keep hb k5
      replace hcur := bUp hcur hb
      clear hb
      refine hK.out _ _ ⟨k0, k1, k2, k3, k4, k5⟩ (fun _ => ?_)
      clear hK K
      refine wpAnyH_ready (rs := [5]) (by kernel_rfl) (by simp) ?_
      refine AllReadyH.cons rfl (fun K hK => ?_) AllReadyH.nil
      go_simp
      refine (HR.out _ (HT1.out.keep hcur) (HA1.out.keep hcur)).mono ?_
      rintro e v2 ⟨AR, cR, rfl, IR, NR, hb⟩
      replace k0 := cell_keep hb k0
      replace k1 := cell_keep hb k1
      replace k2 := cell_keep hb k2
      replace k3 := cell_keep hb k3
      replace k4 := cell_keep hb k4
      replace k5 := cell_keep hb k5
      replace IL := Lib.hid (IL.out.keep hb)
      replace hcur := bUp hcur hb
      clear hb
      refine hK.out _ _ ⟨k0, k1, k2, k3, k4, k5⟩ (fun hHeld => ?_)
      clear hK K
      refine wpAnyH_take (i := 6) (v := ?_) rfl (by kernel_rfl) (by kernel_rfl) (by kernel_rfl) (fun _ _ _ h => h) (Or.inl ⟨by kernel_rfl, ?_⟩) (by assumption) ?_
      rotate_left 1
      · intro w hSw
        (try dsimp only at hSw)
        go_simp
        (try with_reducible rfl)
      refine wpAnyH_take (i := 7) (v := ?_) rfl (by kernel_rfl) (by kernel_rfl) (by kernel_rfl) (fun _ _ _ h => h) (Or.inl ⟨by kernel_rfl, ?_⟩) (by assumption) ?_
      rotate_left 1
      · intro w hSw
        (try dsimp only at hSw)
        go_simp
        (try with_reducible rfl)
      clear hHeld
      refine wpAnyH_done (by kernel_rfl) ?_ _
      clear t1 t2 hp0 hp1 HL HR
      replace HT1 := Lib.hid (HT1.out.keep hcur)
      replace HA1 := Lib.hid (HA1.out.keep hcur)
      replace hbx1 := bUp hbx1 hcur
      clear hcur
      obtain ⟨bx, ox, rfl, -, hx0⟩ := IL.out.at_ (k := 0) (by rw [Hxl.out]; omega)
      obtain ⟨by_, oy, rfl, -, hy0⟩ := IR.out.at_ (k := l.length) (by rw [Hyl.out]; omega)
      rw [Hxf.out] at hx0
      rw [Hyf.out] at hy0
      have hx0 : v2.cell? ⟨bx, ox, none⟩ = some (.int .i64 0) := hx0
      obtain ⟨AX, hs2a, hs2b, -⟩ := sliceHi (some ⟨bx, ox, none⟩) xs cL (j + 1) (by rw [Hxl.out]; omega) NL.out.2 NL.out.1
      obtain ⟨AY, hs4a, hs4b, -⟩ := sliceLo (some ⟨by_, oy, none⟩) ys cR j (by rw [Hyl.out]; omega) NR.out.2 NR.out.1
      rw [show ((j + 1 : Nat) : Int) = (j : Int) + 1 by omega] at hs2a
      have hq1 : (xs.take (j + 1)).length ≤ 1000 := by rw [List.length_take, Hxl.out]; omega
      have hq2 : (ys.drop j).length ≤ 1000 := by rw [List.length_drop, Hyl.out]; omega
      rw [Hxl.out] at hs2a
      rw [Hyl.out] at hs4a
      have e2 : ((l.length : Int) + 1 == 0) = false := by rw [beq_eq_false_iff_ne]; omega
      have e4 : (0 : Int) < (l.length : Int) + 1 := by omega
      have e5 : (l.length : Int) < (l.length : Int) + 1 := by omega
      rw [Hxl.out, Hyl.out]
      have hw1 : IntKind.i64.wrap ((j : Int) + 1) = (j : Int) + 1 := IntWalk.i64_in _ (by omega)
      have hs1a := Hs1.out
      have hs3a := Hs3.out
      generalize l.take j = L1 at HL2 hs1a hs1b
      generalize l.drop j = L2 at HR2 hs3a hs3b
      generalize xs.take (j + 1) = X1 at HL2 hs2a hs2b hq1
      generalize ys.drop j = Y1 at HR2 hs4a hs4b hq2
      have Hq := Lib.hid (And.intro hq1 hq2)
      clear hq1 hq2 Hs1 Hs3 Hxl Hyl Hxf Hyf NL NR
      go_wp2_with fail
      obtain ⟨hq1, hq2⟩ := Hq.out
      clear Hq
      have hcur := (Below.refl v2.heap.size v2).drew
      replace IL := Lib.hid (IL.out.keep hcur)
      replace IR := Lib.hid (IR.out.keep hcur)
      refine wp_region_held_drew (S := fun (w' : World) => w'.cell? ⟨w.heap.size, 0, none⟩ = some (.slice a0 t.classes.length c0) ∧ w'.cell? ⟨w.heap.size, 1, none⟩ = some (.slice a1 t.actions.length c1) ∧ w'.cell? ⟨w.heap.size, 2, none⟩ = some (.slice a2 t.left.next.length c2) ∧ w'.cell? ⟨w.heap.size, 3, none⟩ = some (.slice a3 t.left.marks.length c3) ∧ w'.cell? ⟨w.heap.size, 4, none⟩ = some (.slice a4 t.right.next.length c4) ∧ w'.cell? ⟨w.heap.size, 5, none⟩ = some (.slice a5 t.right.marks.length c5) ∧ w'.cell? ⟨bx, ox, none⟩ = some (.int .i64 0) ∧ w'.cell? ⟨by_, oy + l.length, none⟩ = some (.int .i64 0)) (by kernel_rfl) ⟨k0, k1, k2, k3, k4, k5, hx0, hy0⟩ ?_
      intro hHeld
      refine wpAnyH_take (i := 0) (v := ?_) rfl (by kernel_rfl) (by kernel_rfl) (by kernel_rfl) (fun _ _ _ h => h) (Or.inl ⟨by kernel_rfl, ?_⟩) (by assumption) ?_
      rotate_left 1
      · intro w hSw
        (try dsimp only at hSw)
        go_simp
        (try with_reducible rfl)
      refine wpAnyH_take (i := 1) (v := ?_) rfl (by kernel_rfl) (by kernel_rfl) (by kernel_rfl) (fun _ _ _ h => h) (Or.inl ⟨by kernel_rfl, ?_⟩) (by assumption) ?_
      rotate_left 1
      · intro w hSw
        (try dsimp only at hSw)
        go_simp
        (try with_reducible rfl)
      refine wpAnyH_take (i := 2) (v := ?_) rfl (by kernel_rfl) (by kernel_rfl) (by kernel_rfl) (fun _ _ _ h => h) (Or.inl ⟨by kernel_rfl, ?_⟩) (by assumption) ?_
      rotate_left 1
      · intro w hSw
        (try dsimp only at hSw)
        go_simp
        (try with_reducible rfl)
      refine wpAnyH_take (i := 3) (v := ?_) rfl (by kernel_rfl) (by kernel_rfl) (by kernel_rfl) (fun _ _ _ h => h) (Or.inl ⟨by kernel_rfl, ?_⟩) (by assumption) ?_
      rotate_left 1
      · intro w hSw
        (try dsimp only at hSw)
        go_simp
        (try with_reducible rfl)
      refine wpAnyH_take (i := 5) (v := ?_) rfl (by kernel_rfl) (by kernel_rfl) (by kernel_rfl) (fun _ _ _ h => h) (Or.inl ⟨by kernel_rfl, ?_⟩) (by assumption) ?_
      rotate_left 1
      · intro w hSw
        (try dsimp only at hSw)
        go_simp
        (try with_reducible rfl)
      refine wpAnyH_take (i := 6) (v := ?_) rfl (by kernel_rfl) (by kernel_rfl) (by kernel_rfl) (fun _ _ _ h => h) (Or.inl ⟨by kernel_rfl, ?_⟩) (by assumption) ?_
      rotate_left 1
      · intro w hSw
        (try dsimp only at hSw)
        go_simp
        (try with_reducible rfl)
      refine wpAnyH_take (i := 7) (v := ?_) rfl (by kernel_rfl) (by kernel_rfl) (by kernel_rfl) (fun _ _ _ h => h) (Or.inl ⟨by kernel_rfl, ?_⟩) (by assumption) ?_
      rotate_left 1
      · intro w hSw
        (try dsimp only at hSw)
        go_simp
        (try with_reducible rfl)
      refine wpAnyH_take (i := 8) (v := ?_) rfl (by kernel_rfl) (by kernel_rfl) (by kernel_rfl) (fun _ _ _ h => h) (Or.inl ⟨by kernel_rfl, ?_⟩) (by assumption) ?_
      rotate_left 1
      · intro w hSw
        (try dsimp only at hSw)
        go_simp
        (try with_reducible rfl)
      clear hHeld
      refine wpAnyH_ready (rs := [4]) (by kernel_rfl) (by simp) ?_
      refine AllReadyH.cons rfl (fun K hK => ?_) AllReadyH.nil
      go_simp
      refine (HL2.out _ (HT1.out.keep hcur) (hs1b _ (HA1.out.keep hcur))).mono ?_
      rintro e v21 ⟨A4, c4', rfl, I4, -, hb⟩
      replace k0 := cell_keep hb k0
      replace k1 := cell_keep hb k1
      replace k2 := cell_keep hb k2
      replace k3 := cell_keep hb k3
      replace k4 := cell_keep hb k4
      replace k5 := cell_keep hb k5
      replace hx0 := cell_keep hb hx0
      replace hy0 := cell_keep hb hy0
      replace IL := Lib.hid (IL.out.keep hb)
      replace IR := Lib.hid (IR.out.keep hb)
      replace hcur := bUp hcur hb
      clear hb
      refine hK.out _ _ ⟨k0, k1, k2, k3, k4, k5, hx0, hy0⟩ (fun _ => ?_)
      clear hK K
      refine wpAnyH_ready (rs := [9]) (by kernel_rfl) (by simp) ?_
      refine AllReadyH.cons rfl (fun K hK => ?_) AllReadyH.nil
      go_simp
      refine (eqSame X1 hq1 A4 AX c4' cL _ I4.out (hs2b _ IL.out)).mono ?_
      rintro e v22 ⟨rfl, hb⟩
      replace k0 := cell_keep hb k0
      replace k1 := cell_keep hb k1
      replace k2 := cell_keep hb k2
      replace k3 := cell_keep hb k3
      replace k4 := cell_keep hb k4
      replace k5 := cell_keep hb k5
      replace hx0 := cell_keep hb hx0
      replace hy0 := cell_keep hb hy0
      replace IL := Lib.hid (IL.out.keep hb)
      replace IR := Lib.hid (IR.out.keep hb)
      replace I4 := Lib.hid (I4.out.keep hb)
      replace hcur := bUp hcur hb
      clear hb
      refine hK.out _ _ ⟨k0, k1, k2, k3, k4, k5, hx0, hy0⟩ (fun hHeld => ?_)
      clear hK K
      refine wpAnyH_take (i := 10) (v := ?_) rfl (by kernel_rfl) (by kernel_rfl) (by kernel_rfl) (fun _ _ _ h => h) (Or.inl ⟨by kernel_rfl, ?_⟩) (by assumption) ?_
      rotate_left 1
      · intro w hSw
        (try dsimp only at hSw)
        go_simp
        (try with_reducible rfl)
      refine wpAnyH_take (i := 11) (v := ?_) rfl (by kernel_rfl) (by kernel_rfl) (by kernel_rfl) (fun _ _ _ h => h) (Or.inl ⟨by kernel_rfl, ?_⟩) (by assumption) ?_
      rotate_left 1
      · intro w hSw
        (try dsimp only at hSw)
        go_simp
        (try with_reducible rfl)
      refine wpAnyH_take (i := 12) (v := ?_) rfl (by kernel_rfl) (by kernel_rfl) (by kernel_rfl) (fun _ _ _ h => h) (Or.inl ⟨by kernel_rfl, ?_⟩) (by assumption) ?_
      rotate_left 1
      · intro w hSw
        (try dsimp only at hSw)
        go_simp
        (try with_reducible rfl)
      refine wpAnyH_take (i := 13) (v := ?_) rfl (by kernel_rfl) (by kernel_rfl) (by kernel_rfl) (fun _ _ _ h => h) (Or.inl ⟨by kernel_rfl, ?_⟩) (by assumption) ?_
      rotate_left 1
      · intro w hSw
        (try dsimp only at hSw)
        go_simp
        (try with_reducible rfl)
      refine wpAnyH_take (i := 14) (v := ?_) rfl (by kernel_rfl) (by kernel_rfl) (by kernel_rfl) (fun _ _ _ h => h) (Or.inl ⟨by kernel_rfl, ?_⟩) (by assumption) ?_
      rotate_left 1
      · intro w hSw
        (try dsimp only at hSw)
        go_simp
        (try with_reducible rfl)
      refine wpAnyH_take (i := 16) (v := ?_) rfl (by kernel_rfl) (by kernel_rfl) (by kernel_rfl) (fun _ _ _ h => h) (Or.inl ⟨by kernel_rfl, ?_⟩) (by assumption) ?_
      rotate_left 1
      · intro w hSw
        (try dsimp only at hSw)
        go_simp
        (try with_reducible rfl)
      refine wpAnyH_take (i := 17) (v := ?_) rfl (by kernel_rfl) (by kernel_rfl) (by kernel_rfl) (fun _ _ _ h => h) (Or.inl ⟨by kernel_rfl, ?_⟩) (by assumption) ?_
      rotate_left 1
      · intro w hSw
        (try dsimp only at hSw)
        go_simp
        (try with_reducible rfl)
      refine wpAnyH_take (i := 18) (v := ?_) rfl (by kernel_rfl) (by kernel_rfl) (by kernel_rfl) (fun _ _ _ h => h) (Or.inl ⟨by kernel_rfl, ?_⟩) (by assumption) ?_
      rotate_left 1
      · intro w hSw
        (try dsimp only at hSw)
        go_simp
        (try with_reducible rfl)
      clear hHeld
      refine wpAnyH_ready (rs := [15]) (by kernel_rfl) (by simp) ?_
      refine AllReadyH.cons rfl (fun K hK => ?_) AllReadyH.nil
      go_simp
      refine (HR2.out _ (HT1.out.keep hcur) (hs3b _ (HA1.out.keep hcur))).mono ?_
      rintro e v23 ⟨A5, c5', rfl, I5, -, hb⟩
      replace k0 := cell_keep hb k0
      replace k1 := cell_keep hb k1
      replace k2 := cell_keep hb k2
      replace k3 := cell_keep hb k3
      replace k4 := cell_keep hb k4
      replace k5 := cell_keep hb k5
      replace hx0 := cell_keep hb hx0
      replace hy0 := cell_keep hb hy0
      replace IL := Lib.hid (IL.out.keep hb)
      replace IR := Lib.hid (IR.out.keep hb)
      replace I4 := Lib.hid (I4.out.keep hb)
      replace hcur := bUp hcur hb
      clear hb
      refine hK.out _ _ ⟨k0, k1, k2, k3, k4, k5, hx0, hy0⟩ (fun _ => ?_)
      clear hK K
      refine wpAnyH_ready (rs := [19]) (by kernel_rfl) (by simp) ?_
      refine AllReadyH.cons rfl (fun K hK => ?_) AllReadyH.nil
      go_simp
      refine (eqSame Y1 hq2 A5 AY c5' (cR - j) _ I5.out (hs4b _ IR.out)).mono ?_
      rintro e v24 ⟨rfl, hb⟩
      replace k0 := cell_keep hb k0
      replace k1 := cell_keep hb k1
      replace k2 := cell_keep hb k2
      replace k3 := cell_keep hb k3
      replace k4 := cell_keep hb k4
      replace k5 := cell_keep hb k5
      replace hx0 := cell_keep hb hx0
      replace hy0 := cell_keep hb hy0
      replace IL := Lib.hid (IL.out.keep hb)
      replace IR := Lib.hid (IR.out.keep hb)
      replace I4 := Lib.hid (I4.out.keep hb)
      replace I5 := Lib.hid (I5.out.keep hb)
      replace hcur := bUp hcur hb
      clear hb
      refine hK.out _ _ ⟨k0, k1, k2, k3, k4, k5, hx0, hy0⟩ (fun hHeld => ?_)
      clear hK K
      refine wpAnyH_take (i := 20) (v := ?_) rfl (by kernel_rfl) (by kernel_rfl) (by kernel_rfl) (fun _ _ _ h => h) (Or.inl ⟨by kernel_rfl, ?_⟩) (by assumption) ?_
      rotate_left 1
      · intro w hSw
        (try dsimp only at hSw)
        go_simp
        (try with_reducible rfl)
      refine wpAnyH_take (i := 21) (v := ?_) rfl (by kernel_rfl) (by kernel_rfl) (by kernel_rfl) (fun _ _ _ h => h) (Or.inl ⟨by kernel_rfl, ?_⟩) (by assumption) ?_
      rotate_left 1
      · intro w hSw
        (try dsimp only at hSw)
        go_simp
        (try with_reducible rfl)
      refine wpAnyH_take (i := 22) (v := ?_) rfl (by kernel_rfl) (by kernel_rfl) (by kernel_rfl) (fun _ _ _ h => h) (Or.inl ⟨by kernel_rfl, ?_⟩) (by assumption) ?_
      rotate_left 1
      · intro w hSw
        (try dsimp only at hSw)
        go_simp
        (try with_reducible rfl)
      refine wpAnyH_take (i := 23) (v := ?_) rfl (by kernel_rfl) (by kernel_rfl) (by kernel_rfl) (fun _ _ _ h => h) (Or.inl ⟨by kernel_rfl, ?_⟩) (by assumption) ?_
      rotate_left 1
      · intro w hSw
        (try dsimp only at hSw)
        go_simp
        (try with_reducible rfl)
      refine wpAnyH_take (i := 24) (v := ?_) rfl (by kernel_rfl) (by kernel_rfl) (by kernel_rfl) (fun _ _ _ h => h) (Or.inl ⟨by kernel_rfl, ?_⟩) (by assumption) ?_
      rotate_left 1
      · intro w hSw
        (try dsimp only at hSw)
        go_simp
        (try with_reducible rfl)
      refine wpAnyH_take (i := 25) (v := ?_) rfl (by kernel_rfl) (by kernel_rfl) (by kernel_rfl) (fun _ _ _ h => h) (Or.inl ⟨by kernel_rfl, ?_⟩) (by assumption) ?_
      rotate_left 1
      · intro w hSw
        (try dsimp only at hSw)
        go_simp
        (try with_reducible rfl)
      refine wpAnyH_take (i := 26) (v := ?_) rfl (by kernel_rfl) (by kernel_rfl) (by kernel_rfl) (fun _ _ _ h => h) (Or.inl ⟨by kernel_rfl, ?_⟩) (by assumption) ?_
      rotate_left 1
      · intro w hSw
        (try dsimp only at hSw)
        go_simp
        (try with_reducible rfl)
      refine wpAnyH_take (i := 27) (v := ?_) rfl (by kernel_rfl) (by kernel_rfl) (by kernel_rfl) (fun _ _ _ h => h) (Or.inl ⟨by kernel_rfl, ?_⟩) (by assumption) ?_
      rotate_left 1
      · intro w hSw
        (try dsimp only at hSw)
        go_simp
        (try with_reducible rfl)
      refine wpAnyH_take (i := 28) (v := ?_) rfl (by kernel_rfl) (by kernel_rfl) (by kernel_rfl) (fun _ _ _ h => h) (Or.inl ⟨by kernel_rfl, ?_⟩) (by assumption) ?_
      rotate_left 1
      · intro w hSw
        (try dsimp only at hSw)
        go_simp
        (try with_reducible rfl)
      refine wpAnyH_take (i := 29) (v := ?_) rfl (by kernel_rfl) (by kernel_rfl) (by kernel_rfl) (fun _ _ _ h => h) (Or.inl ⟨by kernel_rfl, ?_⟩) (by assumption) ?_
      rotate_left 1
      · intro w hSw
        (try dsimp only at hSw)
        go_simp
        (try with_reducible rfl)
      refine wpAnyH_take (i := 30) (v := ?_) rfl (by kernel_rfl) (by kernel_rfl) (by kernel_rfl) (fun _ _ _ h => h) (Or.inl ⟨by kernel_rfl, ?_⟩) (by assumption) ?_
      rotate_left 1
      · intro w hSw
        (try dsimp only at hSw)
        go_simp
        (try with_reducible rfl)
      refine wpAnyH_take (i := 31) (v := ?_) rfl (by kernel_rfl) (by kernel_rfl) (by kernel_rfl) (fun _ _ _ h => h) (Or.inl ⟨by kernel_rfl, ?_⟩) (by assumption) ?_
      rotate_left 1
      · intro w hSw
        (try dsimp only at hSw)
        go_simp
        (try with_reducible rfl)
      refine wpAnyH_take (i := 32) (v := ?_) rfl (by kernel_rfl) (by kernel_rfl) (by kernel_rfl) (fun _ _ _ h => h) (Or.inl ⟨by kernel_rfl, ?_⟩) (by assumption) ?_
      rotate_left 1
      · intro w hSw
        (try dsimp only at hSw)
        go_simp
        (try with_reducible rfl)
      refine wpAnyH_take (i := 33) (v := ?_) rfl (by kernel_rfl) (by kernel_rfl) (by kernel_rfl) (fun _ _ _ h => h) (Or.inl ⟨by kernel_rfl, ?_⟩) (by assumption) ?_
      rotate_left 1
      · intro w hSw
        (try dsimp only at hSw)
        go_simp
        (try with_reducible rfl)
      refine wpAnyH_take (i := 34) (v := ?_) rfl (by kernel_rfl) (by kernel_rfl) (by kernel_rfl) (fun _ _ _ h => h) (Or.inl ⟨by kernel_rfl, ?_⟩) (by assumption) ?_
      rotate_left 1
      · intro w hSw
        (try dsimp only at hSw)
        go_simp
        (try with_reducible rfl)
      refine wpAnyH_take (i := 35) (v := ?_) rfl (by kernel_rfl) (by kernel_rfl) (by kernel_rfl) (fun _ _ _ h => h) (Or.inl ⟨by kernel_rfl, ?_⟩) (by assumption) ?_
      rotate_left 1
      · intro w hSw
        (try dsimp only at hSw)
        go_simp
        (try with_reducible rfl)
      clear hHeld
      refine wpAnyH_ready (rs := [36]) (by kernel_rfl) (by simp) ?_
      refine AllReadyH.cons rfl (fun K hK => ?_) AllReadyH.nil
      go_simp
      refine (alive _ (HE.out.keep (bUp hbx1 hcur))).mono ?_
      rintro e v25 ⟨rfl, hb⟩
      replace k0 := cell_keep hb k0
      replace k1 := cell_keep hb k1
      replace k2 := cell_keep hb k2
      replace k3 := cell_keep hb k3
      replace k4 := cell_keep hb k4
      replace k5 := cell_keep hb k5
      replace hx0 := cell_keep hb hx0
      replace hy0 := cell_keep hb hy0
      replace IL := Lib.hid (IL.out.keep hb)
      replace IR := Lib.hid (IR.out.keep hb)
      replace I4 := Lib.hid (I4.out.keep hb)
      replace I5 := Lib.hid (I5.out.keep hb)
      replace hcur := bUp hcur hb
      clear hb
      refine hK.out _ _ ⟨k0, k1, k2, k3, k4, k5, hx0, hy0⟩ (fun hHeld => ?_)
      clear hK K
      refine wpAnyH_take (i := 37) (v := ?_) rfl (by kernel_rfl) (by kernel_rfl) (by kernel_rfl) (fun _ _ _ h => h) (Or.inl ⟨by kernel_rfl, ?_⟩) (by assumption) ?_
      rotate_left 1
      · intro w hSw
        (try dsimp only at hSw)
        go_simp
        (try with_reducible rfl)
      refine wpAnyH_take (i := 38) (v := ?_) rfl (by kernel_rfl) (by kernel_rfl) (by kernel_rfl) (fun _ _ _ h => h) (Or.inl ⟨by kernel_rfl, ?_⟩) (by assumption) ?_
      rotate_left 1
      · intro w hSw
        (try dsimp only at hSw)
        go_simp
        (try with_reducible rfl)
      clear hHeld
      refine wpAnyH_done (by kernel_rfl) ?_ _
      clear k0 k1 k2 k3 k4 k5 hx0 hy0
      have hbz := bUp hbx1 hcur
      go_wp2_with fail
      go_ret
      exact ⟨rfl, hbz⟩
end Go.Proofs.YtlmdjggpeiddoaaDoor
