/- The reference: form, Parse of elements; the law of Parse -/
import Derived.Test.YthogkokifiibnaaGreatDoorR3
namespace Go.Proofs.YthogkokifiibnaaGreatDoor
open Go.RowKit Go.Sort

theorem seg_drop (l : List UInt8) (i : Nat) : seg l i (i + 17) = (l.drop i).take 17 := by
  unfold seg
  rw [show i + 17 - i = 17 by omega]
theorem guess_bool (t : List UInt8) (ht : t.length = 17) : (byteE t 1 == 42) = ((btN t 1 : Int) == 42) := by
  have e : (t.take 17) = t := List.take_of_length_le (by omega)
  have h := byte_eq (l := t) (k := 1) (by omega) 42
  rw [e] at h
  rw [Bool.eq_iff_iff, beq_iff_eq, beq_iff_eq, h]
  have : (42 : UInt8).toNat = 42 := rfl
  omega

theorem box_new (w7 : World) {wr : World} (x1 x2 x3 : Int) (vb : Bool) (h : Below wr.heap.size wr w7) : Blk (w7.alloc (.cells #[.int .i64 x1, .int .i64 x2, .int .i64 x3, .bool vb] 45)) w7.heap.size #[.int .i64 x1, .int .i64 x2, .int .i64 x3, .bool vb] 45 ∧ Below wr.heap.size wr (w7.alloc (.cells #[.int .i64 x1, .int .i64 x2, .int .i64 x3, .bool vb] 45)) :=
  ⟨Blk.new _ _ _, bUp h (bBox _ _)⟩
theorem box_put {w7 wr : World} {bx : Nat} (hbx : Blk w7 bx #[.int .i64 0, .int .i64 0, .int .i64 0, .bool false] 45) (x1 x2 x3 : Int) (vb : Bool) (h : Below wr.heap.size wr w7) (hge : wr.heap.size ≤ bx) :
    Blk ((((w7.setCell ⟨bx, 0, none⟩ (.int .i64 x1)).setCell ⟨bx, 1, none⟩ (.int .i64 x2)).setCell ⟨bx, 2, none⟩ (.int .i64 x3)).setCell ⟨bx, 3, none⟩ (.bool vb)) bx #[.int .i64 x1, .int .i64 x2, .int .i64 x3, .bool vb] 45 ∧ Below wr.heap.size wr ((((w7.setCell ⟨bx, 0, none⟩ (.int .i64 x1)).setCell ⟨bx, 1, none⟩ (.int .i64 x2)).setCell ⟨bx, 2, none⟩ (.int .i64 x3)).setCell ⟨bx, 3, none⟩ (.bool vb)) :=
  ⟨(((hbx.put 0 (.int .i64 x1)).put 1 (.int .i64 x2)).put 2 (.int .i64 x3)).put 3 (.bool vb), (((h.setCell (p := ⟨bx, 0, none⟩) hge _).setCell (p := ⟨bx, 1, none⟩) hge _).setCell (p := ⟨bx, 2, none⟩) hge _).setCell (p := ⟨bx, 3, none⟩) hge _⟩

set_option maxHeartbeats 8000000 in
set_option maxRecDepth 100000 in
theorem rfForm (l : List UInt8) (w : World) (hl : l.length ≤ 65536) :
    Calls Tryz.prog 24 #[.string ⟨l.toArray⟩] w fun e w' => ReadOut w' w.heap.size l e ∧ Below w.heap.size w w' := by
  go_enter Tryz.func24, Tryz.ntmps24
  go_wp2_with fail
  go_loopw [4, 5] (fun v n wr => ∃ (i : Nat) (acc : List ElemD), i ≤ l.length ∧ n = .int .i64 i ∧ acc.length ≤ i ∧ Hid (OwnE wr w.heap.size v acc) ∧ Hid (readE l = (readE (l.drop i)).map (acc ++ ·)) ∧ Below w.heap.size w wr) (fun _ n _ => l.length - (intOf n).toNat)
  case atStart => exact ⟨0, [], Nat.zero_le _, rfl, by simp, Lib.hid (OwnE.nil _ _), Lib.hid (by rw [List.drop_zero]; cases readE l <;> simp), Below.refl _ _⟩
  case round =>
    obtain ⟨i, acc, hi, rfl, hacl, HO, HR, hbr⟩ := hrel
    have hsz := hbr.size
    by_cases hlt : i < l.length
    · have hli : (i : Int) < l.length := by omega
      by_cases h17 : i + 17 ≤ l.length
      · have hg1 : decide ((l.length : Int) < (i : Int) + 17) = false := by simp; omega
        have hrest : 17 ≤ (l.drop i).length := by simp; omega
        have ht17 : (seg l i (i + 17)).length = 17 := by rw [seg_length (by omega)]; omega
        have hsd := seg_drop l i
        have g0 : ∀ w', (Instr.slice 9 (.string ⟨l.toArray⟩) (some (.int .i64 i)) (some (.int .i64 ((i : Int) + 17))) none).run Tryz.prog w' = .ok (.string ⟨(seg l i (i + 17)).toArray⟩) w' := fun w' => by
          have := strSeg l (j := i) (k := i + 17) (by omega) (by omega) w'
          rwa [show ((i + 17 : Nat) : Int) = (i : Int) + 17 by omega] at this
        have hbadH := fun he => read_bad HR.out hrest (by rw [← hsd]; exact he)
        have hgoodH := fun d he => read_good (d := d) HR.out hrest (by rw [← hsd]; exact he)
        have hET := elemT_eq ht17
        generalize seg l i (i + 17) = t at g0 ht17 hbadH hgoodH hET
        have hgb := guess_bool t ht17
        have g1 : ∀ w', (Instr.slice 9 (.string ⟨t.toArray⟩) (some (.int .i64 2)) (some (.int .i64 6)) none).run Tryz.prog w' = .ok (.string ⟨(seg t 2 6).toArray⟩) w' := fun w' => strSeg t (j := 2) (k := 6) (by omega) (by omega) w'
        have g2 : ∀ w', (Instr.slice 9 (.string ⟨t.toArray⟩) (some (.int .i64 7)) (some (.int .i64 11)) none).run Tryz.prog w' = .ok (.string ⟨(seg t 7 11).toArray⟩) w' := fun w' => strSeg t (j := 7) (k := 11) (by omega) (by omega) w'
        have g3 : ∀ w', (Instr.slice 9 (.string ⟨t.toArray⟩) (some (.int .i64 12)) (some (.int .i64 16)) none).run Tryz.prog w' = .ok (.string ⟨(seg t 12 16).toArray⟩) w' := fun w' => strSeg t (j := 12) (k := 16) (by omega) (by omega) w'
        have l1 : (seg t 2 6).length = 4 := by rw [seg_length (by omega)]
        have l2 : (seg t 7 11).length = 4 := by rw [seg_length (by omega)]
        have l3 : (seg t 12 16).length = 4 := by rw [seg_length (by omega)]
        have hgs : guessE t = ⟨hexR (seg t 2 6) 0, hexR (seg t 7 11) 0, hexR (seg t 12 16) 0, (btN t 1 : Int) == 42⟩ := by unfold guessE; rw [hgb]
        rw [hgs] at hET
        have r1 := hexR_four l1
        have r2 := hexR_four l2
        have r3 := hexR_four l3
        have H1 := Lib.hid (fun w' => rfHexV (seg t 2 6) w' (by omega))
        have H2 := Lib.hid (fun w' => rfHexV (seg t 7 11) w' (by omega))
        have H3 := Lib.hid (fun w' => rfHexV (seg t 12 16) w' (by omega))
        generalize hexR (seg t 2 6) 0 = x1 at H1 hET r1
        generalize hexR (seg t 7 11) 0 = x2 at H2 hET r2
        generalize hexR (seg t 12 16) 0 = x3 at H3 hET r3
        generalize seg t 2 6 = a1 at g1 H1 l1
        generalize seg t 7 11 = a2 at g2 H2 l2
        generalize seg t 12 16 = a3 at g3 H3 l3
        have i1 : (1 : Int) < t.length := by omega
        have hbt := btN_lt t 1
        have hvb : ∃ vb : Bool, ((btN t 1 : Int) == 42) = vb := ⟨_, rfl⟩
        obtain ⟨vb, hvb⟩ := hvb
        rw [hvb] at hET
        have HOn := Lib.hid (fun w' => rfOne ⟨x1, x2, x3, vb⟩ w' ⟨r1, r2, r3⟩)
        have htl : t.length ≤ 17 := by omega
        have hacc : Below wr.heap.size wr wr.drew := (Below.refl _ _).drew
        obtain ⟨Av, cv, rfl, _⟩ := HO.out.form
        by_cases hq : oneE ⟨x1, x2, x3, vb⟩ = t
        · rw [if_pos hq] at hET
          have HR2 := Lib.hid (hgoodH _ hET)
          rw [hq] at HOn
          dsimp only at HOn
          have q1 : (t == t) = true := by simp
          have hdd : (l.drop i).drop 17 = l.drop (i + 17) := by rw [List.drop_drop]
          rw [hdd] at HR2
          have HET := Lib.hid hET
          have Hgs := Lib.hid hgs
          have Hgb := Lib.hid hgb
          have Hq := Lib.hid hq
          have L1 := Lib.hid l1
          have L2 := Lib.hid l2
          have L3 := Lib.hid l3
          have R1 := Lib.hid r1
          have R2 := Lib.hid r2
          have R3 := Lib.hid r3
          have Ht17 := Lib.hid ht17
          have Hsd := Lib.hid hsd
          have Hrest := Lib.hid hrest
          have Hdd := Lib.hid hdd
          clear hET hgs hgb hq l1 l2 l3 r1 r2 r3 ht17 hsd hrest hdd
          clear hbadH hgoodH
          go_wp2_with fail
          go_region_law (go_simp; (first | (with_reducible refine (H1.out _).mono ?_) | (with_reducible refine (H2.out _).mono ?_) | (with_reducible refine (H3.out _).mono ?_)); rintro e w7 ⟨rfl, hb7⟩; (first | (replace hbx := hbx.keep hb7; replace hacc := bUp hacc hb7; clear hb7; replace y0 := hbx.cell 0; replace y1 := hbx.cell 1; replace y2 := hbx.cell 2; replace y3 := hbx.cell 3; replace z0 := hbx.frozen 0; replace z1 := hbx.frozen 1; replace z2 := hbx.frozen 2; replace z3 := hbx.frozen 3) | (replace hacc := bUp hacc hb7; clear hb7) | (have hbx := (Blk.new _ #[.int .i64 0, .int .i64 0, .int .i64 0, .bool false] 45).keep hb7; have hge := hacc.size; replace hacc := bUp (bUp hacc (bBox _ _)) hb7; clear hb7; have y0 := hbx.cell 0; have y1 := hbx.cell 1; have y2 := hbx.cell 2; have y3 := hbx.cell 3; have z0 := hbx.frozen 0; have z1 := hbx.frozen 1; have z2 := hbx.frozen 2; have z3 := hbx.frozen 3) | (have hbx := ((Blk.new wr #[.int .i64 0, .int .i64 0, .int .i64 0, .bool false] 45).keep (Below.refl _ _).drew).keep hb7; have hge := Nat.le_refl wr.heap.size; replace hacc := bUp (bBox wr _).drew hb7; clear hb7; have y0 := hbx.cell 0; have y1 := hbx.cell 1; have y2 := hbx.cell 2; have y3 := hbx.cell 3; have z0 := hbx.frozen 0; have z1 := hbx.frozen 1; have z2 := hbx.frozen 2; have z3 := hbx.frozen 3)))
          all_goals
            first
              | (have hB7 := (box_put hbx x1 x2 x3 vb hacc hge); clear hbx hge)
              | have hB7 := box_new w7 x1 x2 x3 vb hacc
            have HB7 := Lib.hid hB7
            clear hB7
            go_wp2_with fail
            refine (HOn.out _).mono ?_
            rintro e w8 ⟨rfl, hb8⟩
            have hBx := HB7.out.1.keep hb8
            have p0 := hBx.cell 0
            have p1 := hBx.cell 1
            have p2 := hBx.cell 2
            have p3 := hBx.cell 3
            have hw8 := bUp HB7.out.2 hb8
            have hsz8 := hw8.size
            clear hBx hb8 hacc
            go_wp2_with (at_builtin; refine wpE rfl _ _ rfl w.heap.size rfl (HO.out.keep hw8) ⟨x1, x2, x3, vb⟩ rfl ?hl6 ?hb6 ?_)
            case hl6 => omega
            case hb6 => omega
            intro v' w9 HO9 hb9
            have hb09 := hb9 w (bUp hbr hw8)
            have hl7 : (acc ++ [(⟨x1, x2, x3, vb⟩ : ElemD)]).length ≤ i + 17 := by simp; omega
            generalize acc ++ [(⟨x1, x2, x3, vb⟩ : ElemD)] = acc2 at HO9 HR2 hl7
            clear hb9
            go_wp2_with fail
            go_roundw
            case rel => exact ⟨i + 17, acc2, by omega, by go_num, hl7, HO9, HR2, hb09⟩
            case measure => simp [intOf]; omega
        · rw [if_neg hq] at hET
          have HN := Lib.hid (hbadH hET)
          have hol := oneE_length ⟨x1, x2, x3, vb⟩
          have q1 : (oneE ⟨x1, x2, x3, vb⟩ == t) = false := by simp [hq]
          generalize oneE ⟨x1, x2, x3, vb⟩ = od at HOn q1 hol hq
          dsimp only at HOn
          have HET := Lib.hid hET
          have Hgs := Lib.hid hgs
          have Hgb := Lib.hid hgb
          have Hq := Lib.hid hq
          have L1 := Lib.hid l1
          have L2 := Lib.hid l2
          have L3 := Lib.hid l3
          have R1 := Lib.hid r1
          have R2 := Lib.hid r2
          have R3 := Lib.hid r3
          have Ht17 := Lib.hid ht17
          have Hsd := Lib.hid hsd
          have Hrest := Lib.hid hrest
          have Hol := Lib.hid hol
          clear hET hgs hgb hq l1 l2 l3 r1 r2 r3 ht17 hsd hrest hol
          clear hbadH hgoodH
          go_wp2_with fail
          go_region_law (go_simp; (first | (with_reducible refine (H1.out _).mono ?_) | (with_reducible refine (H2.out _).mono ?_) | (with_reducible refine (H3.out _).mono ?_)); rintro e w7 ⟨rfl, hb7⟩; (first | (replace hbx := hbx.keep hb7; replace hacc := bUp hacc hb7; clear hb7; replace y0 := hbx.cell 0; replace y1 := hbx.cell 1; replace y2 := hbx.cell 2; replace y3 := hbx.cell 3; replace z0 := hbx.frozen 0; replace z1 := hbx.frozen 1; replace z2 := hbx.frozen 2; replace z3 := hbx.frozen 3) | (replace hacc := bUp hacc hb7; clear hb7) | (have hbx := (Blk.new _ #[.int .i64 0, .int .i64 0, .int .i64 0, .bool false] 45).keep hb7; have hge := hacc.size; replace hacc := bUp (bUp hacc (bBox _ _)) hb7; clear hb7; have y0 := hbx.cell 0; have y1 := hbx.cell 1; have y2 := hbx.cell 2; have y3 := hbx.cell 3; have z0 := hbx.frozen 0; have z1 := hbx.frozen 1; have z2 := hbx.frozen 2; have z3 := hbx.frozen 3) | (have hbx := ((Blk.new wr #[.int .i64 0, .int .i64 0, .int .i64 0, .bool false] 45).keep (Below.refl _ _).drew).keep hb7; have hge := Nat.le_refl wr.heap.size; replace hacc := bUp (bBox wr _).drew hb7; clear hb7; have y0 := hbx.cell 0; have y1 := hbx.cell 1; have y2 := hbx.cell 2; have y3 := hbx.cell 3; have z0 := hbx.frozen 0; have z1 := hbx.frozen 1; have z2 := hbx.frozen 2; have z3 := hbx.frozen 3)))
          all_goals
            first
              | (have hB7 := (box_put hbx x1 x2 x3 vb hacc hge); clear hbx hge)
              | have hB7 := box_new w7 x1 x2 x3 vb hacc
            have HB7 := Lib.hid hB7
            clear hB7
            go_wp2_with fail
            refine (HOn.out _).mono ?_
            rintro e w8 ⟨rfl, hb8⟩
            have hw8 := bUp HB7.out.2 hb8
            clear hb8 hacc
            go_wp2_with fail
            go_ret2
            exact ⟨by unfold ReadOut; rw [HN.out]; rfl, bUp hbr hw8⟩
      · have hg1 : decide ((l.length : Int) < (i : Int) + 17) = true := by simp; omega
        have HN := Lib.hid (show readE l = none by rw [HR.out, readE_short (fun e => by have := congrArg List.length e; simp at this; omega) (by simp; omega)]; rfl)
        go_wp2_with fail
        go_ret2
        exact ⟨by unfold ReadOut; rw [HN.out]; rfl, hbr⟩
    · obtain rfl : i = l.length := by omega
      have hli : ¬ (l.length : Int) < l.length := by omega
      obtain ⟨Av, cv, rfl, _⟩ := HO.out.form
      have HF := Lib.hid (show readE l = some acc by rw [HR.out, List.drop_eq_nil_of_le (Nat.le_refl _), readE_nil]; simp)
      go_wp2_with fail
      go_ret2
      exact ⟨by unfold ReadOut; rw [HF.out]; exact ⟨Av, cv, rfl, HO.out⟩, hbr⟩
end Go.Proofs.YthogkokifiibnaaGreatDoor
