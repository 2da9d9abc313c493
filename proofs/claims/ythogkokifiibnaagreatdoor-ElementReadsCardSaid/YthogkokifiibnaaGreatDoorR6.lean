/- The reference: Same on equal collations -/
import Derived.Test.YthogkokifiibnaaGreatDoorR2
import Derived.Deep.RegionHeld3
namespace Go.Proofs.YthogkokifiibnaaGreatDoor
open Go.RowKit Go.Sort

theorem blk_at {w : World} {b : Nat} {cs : Array Value} {t : TypeId} (h : Blk w b cs t) (i : Nat) {v : Value} (hv : cs[i]? = some v) : w.cell? ⟨b, i, none⟩ = some v := (h.cell i).trans hv
set_option maxHeartbeats 4000000 in
set_option maxRecDepth 100000 in
theorem rfSame (es : List EntryD) (gs : List GroupD) (b s t : Int) (AE AG BE BG : Option Addr) (cE cG dE dG : Nat) (w : World) (hN : EntsAt w AE es) (hG : GroupsAt w AG gs) (hM : EntsAt w BE es) (hH : GroupsAt w BG gs) (hne : es.length ≤ 100000) (hng : gs.length ≤ 100000) (hcl : ∀ e ∈ es, e.codes.length ≤ 100000) (hll : ∀ e ∈ es, e.els.length ≤ 100000) :
    Calls Tryz.prog 21 #[.agg #[.slice AE es.length cE, .slice AG gs.length cG, .int .i64 b, .int .i64 s, .int .i64 t], .agg #[.slice BE es.length dE, .slice BG gs.length dG, .int .i64 b, .int .i64 s, .int .i64 t]] w fun e w' => e = .returned (.bool true) ∧ Below w.heap.size w w' := by
  have v1 : (b != b) = false := by simp
  have v2 : (s != s) = false := by simp
  have v3 : (t != t) = false := by simp
  have HN := Lib.hid hN
  have HG := Lib.hid hG
  have HM := Lib.hid hM
  have HH := Lib.hid hH
  have Hcl := Lib.hid hcl
  have Hll := Lib.hid hll
  clear hN hG hM hH hcl hll
  go_enter Tryz.func21, Tryz.ntmps21
  go_wp2_with fail
  have hA := (Blk.new w #[.slice AE es.length cE, .slice AG gs.length cG, .int .i64 b, .int .i64 s, .int .i64 t] 35).alloc (.cells #[.slice BE es.length dE, .slice BG gs.length dG, .int .i64 b, .int .i64 s, .int .i64 t] 35)
  have hB := Blk.new (w.alloc (.cells #[.slice AE es.length cE, .slice AG gs.length cG, .int .i64 b, .int .i64 s, .int .i64 t] 35)) #[.slice BE es.length dE, .slice BG gs.length dG, .int .i64 b, .int .i64 s, .int .i64 t] 35
  rw [show (w.alloc (.cells #[.slice AE es.length cE, .slice AG gs.length cG, .int .i64 b, .int .i64 s, .int .i64 t] 35)).heap.size = w.heap.size + 1 by simp] at hB
  have hw1 := bUp (bBox w (.cells #[.slice AE es.length cE, .slice AG gs.length cG, .int .i64 b, .int .i64 s, .int .i64 t] 35)) (bBox _ (.cells #[.slice BE es.length dE, .slice BG gs.length dG, .int .i64 b, .int .i64 s, .int .i64 t] 35))
  generalize (w.alloc (.cells #[.slice AE es.length cE, .slice AG gs.length cG, .int .i64 b, .int .i64 s, .int .i64 t] 35)).alloc (.cells #[.slice BE es.length dE, .slice BG gs.length dG, .int .i64 b, .int .i64 s, .int .i64 t] 35) = w1 at hA hB hw1 ⊢
  have HN1 := Lib.hid (HN.out.keep hw1)
  have HG1 := Lib.hid (HG.out.keep hw1)
  have HM1 := Lib.hid (HM.out.keep hw1)
  have HH1 := Lib.hid (HH.out.keep hw1)
  have HA := Lib.hid hA
  have HB := Lib.hid hB
  clear hA hB
  clear HN HG HM HH
  go_loopw [5] (fun i wr => ∃ k : Nat, k ≤ gs.length ∧ i = .int .i64 k ∧ Below w1.heap.size w1 wr) (fun i _ => gs.length - (intOf i).toNat)
  case atStart => exact ⟨0, Nat.zero_le _, rfl, Below.refl _ _⟩
  case round =>
    obtain ⟨k, hk, rfl, hbr⟩ := hrel
    have a1 : wr.cell? ⟨w.heap.size, 1, none⟩ = some (.slice AG gs.length cG) := (HA.out.keep hbr).cell 1
    have b1 : wr.cell? ⟨w.heap.size + 1, 1, none⟩ = some (.slice BG gs.length dG) := (HB.out.keep hbr).cell 1
    by_cases hlt : k < gs.length
    · obtain ⟨g1, o1, rfl, h1, p0, p1, p2⟩ := (HG1.out.keep hbr).at_ hlt
      obtain ⟨g2, o2, rfl, h2, q0, q1, q2⟩ := (HH1.out.keep hbr).at_ hlt
      have hki : (k : Int) < gs.length := by omega
      generalize groupAt gs k = d at p0 p1 p2 q0 q1 q2
      obtain ⟨nm, lo, hi⟩ := d
      dsimp only at p0 p1 p2 q0 q1 q2
      have r0 := cell_regrown p0
      have r1 := cell_regrown p1
      have r2 := cell_regrown p2
      have r3 := cell_regrown q0
      have r4 := cell_regrown q1
      have r5 := cell_regrown q2
      have r6 := cell_regrown a1
      have r7 := cell_regrown b1
      go_wp2_with fail
      refine wp_region_quiet_below (by kernel_rfl) (by kernel_rfl) ?_
      repeat (go_big_quiet_step (fail))
      refine wpQuiet_nil ?_
      rintro _ ⟨⟨dq, osq⟩, rfl⟩
      have hb2 := below_regrown wr dq osq
      generalize grow (redrawn wr dq) osq = w2 at hb2 ⊢
      go_wp2_with fail
      go_roundw
      case rel => exact ⟨k + 1, by omega, by go_num, bUp hbr hb2⟩
      case measure => simp [intOf]; omega
    · obtain rfl : k = gs.length := by omega
      have hki : ¬ (gs.length : Int) < gs.length := by omega
      go_wp2_with fail
      clear a1 b1
      go_loopw [6] (fun i wr => ∃ k : Nat, k ≤ es.length ∧ i = .int .i64 k ∧ Below w1.heap.size w1 wr) (fun i _ => es.length - (intOf i).toNat)
      case atStart => exact ⟨0, Nat.zero_le _, rfl, hbr⟩
      case round =>
        clear hbr
        obtain ⟨k, hk, rfl, hbr⟩ := hrel
        have a1 : wr.cell? ⟨w.heap.size, 0, none⟩ = some (.slice AE es.length cE) := (HA.out.keep hbr).cell 0
        have b1 : wr.cell? ⟨w.heap.size + 1, 0, none⟩ = some (.slice BE es.length dE) := (HB.out.keep hbr).cell 0
        by_cases hlt : k < es.length
        · obtain ⟨g1, o1, C1, c1, L1, e1, rfl, h1, p0, hI1, p1, hL1⟩ := (HN1.out.keep hbr).at_ hlt
          obtain ⟨g2, o2, C2, c2, L2, e2, rfl, h2, q0, hI2, q1, hL2⟩ := (HM1.out.keep hbr).at_ hlt
          have hki : (k : Int) < es.length := by omega
          have hm1 := Hcl.out _ (entAt_mem hlt)
          have hm2 := Hll.out _ (entAt_mem hlt)
          generalize entAt es k = d at p0 p1 q0 q1 hI1 hI2 hL1 hL2 hm1 hm2
          obtain ⟨cs, ls⟩ := d
          dsimp only at p0 p1 q0 q1 hI1 hI2 hL1 hL2 hm1 hm2
          have HI1 := Lib.hid hI1
          have HI2 := Lib.hid hI2
          have HL1 := Lib.hid hL1
          have HL2 := Lib.hid hL2
          clear hI1 hI2 hL1 hL2
          have z1 : w.heap.size < wr.heap.size := (HA.out.keep hbr).lt
          have z2 : w.heap.size + 1 < wr.heap.size := (HB.out.keep hbr).lt
          have y1 : w.heap.size < wr.heap.size + 1 := by omega
          have y2 : w.heap.size + 1 < wr.heap.size + 1 := by omega
          have y3 : g1 < wr.heap.size + 1 := by omega
          have y4 : g2 < wr.heap.size + 1 := by omega
          have x1 : w.heap.size ≤ wr.heap.size := by omega
          have x2 : w.heap.size + 1 ≤ wr.heap.size := by omega
          have x3 : g1 ≤ wr.heap.size := by omega
          have x4 : g2 ≤ wr.heap.size := by omega
          have u1 : w.heap.size ≤ wr.heap.size + 1 := by omega
          have u2 : w.heap.size + 1 ≤ wr.heap.size + 1 := by omega
          have u3 : g1 ≤ wr.heap.size + 1 := by omega
          have u4 : g2 ≤ wr.heap.size + 1 := by omega
          go_wp2_with fail
          go_region
          all_goals
            clear a1 b1 p0 p1 q0 q1 z1 z2 y1 y2 y3 y4 x1 x2 x3 x4 u1 u2 u3 u4
            first
              | (have hx1 := ((Blk.new wr #[.slice C1 cs.length c1, .slice L1 ls.length e1] 50).alloc (.cells #[.slice C2 cs.length c2, .slice L2 ls.length e2] 50)).keep (Below.refl _ _).drew; have hx2 := (Blk.new (wr.alloc (.cells #[.slice C1 cs.length c1, .slice L1 ls.length e1] 50)) #[.slice C2 cs.length c2, .slice L2 ls.length e2] 50).keep (Below.refl _ _).drew; rw [show (wr.alloc (.cells #[.slice C1 cs.length c1, .slice L1 ls.length e1] 50)).heap.size = wr.heap.size + 1 by simp] at hx2; have hwx := (bUp (bBox wr (.cells #[.slice C1 cs.length c1, .slice L1 ls.length e1] 50)) (bBox _ (.cells #[.slice C2 cs.length c2, .slice L2 ls.length e2] 50))).drew; generalize ((wr.alloc (.cells #[.slice C1 cs.length c1, .slice L1 ls.length e1] 50)).alloc (.cells #[.slice C2 cs.length c2, .slice L2 ls.length e2] 50)).drew = w2 at hx1 hx2 hwx ⊢; have c10 := blk_at hx1 0 (v := .slice C1 cs.length c1) rfl; have c11 := blk_at hx1 1 (v := .slice L1 ls.length e1) rfl; have c20 := blk_at hx2 0 (v := .slice C2 cs.length c2) rfl; have c21 := blk_at hx2 1 (v := .slice L2 ls.length e2) rfl; have Hx1 := Lib.hid hx1; have Hx2 := Lib.hid hx2; clear hx1 hx2; go_wp2_with fail; refine (rfSameE ls L1 L2 e1 e2 _ (HL1.out.keep hwx) (HL2.out.keep hwx) (by omega)).mono ?_)
              | (have hx2 := ((Blk.new wr #[.slice C2 cs.length c2, .slice L2 ls.length e2] 50).alloc (.cells #[.slice C1 cs.length c1, .slice L1 ls.length e1] 50)).keep (Below.refl _ _).drew; have hx1 := (Blk.new (wr.alloc (.cells #[.slice C2 cs.length c2, .slice L2 ls.length e2] 50)) #[.slice C1 cs.length c1, .slice L1 ls.length e1] 50).keep (Below.refl _ _).drew; rw [show (wr.alloc (.cells #[.slice C2 cs.length c2, .slice L2 ls.length e2] 50)).heap.size = wr.heap.size + 1 by simp] at hx1; have hwx := (bUp (bBox wr (.cells #[.slice C2 cs.length c2, .slice L2 ls.length e2] 50)) (bBox _ (.cells #[.slice C1 cs.length c1, .slice L1 ls.length e1] 50))).drew; generalize ((wr.alloc (.cells #[.slice C2 cs.length c2, .slice L2 ls.length e2] 50)).alloc (.cells #[.slice C1 cs.length c1, .slice L1 ls.length e1] 50)).drew = w2 at hx1 hx2 hwx ⊢; have c10 := blk_at hx1 0 (v := .slice C1 cs.length c1) rfl; have c11 := blk_at hx1 1 (v := .slice L1 ls.length e1) rfl; have c20 := blk_at hx2 0 (v := .slice C2 cs.length c2) rfl; have c21 := blk_at hx2 1 (v := .slice L2 ls.length e2) rfl; have Hx1 := Lib.hid hx1; have Hx2 := Lib.hid hx2; clear hx1 hx2; go_wp2_with fail; refine (rfSameE ls L1 L2 e1 e2 _ (HL1.out.keep hwx) (HL2.out.keep hwx) (by omega)).mono ?_)
            rintro e w3 ⟨rfl, hb3⟩
            have hw3 := bUp hwx hb3
            clear c10 c11 c20 c21
            have Hy1 := Lib.hid (Hx1.out.keep hb3)
            have Hy2 := Lib.hid (Hx2.out.keep hb3)
            clear hb3
            have c30 := blk_at Hy1.out 0 (v := .slice C1 cs.length c1) rfl
            go_wp2_with fail
            clear c30
            go_loopw [9] (fun i wq => ∃ m : Nat, m ≤ cs.length ∧ i = .int .i64 m ∧ Below w3.heap.size w3 wq) (fun i _ => cs.length - (intOf i).toNat)
            case atStart => exact ⟨0, Nat.zero_le _, rfl, Below.refl _ _⟩
            case round =>
              obtain ⟨m, hm, rfl, hbq⟩ := hrel
              have d1 := blk_at (Hy1.out.keep hbq) 0 (v := .slice C1 cs.length c1) rfl
              have d2 := blk_at (Hy2.out.keep hbq) 0 (v := .slice C2 cs.length c2) rfl
              by_cases hlt2 : m < cs.length
              · obtain ⟨f1, n1, rfl, _, i1⟩ := (HI1.out.keep (bUp hw3 hbq)).at_ (k := m) hlt2
                obtain ⟨f2, n2, rfl, _, i2⟩ := (HI2.out.keep (bUp hw3 hbq)).at_ (k := m) hlt2
                have hmi : (m : Int) < cs.length := by omega
                generalize nth cs m = z at i1 i2
                have vz : (z != z) = false := by simp
                have r1 := cell_regrown i1
                have r2 := cell_regrown i2
                have r3 := cell_regrown d1
                have r4 := cell_regrown d2
                go_wp2_with fail
                refine wp_region_quiet_below (by kernel_rfl) (by kernel_rfl) ?_
                repeat (go_big_quiet_step (fail))
                refine wpQuiet_nil ?_
                rintro _ ⟨⟨dq, osq⟩, rfl⟩
                have hb5 := below_regrown wr dq osq
                generalize grow (redrawn wr dq) osq = w5 at hb5 ⊢
                go_wp2_with fail
                go_roundw
                case rel => exact ⟨m + 1, by omega, by go_num, bUp hbq hb5⟩
                case measure => simp [intOf]; omega
              · obtain rfl : m = cs.length := by omega
                have hmi : ¬ (cs.length : Int) < cs.length := by omega
                go_wp2_with fail
                go_roundw
                case rel => exact ⟨k + 1, by omega, by go_num, bUp hbr (bUp hw3 hbq)⟩
                case measure => simp [intOf]; omega
        · obtain rfl : k = es.length := by omega
          have hki : ¬ (es.length : Int) < es.length := by omega
          go_wp2_with fail
          go_ret
          exact ⟨rfl, bUp hw1 hbr⟩
end Go.Proofs.YthogkokifiibnaaGreatDoor
