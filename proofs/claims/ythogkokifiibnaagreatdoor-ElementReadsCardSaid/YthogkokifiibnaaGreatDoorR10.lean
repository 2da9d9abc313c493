/- The reference: base, group -/
import Derived.Test.YthogkokifiibnaaGreatDoorR9
import Derived.Test.YthogkokifiibnaaGreatDoorA10
namespace Go.Proofs.YthogkokifiibnaaGreatDoor
open Go.RowKit Go.Sort

/-- a block of five cells written -/
def set5 (wr : World) (N : Nat) (u0 u1 u2 u3 u4 : Value) : World :=
  ((((wr.setCell ⟨N, 0, none⟩ u0).setCell ⟨N, 1, none⟩ u1).setCell ⟨N, 2, none⟩ u2).setCell ⟨N, 3, none⟩ u3).setCell ⟨N, 4, none⟩ u4
theorem below_set5 {w wr : World} (h : Below w.heap.size w wr) (u0 u1 u2 u3 u4 : Value) : Below w.heap.size w (set5 wr w.heap.size u0 u1 u2 u3 u4) :=
  ((((h.setCell (p := ⟨w.heap.size, 0, none⟩) (Nat.le_refl _) u0).setCell (p := ⟨w.heap.size, 1, none⟩) (Nat.le_refl _) u1).setCell (p := ⟨w.heap.size, 2, none⟩) (Nat.le_refl _) u2).setCell (p := ⟨w.heap.size, 3, none⟩) (Nat.le_refl _) u3).setCell (p := ⟨w.heap.size, 4, none⟩) (Nat.le_refl _) u4
def set3 (wr : World) (N : Nat) (u0 u1 u2 : Value) : World := ((wr.setCell ⟨N, 0, none⟩ u0).setCell ⟨N, 1, none⟩ u1).setCell ⟨N, 2, none⟩ u2
theorem below_set3 {w wr : World} (h : Below w.heap.size w wr) (u0 u1 u2 : Value) : Below w.heap.size w (set3 wr w.heap.size u0 u1 u2) :=
  ((h.setCell (p := ⟨w.heap.size, 0, none⟩) (Nat.le_refl _) u0).setCell (p := ⟨w.heap.size, 1, none⟩) (Nat.le_refl _) u1).setCell (p := ⟨w.heap.size, 2, none⟩) (Nat.le_refl _) u2

/-- what base gives back -/
def BaseOut (l : List UInt8) (w : World) (e : Ending) (w' : World) : Prop :=
  ∃ a b c : Int, e = .returned (.tuple #[.agg #[.slice none 0 0, .slice none 0 0, .int .i64 a, .int .i64 b, .int .i64 c], .bool (baseW l).isSome]) ∧ (∀ q, baseW l = some q → q = (a, b, c)) ∧ Below w.heap.size w w'
theorem baseW_len {l : List UInt8} (h : ¬ (splitL 32 l).length = 4) : baseW l = none := by unfold baseW; simp [h]
theorem baseW_word {l p0 p1 p2 p3 : List UInt8} (e : splitL 32 l = [p0, p1, p2, p3]) (h : ¬ p0 = wBase) : baseW l = none := by unfold baseW; rw [e]; simp [piece, h]
theorem baseW_nums {l p0 p1 p2 p3 : List UInt8} (e : splitL 32 l = [p0, p1, p2, p3]) (h : p0 = wBase) : (baseW l).isSome = ((numP p1).isSome && ((numP p2).isSome && (numP p3).isSome)) ∧ ∀ q, baseW l = some q → numP p1 = some q.1 ∧ numP p2 = some q.2.1 ∧ numP p3 = some q.2.2 := by
  unfold baseW
  rw [e]
  simp only [piece, h, List.getD_cons_zero, List.getD_cons_succ, List.length_cons, List.length_nil, decide_true, Bool.not_true, Bool.or_self, Bool.false_eq_true, if_false]
  cases numP p1 <;> cases numP p2 <;> cases numP p3 <;> simp
def GroupOut (l : List UInt8) (w : World) (e : Ending) (w' : World) : Prop :=
  ∃ (nm : List UInt8) (a b : Int), e = .returned (.tuple #[.agg #[.string ⟨nm.toArray⟩, .int .i64 a, .int .i64 b], .bool (groupW l).isSome]) ∧ (∀ g, groupW l = some g → g = ⟨nm, a, b⟩) ∧ Below w.heap.size w w'
theorem groupW_len {l : List UInt8} (h : ¬ (splitL 32 l).length = 4) : groupW l = none := by unfold groupW; simp [h]
theorem groupW_word {l p0 p1 p2 p3 : List UInt8} (e : splitL 32 l = [p0, p1, p2, p3]) (h : ¬ p0 = wGroup) : groupW l = none := by unfold groupW; rw [e]; simp [piece, h]
theorem groupW_nums {l p0 p1 p2 p3 : List UInt8} (e : splitL 32 l = [p0, p1, p2, p3]) (h : p0 = wGroup) : (groupW l).isSome = ((numP p2).isSome && ((numP p3).isSome && nameB p1)) ∧ ∀ g, groupW l = some g → numP p2 = some g.lo ∧ numP p3 = some g.hi ∧ g.name = p1 := by
  unfold groupW
  rw [e]
  simp only [piece, h, List.getD_cons_zero, List.getD_cons_succ, List.length_cons, List.length_nil, decide_true, Bool.not_true, Bool.or_self, Bool.false_or]
  cases hn : nameB p1 <;> cases numP p2 <;> cases numP p3 <;> simp
set_option maxHeartbeats 2000000 in
set_option maxRecDepth 100000 in
theorem rfBase (l : List UInt8) (w : World) (hl : l.length ≤ 65536) :
    Calls Tryz.prog 44 #[.string ⟨l.toArray⟩] w (BaseOut l w) := by
  have hple := splitL_piece_le 32 l
  have HS := Lib.hid (fun w' => rfCut 32 l w' hl)
  by_cases h4 : (splitL 32 l).length = 4
  · obtain ⟨p0, p1, p2, p3, e1, -⟩ := four_words h4
    rw [e1] at hple
    have HS4 := Lib.hid (show ∀ w', Calls Tryz.prog 42 #[.string ⟨l.toArray⟩, .int .u8 32] w' fun e w1 => (∃ A cp, e = .returned (.slice A 4 cp) ∧ OwnS w1 w'.heap.size (.slice A 4 cp) [p0, p1, p2, p3]) ∧ Below w'.heap.size w' w1 from fun w' => by have h := HS.out w'; rw [e1] at h; exact h)
    clear HS
    have hq0 : p0.length ≤ 65536 := Nat.le_trans (hple p0 (by simp)) hl
    have hq1 : p1.length ≤ 65536 := Nat.le_trans (hple p1 (by simp)) hl
    have hq2 : p2.length ≤ 65536 := Nat.le_trans (hple p2 (by simp)) hl
    have hq3 : p3.length ≤ 65536 := Nat.le_trans (hple p3 (by simp)) hl
    clear hple
    by_cases hp0 : p0 = wBase
    · obtain ⟨hsome, hval⟩ := baseW_nums e1 hp0
      subst hp0
      have HM1 := Lib.hid (fun w' => rfNumeral p1 w' hq1)
      have HM2 := Lib.hid (fun w' => rfNumeral p2 w' hq2)
      have HM3 := Lib.hid (fun w' => rfNumeral p3 w' hq3)
      unfold NumOut at HM1
      unfold NumOut at HM2
      unfold NumOut at HM3
      generalize hx0 : (numP p1).isSome = x0 at hsome HM1
      generalize hx1 : (numP p2).isSome = x1 at hsome HM2
      generalize hx2 : (numP p3).isSome = x2 at hsome HM3
      have HVal := Lib.hid hval
      clear hval
      have Hx0 := Lib.hid hx0
      have Hx1 := Lib.hid hx1
      have Hx2 := Lib.hid hx2
      have H4 := Lib.hid h4
      have E1 := Lib.hid e1
      clear hx0 hx1 hx2 h4 e1
      cases x0 with
      | false =>
        have HN := Lib.hid (show (baseW l).isSome = false by rw [hsome]; rfl)
        clear hsome
        go_enter Tryz.func44, Tryz.ntmps44
        go_wp2_with fail
        refine (HS4.out _).mono ?_
        rintro e w1 ⟨⟨A, cp, rfl, hO⟩, hb1⟩
        have hBx := (Blk.new w #[.slice none 0 0, .slice none 0 0, .int .i64 0, .int .i64 0, .int .i64 0] 35).keep hb1
        have h01 := bUp (bBox w (.cells #[.slice none 0 0, .slice none 0 0, .int .i64 0, .int .i64 0, .int .i64 0] 35)) hb1
        have HB := Lib.hid hBx
        have H01 := Lib.hid h01
        clear hBx h01 hb1
        have HSt := Lib.hid (OwnS.strs (ps := [wBase, p1, p2, p3]) hO)
        clear hO
        obtain ⟨bb, off, rfl, hbl, hc⟩ := HSt.out (by simp)
        have s0 : w1.cell? ⟨bb, off, none⟩ = some (.string ⟨[64, 98, 97, 115, 101].toArray⟩) := hc 0 (by simp)
        have s1 : w1.cell? ⟨bb, off + 1, none⟩ = some (.string ⟨p1.toArray⟩) := hc 1 (by simp)
        have s2 : w1.cell? ⟨bb, off + 2, none⟩ = some (.string ⟨p2.toArray⟩) := hc 2 (by simp)
        have s3 : w1.cell? ⟨bb, off + 3, none⟩ = some (.string ⟨p3.toArray⟩) := hc 3 (by simp)
        clear hc
        go_wp2_with fail
        refine (HM1.out _).mono ?_
        rintro e v1 ⟨n1, rfl, hn1, hbb1⟩
        have HQ1 := Lib.hid hn1
        clear hn1
        have t0 := cell_keep hbb1 s0
        have t1 := cell_keep hbb1 s1
        have t2 := cell_keep hbb1 s2
        have t3 := cell_keep hbb1 s3
        replace HB := Lib.hid (HB.out.keep hbb1)
        replace H01 := Lib.hid (bUp H01.out hbb1)
        clear s0 s1 s2 s3 hbb1
        have s0 := t0
        have s1 := t1
        have s2 := t2
        have s3 := t3
        clear t0 t1 t2 t3
        go_wp2_with fail
        refine (HM2.out _).mono ?_
        rintro e v2 ⟨n2, rfl, hn2, hbb2⟩
        have HQ2 := Lib.hid hn2
        clear hn2
        have t0 := cell_keep hbb2 s0
        have t1 := cell_keep hbb2 s1
        have t2 := cell_keep hbb2 s2
        have t3 := cell_keep hbb2 s3
        replace HB := Lib.hid (HB.out.keep hbb2)
        replace H01 := Lib.hid (bUp H01.out hbb2)
        clear s0 s1 s2 s3 hbb2
        have s0 := t0
        have s1 := t1
        have s2 := t2
        have s3 := t3
        clear t0 t1 t2 t3
        go_wp2_with fail
        refine (HM3.out _).mono ?_
        rintro e v3 ⟨n3, rfl, hn3, hbb3⟩
        have HQ3 := Lib.hid hn3
        clear hn3
        have t0 := cell_keep hbb3 s0
        have t1 := cell_keep hbb3 s1
        have t2 := cell_keep hbb3 s2
        have t3 := cell_keep hbb3 s3
        replace HB := Lib.hid (HB.out.keep hbb3)
        replace H01 := Lib.hid (bUp H01.out hbb3)
        clear s0 s1 s2 s3 hbb3
        have s0 := t0
        have s1 := t1
        have s2 := t2
        have s3 := t3
        clear t0 t1 t2 t3
        have a0 := HB.out.cell 0
        have f0 := HB.out.frozen 0
        have a1 := HB.out.cell 1
        have f1 := HB.out.frozen 1
        have a2 := HB.out.cell 2
        have f2 := HB.out.frozen 2
        have a3 := HB.out.cell 3
        have f3 := HB.out.frozen 3
        have a4 := HB.out.cell 4
        have f4 := HB.out.frozen 4
        go_wp2_with fail
        have h01 := H01.out
        refine bodyPost_ret (v := .tuple #[.agg #[.slice none 0 0, .slice none 0 0, .int .i64 n1, .int .i64 n2, .int .i64 n3], .bool false]) (by simp [results, Tryz.results44, go_sem, a0, a1, a2, a3, a4]) rfl ?_
        exact ⟨n1, n2, n3, by rw [HN.out], (fun q h => by obtain ⟨k1, k2, k3⟩ := HVal.out q h; rw [HQ1.out _ k1, HQ2.out _ k2, HQ3.out _ k3]), below_set5 h01 _ _ _ _ _⟩
      | true =>
       cases x1 with
       | false =>
        have HN := Lib.hid (show (baseW l).isSome = false by rw [hsome]; rfl)
        clear hsome
        go_enter Tryz.func44, Tryz.ntmps44
        go_wp2_with fail
        refine (HS4.out _).mono ?_
        rintro e w1 ⟨⟨A, cp, rfl, hO⟩, hb1⟩
        have hBx := (Blk.new w #[.slice none 0 0, .slice none 0 0, .int .i64 0, .int .i64 0, .int .i64 0] 35).keep hb1
        have h01 := bUp (bBox w (.cells #[.slice none 0 0, .slice none 0 0, .int .i64 0, .int .i64 0, .int .i64 0] 35)) hb1
        have HB := Lib.hid hBx
        have H01 := Lib.hid h01
        clear hBx h01 hb1
        have HSt := Lib.hid (OwnS.strs (ps := [wBase, p1, p2, p3]) hO)
        clear hO
        obtain ⟨bb, off, rfl, hbl, hc⟩ := HSt.out (by simp)
        have s0 : w1.cell? ⟨bb, off, none⟩ = some (.string ⟨[64, 98, 97, 115, 101].toArray⟩) := hc 0 (by simp)
        have s1 : w1.cell? ⟨bb, off + 1, none⟩ = some (.string ⟨p1.toArray⟩) := hc 1 (by simp)
        have s2 : w1.cell? ⟨bb, off + 2, none⟩ = some (.string ⟨p2.toArray⟩) := hc 2 (by simp)
        have s3 : w1.cell? ⟨bb, off + 3, none⟩ = some (.string ⟨p3.toArray⟩) := hc 3 (by simp)
        clear hc
        go_wp2_with fail
        refine (HM1.out _).mono ?_
        rintro e v1 ⟨n1, rfl, hn1, hbb1⟩
        have HQ1 := Lib.hid hn1
        clear hn1
        have t0 := cell_keep hbb1 s0
        have t1 := cell_keep hbb1 s1
        have t2 := cell_keep hbb1 s2
        have t3 := cell_keep hbb1 s3
        replace HB := Lib.hid (HB.out.keep hbb1)
        replace H01 := Lib.hid (bUp H01.out hbb1)
        clear s0 s1 s2 s3 hbb1
        have s0 := t0
        have s1 := t1
        have s2 := t2
        have s3 := t3
        clear t0 t1 t2 t3
        go_wp2_with fail
        refine (HM2.out _).mono ?_
        rintro e v2 ⟨n2, rfl, hn2, hbb2⟩
        have HQ2 := Lib.hid hn2
        clear hn2
        have t0 := cell_keep hbb2 s0
        have t1 := cell_keep hbb2 s1
        have t2 := cell_keep hbb2 s2
        have t3 := cell_keep hbb2 s3
        replace HB := Lib.hid (HB.out.keep hbb2)
        replace H01 := Lib.hid (bUp H01.out hbb2)
        clear s0 s1 s2 s3 hbb2
        have s0 := t0
        have s1 := t1
        have s2 := t2
        have s3 := t3
        clear t0 t1 t2 t3
        go_wp2_with fail
        refine (HM3.out _).mono ?_
        rintro e v3 ⟨n3, rfl, hn3, hbb3⟩
        have HQ3 := Lib.hid hn3
        clear hn3
        have t0 := cell_keep hbb3 s0
        have t1 := cell_keep hbb3 s1
        have t2 := cell_keep hbb3 s2
        have t3 := cell_keep hbb3 s3
        replace HB := Lib.hid (HB.out.keep hbb3)
        replace H01 := Lib.hid (bUp H01.out hbb3)
        clear s0 s1 s2 s3 hbb3
        have s0 := t0
        have s1 := t1
        have s2 := t2
        have s3 := t3
        clear t0 t1 t2 t3
        have a0 := HB.out.cell 0
        have f0 := HB.out.frozen 0
        have a1 := HB.out.cell 1
        have f1 := HB.out.frozen 1
        have a2 := HB.out.cell 2
        have f2 := HB.out.frozen 2
        have a3 := HB.out.cell 3
        have f3 := HB.out.frozen 3
        have a4 := HB.out.cell 4
        have f4 := HB.out.frozen 4
        go_wp2_with fail
        have h01 := H01.out
        refine bodyPost_ret (v := .tuple #[.agg #[.slice none 0 0, .slice none 0 0, .int .i64 n1, .int .i64 n2, .int .i64 n3], .bool false]) (by simp [results, Tryz.results44, go_sem, a0, a1, a2, a3, a4]) rfl ?_
        exact ⟨n1, n2, n3, by rw [HN.out], (fun q h => by obtain ⟨k1, k2, k3⟩ := HVal.out q h; rw [HQ1.out _ k1, HQ2.out _ k2, HQ3.out _ k3]), below_set5 h01 _ _ _ _ _⟩
       | true =>
        have HN := Lib.hid (show (baseW l).isSome = x2 by rw [hsome]; rfl)
        clear hsome
        go_enter Tryz.func44, Tryz.ntmps44
        go_wp2_with fail
        refine (HS4.out _).mono ?_
        rintro e w1 ⟨⟨A, cp, rfl, hO⟩, hb1⟩
        have hBx := (Blk.new w #[.slice none 0 0, .slice none 0 0, .int .i64 0, .int .i64 0, .int .i64 0] 35).keep hb1
        have h01 := bUp (bBox w (.cells #[.slice none 0 0, .slice none 0 0, .int .i64 0, .int .i64 0, .int .i64 0] 35)) hb1
        have HB := Lib.hid hBx
        have H01 := Lib.hid h01
        clear hBx h01 hb1
        have HSt := Lib.hid (OwnS.strs (ps := [wBase, p1, p2, p3]) hO)
        clear hO
        obtain ⟨bb, off, rfl, hbl, hc⟩ := HSt.out (by simp)
        have s0 : w1.cell? ⟨bb, off, none⟩ = some (.string ⟨[64, 98, 97, 115, 101].toArray⟩) := hc 0 (by simp)
        have s1 : w1.cell? ⟨bb, off + 1, none⟩ = some (.string ⟨p1.toArray⟩) := hc 1 (by simp)
        have s2 : w1.cell? ⟨bb, off + 2, none⟩ = some (.string ⟨p2.toArray⟩) := hc 2 (by simp)
        have s3 : w1.cell? ⟨bb, off + 3, none⟩ = some (.string ⟨p3.toArray⟩) := hc 3 (by simp)
        clear hc
        go_wp2_with fail
        refine (HM1.out _).mono ?_
        rintro e v1 ⟨n1, rfl, hn1, hbb1⟩
        have HQ1 := Lib.hid hn1
        clear hn1
        have t0 := cell_keep hbb1 s0
        have t1 := cell_keep hbb1 s1
        have t2 := cell_keep hbb1 s2
        have t3 := cell_keep hbb1 s3
        replace HB := Lib.hid (HB.out.keep hbb1)
        replace H01 := Lib.hid (bUp H01.out hbb1)
        clear s0 s1 s2 s3 hbb1
        have s0 := t0
        have s1 := t1
        have s2 := t2
        have s3 := t3
        clear t0 t1 t2 t3
        go_wp2_with fail
        refine (HM2.out _).mono ?_
        rintro e v2 ⟨n2, rfl, hn2, hbb2⟩
        have HQ2 := Lib.hid hn2
        clear hn2
        have t0 := cell_keep hbb2 s0
        have t1 := cell_keep hbb2 s1
        have t2 := cell_keep hbb2 s2
        have t3 := cell_keep hbb2 s3
        replace HB := Lib.hid (HB.out.keep hbb2)
        replace H01 := Lib.hid (bUp H01.out hbb2)
        clear s0 s1 s2 s3 hbb2
        have s0 := t0
        have s1 := t1
        have s2 := t2
        have s3 := t3
        clear t0 t1 t2 t3
        go_wp2_with fail
        refine (HM3.out _).mono ?_
        rintro e v3 ⟨n3, rfl, hn3, hbb3⟩
        have HQ3 := Lib.hid hn3
        clear hn3
        have t0 := cell_keep hbb3 s0
        have t1 := cell_keep hbb3 s1
        have t2 := cell_keep hbb3 s2
        have t3 := cell_keep hbb3 s3
        replace HB := Lib.hid (HB.out.keep hbb3)
        replace H01 := Lib.hid (bUp H01.out hbb3)
        clear s0 s1 s2 s3 hbb3
        have s0 := t0
        have s1 := t1
        have s2 := t2
        have s3 := t3
        clear t0 t1 t2 t3
        have a0 := HB.out.cell 0
        have f0 := HB.out.frozen 0
        have a1 := HB.out.cell 1
        have f1 := HB.out.frozen 1
        have a2 := HB.out.cell 2
        have f2 := HB.out.frozen 2
        have a3 := HB.out.cell 3
        have f3 := HB.out.frozen 3
        have a4 := HB.out.cell 4
        have f4 := HB.out.frozen 4
        go_wp2_with fail
        have h01 := H01.out
        refine bodyPost_ret (v := .tuple #[.agg #[.slice none 0 0, .slice none 0 0, .int .i64 n1, .int .i64 n2, .int .i64 n3], .bool x2]) (by simp [results, Tryz.results44, go_sem, a0, a1, a2, a3, a4]) rfl ?_
        exact ⟨n1, n2, n3, by rw [HN.out], (fun q h => by obtain ⟨k1, k2, k3⟩ := HVal.out q h; rw [HQ1.out _ k1, HQ2.out _ k2, HQ3.out _ k3]), below_set5 h01 _ _ _ _ _⟩
    · have HN := Lib.hid (baseW_word e1 hp0)
      have hq : (p0 == [64, 98, 97, 115, 101]) = false := by simp; exact hp0
      have Hp0 := Lib.hid hp0
      have H4 := Lib.hid h4
      have E1 := Lib.hid e1
      clear hp0 h4 e1
      go_enter Tryz.func44, Tryz.ntmps44
      go_wp2_with fail
      refine (HS4.out _).mono ?_
      rintro e w1 ⟨⟨A, cp, rfl, hO⟩, hb1⟩
      have hBx := (Blk.new w #[.slice none 0 0, .slice none 0 0, .int .i64 0, .int .i64 0, .int .i64 0] 35).keep hb1
      have h01 := bUp (bBox w (.cells #[.slice none 0 0, .slice none 0 0, .int .i64 0, .int .i64 0, .int .i64 0] 35)) hb1
      have HSt := Lib.hid (OwnS.strs (ps := [p0, p1, p2, p3]) hO)
      clear hO
      obtain ⟨bb, off, rfl, hbl, hc⟩ := HSt.out (by simp)
      have s0 : w1.cell? ⟨bb, off, none⟩ = some (.string ⟨p0.toArray⟩) := hc 0 (by simp)
      clear hc
      have a0 := hBx.cell 0
      have f0 := hBx.frozen 0
      have a1 := hBx.cell 1
      have f1 := hBx.frozen 1
      have a2 := hBx.cell 2
      have f2 := hBx.frozen 2
      have a3 := hBx.cell 3
      have f3 := hBx.frozen 3
      have a4 := hBx.cell 4
      have f4 := hBx.frozen 4
      clear hBx hb1
      go_wp2_with fail
      refine bodyPost_ret (v := .tuple #[.agg #[.slice none 0 0, .slice none 0 0, .int .i64 0, .int .i64 0, .int .i64 0], .bool false]) (by simp [results, Tryz.results44, go_sem, a0, a1, a2, a3, a4]) rfl ?_
      exact ⟨0, 0, 0, by rw [HN.out]; rfl, (fun q h => by rw [HN.out] at h; cases h), below_set5 h01 _ _ _ _ _⟩
  · have HN := Lib.hid (baseW_len h4)
    have hpl : (splitL 32 l).length ≤ 65537 := by rw [splitL_length]; have := List.count_le_length (a := (32 : UInt8)) (l := l); omega
    have hq : (((splitL 32 l).length : Int) != 4) = true := by simp; omega
    generalize splitL 32 l = ps at HS hq h4 hpl
    have H4 := Lib.hid h4
    clear h4
    clear hple
    go_enter Tryz.func44, Tryz.ntmps44
    go_wp2_with fail
    refine (HS.out _).mono ?_
    rintro e w1 ⟨⟨A, cp, rfl, hO⟩, hb1⟩
    have hBx := (Blk.new w #[.slice none 0 0, .slice none 0 0, .int .i64 0, .int .i64 0, .int .i64 0] 35).keep hb1
    have h01 := bUp (bBox w (.cells #[.slice none 0 0, .slice none 0 0, .int .i64 0, .int .i64 0, .int .i64 0] 35)) hb1
    clear hO
    have a0 := hBx.cell 0
    have f0 := hBx.frozen 0
    have a1 := hBx.cell 1
    have f1 := hBx.frozen 1
    have a2 := hBx.cell 2
    have f2 := hBx.frozen 2
    have a3 := hBx.cell 3
    have f3 := hBx.frozen 3
    have a4 := hBx.cell 4
    have f4 := hBx.frozen 4
    clear hBx hb1
    go_wp2_with fail
    refine bodyPost_ret (v := .tuple #[.agg #[.slice none 0 0, .slice none 0 0, .int .i64 0, .int .i64 0, .int .i64 0], .bool false]) (by simp [results, Tryz.results44, go_sem, a0, a1, a2, a3, a4]) rfl ?_
    exact ⟨0, 0, 0, by rw [HN.out]; rfl, (fun q h => by rw [HN.out] at h; cases h), below_set5 h01 _ _ _ _ _⟩
end Go.Proofs.YthogkokifiibnaaGreatDoor
