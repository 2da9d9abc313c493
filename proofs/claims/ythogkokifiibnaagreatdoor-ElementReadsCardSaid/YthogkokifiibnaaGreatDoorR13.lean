/- The reference: group -/
import Derived.Test.YthogkokifiibnaaGreatDoorR10
namespace Go.Proofs.YthogkokifiibnaaGreatDoor
open Go.RowKit Go.Sort

set_option maxHeartbeats 16000000 in
set_option maxRecDepth 100000 in
theorem rfGroup (l : List UInt8) (w : World) (hl : l.length ≤ 65536) :
    Calls Tryz.prog 45 #[.string ⟨l.toArray⟩] w (GroupOut l w) := by
  have hple := splitL_piece_le 32 l
  have HS := Lib.hid (fun w' => rfCut 32 l w' hl)
  by_cases h4 : (splitL 32 l).length = 4
  · obtain ⟨p0, p1, p2, p3, e1, -⟩ := four_words h4
    rw [e1] at hple
    have HS4 := Lib.hid (show ∀ w', Calls Tryz.prog 42 #[.string ⟨l.toArray⟩, .int .u8 32] w' fun e w1 => (∃ A cp, e = .returned (.slice A 4 cp) ∧ OwnS w1 w'.heap.size (.slice A 4 cp) [p0, p1, p2, p3]) ∧ Below w'.heap.size w' w1 from fun w' => by have h := HS.out w'; rw [e1] at h; exact h)
    clear HS
    have hq0 : p0.length ≤ 65536 := Nat.le_trans (hple p0 (by simp)) hl
    have hq1 : p1.length ≤ 65536 := Nat.le_trans (hple p1 (by simp)) hl
    have hq2 : p2.length ≤ 65536 := Nat.le_trans (hple p2 (by simp)) hl
    have hq3 : p3.length ≤ 65536 := Nat.le_trans (hple p3 (by simp)) hl
    clear hple
    by_cases hp0 : p0 = wGroup
    · obtain ⟨hsome, hval⟩ := groupW_nums e1 hp0
      subst hp0
      have HM2 := Lib.hid (fun w' => rfNumeral p2 w' hq2)
      have HM3 := Lib.hid (fun w' => rfNumeral p3 w' hq3)
      unfold NumOut at HM2
      unfold NumOut at HM3
      have HNm := Lib.hid (fun w' => rfName p1 w' (by omega))
      generalize hx0 : (numP p2).isSome = x0 at hsome HM2
      generalize hx1 : (numP p3).isSome = x1 at hsome HM3
      generalize hx2 : nameB p1 = x2 at hsome HNm
      have HVal := Lib.hid hval
      clear hval
      have Hx0 := Lib.hid hx0
      have Hx1 := Lib.hid hx1
      have Hx2 := Lib.hid hx2
      have H4 := Lib.hid h4
      have E1 := Lib.hid e1
      clear hx0 hx1 hx2 h4 e1
      cases x0 with
      | false =>
        have HN := Lib.hid (show (groupW l).isSome = false by rw [hsome]; rfl)
        clear hsome
        go_enter Tryz.func45, Tryz.ntmps45
        go_wp2_with fail
        refine (HS4.out _).mono ?_
        rintro e w1 ⟨⟨A, cp, rfl, hO⟩, hb1⟩
        have hBx := (Blk.new w #[.string ⟨#[]⟩, .int .i64 0, .int .i64 0] 47).keep hb1
        have h01 := bUp (bBox w (.cells #[.string ⟨#[]⟩, .int .i64 0, .int .i64 0] 47)) hb1
        have HB := Lib.hid hBx
        have H01 := Lib.hid h01
        clear hBx h01 hb1
        have HSt := Lib.hid (OwnS.strs (ps := [wGroup, p1, p2, p3]) hO)
        clear hO
        obtain ⟨bb, off, rfl, hbl, hc⟩ := HSt.out (by simp)
        have s0 : w1.cell? ⟨bb, off, none⟩ = some (.string ⟨[64, 103, 114, 111, 117, 112].toArray⟩) := hc 0 (by simp)
        have s1 : w1.cell? ⟨bb, off + 1, none⟩ = some (.string ⟨p1.toArray⟩) := hc 1 (by simp)
        have s2 : w1.cell? ⟨bb, off + 2, none⟩ = some (.string ⟨p2.toArray⟩) := hc 2 (by simp)
        have s3 : w1.cell? ⟨bb, off + 3, none⟩ = some (.string ⟨p3.toArray⟩) := hc 3 (by simp)
        clear hc
        go_wp2_with fail
        refine (HM2.out _).mono ?_
        rintro e v2 ⟨n2, rfl, hn2, hbb2⟩
        have HQ2 := Lib.hid hn2
        clear hn2
        have t0 := cell_keep hbb2 s0
        have t1 := cell_keep hbb2 s1
        have t2 := cell_keep hbb2 s2
        have t3 := cell_keep hbb2 s3
        replace HB := Lib.hid (HB.out.keep hbb2)
        replace H01 := Lib.hid (bUp H01.out hbb2)
        clear s0 s1 s2 s3 hbb2
        have s0 := t0
        have s1 := t1
        have s2 := t2
        have s3 := t3
        clear t0 t1 t2 t3
        go_wp2_with fail
        refine (HM3.out _).mono ?_
        rintro e v3 ⟨n3, rfl, hn3, hbb3⟩
        have HQ3 := Lib.hid hn3
        clear hn3
        have t0 := cell_keep hbb3 s0
        have t1 := cell_keep hbb3 s1
        have t2 := cell_keep hbb3 s2
        have t3 := cell_keep hbb3 s3
        replace HB := Lib.hid (HB.out.keep hbb3)
        replace H01 := Lib.hid (bUp H01.out hbb3)
        clear s0 s1 s2 s3 hbb3
        have s0 := t0
        have s1 := t1
        have s2 := t2
        have s3 := t3
        clear t0 t1 t2 t3
        have a0 := HB.out.cell 0
        have f0 := HB.out.frozen 0
        have a1 := HB.out.cell 1
        have f1 := HB.out.frozen 1
        have a2 := HB.out.cell 2
        have f2 := HB.out.frozen 2
        go_wp2_with fail
        go_region
        all_goals
          go_wp2_with fail
          have h01 := H01.out.drew
          refine bodyPost_ret (v := .tuple #[.agg #[.string ⟨p1.toArray⟩, .int .i64 n2, .int .i64 n3], .bool false]) (by simp [results, Tryz.results45, go_sem, a0, a1, a2]) rfl ?_
          exact ⟨p1, n2, n3, by rw [HN.out], (fun g h => by obtain ⟨k1, k2, k3⟩ := HVal.out g h; cases g; dsimp only at k1 k2 k3; rw [HQ2.out _ k1, HQ3.out _ k2, k3]), below_set3 h01 _ _ _⟩
      | true =>
       cases x1 with
       | false =>
        have HN := Lib.hid (show (groupW l).isSome = false by rw [hsome]; rfl)
        clear hsome
        go_enter Tryz.func45, Tryz.ntmps45
        go_wp2_with fail
        refine (HS4.out _).mono ?_
        rintro e w1 ⟨⟨A, cp, rfl, hO⟩, hb1⟩
        have hBx := (Blk.new w #[.string ⟨#[]⟩, .int .i64 0, .int .i64 0] 47).keep hb1
        have h01 := bUp (bBox w (.cells #[.string ⟨#[]⟩, .int .i64 0, .int .i64 0] 47)) hb1
        have HB := Lib.hid hBx
        have H01 := Lib.hid h01
        clear hBx h01 hb1
        have HSt := Lib.hid (OwnS.strs (ps := [wGroup, p1, p2, p3]) hO)
        clear hO
        obtain ⟨bb, off, rfl, hbl, hc⟩ := HSt.out (by simp)
        have s0 : w1.cell? ⟨bb, off, none⟩ = some (.string ⟨[64, 103, 114, 111, 117, 112].toArray⟩) := hc 0 (by simp)
        have s1 : w1.cell? ⟨bb, off + 1, none⟩ = some (.string ⟨p1.toArray⟩) := hc 1 (by simp)
        have s2 : w1.cell? ⟨bb, off + 2, none⟩ = some (.string ⟨p2.toArray⟩) := hc 2 (by simp)
        have s3 : w1.cell? ⟨bb, off + 3, none⟩ = some (.string ⟨p3.toArray⟩) := hc 3 (by simp)
        clear hc
        go_wp2_with fail
        refine (HM2.out _).mono ?_
        rintro e v2 ⟨n2, rfl, hn2, hbb2⟩
        have HQ2 := Lib.hid hn2
        clear hn2
        have t0 := cell_keep hbb2 s0
        have t1 := cell_keep hbb2 s1
        have t2 := cell_keep hbb2 s2
        have t3 := cell_keep hbb2 s3
        replace HB := Lib.hid (HB.out.keep hbb2)
        replace H01 := Lib.hid (bUp H01.out hbb2)
        clear s0 s1 s2 s3 hbb2
        have s0 := t0
        have s1 := t1
        have s2 := t2
        have s3 := t3
        clear t0 t1 t2 t3
        go_wp2_with fail
        refine (HM3.out _).mono ?_
        rintro e v3 ⟨n3, rfl, hn3, hbb3⟩
        have HQ3 := Lib.hid hn3
        clear hn3
        have t0 := cell_keep hbb3 s0
        have t1 := cell_keep hbb3 s1
        have t2 := cell_keep hbb3 s2
        have t3 := cell_keep hbb3 s3
        replace HB := Lib.hid (HB.out.keep hbb3)
        replace H01 := Lib.hid (bUp H01.out hbb3)
        clear s0 s1 s2 s3 hbb3
        have s0 := t0
        have s1 := t1
        have s2 := t2
        have s3 := t3
        clear t0 t1 t2 t3
        have a0 := HB.out.cell 0
        have f0 := HB.out.frozen 0
        have a1 := HB.out.cell 1
        have f1 := HB.out.frozen 1
        have a2 := HB.out.cell 2
        have f2 := HB.out.frozen 2
        go_wp2_with fail
        go_region
        all_goals
          go_wp2_with fail
          have h01 := H01.out.drew
          refine bodyPost_ret (v := .tuple #[.agg #[.string ⟨p1.toArray⟩, .int .i64 n2, .int .i64 n3], .bool false]) (by simp [results, Tryz.results45, go_sem, a0, a1, a2]) rfl ?_
          exact ⟨p1, n2, n3, by rw [HN.out], (fun g h => by obtain ⟨k1, k2, k3⟩ := HVal.out g h; cases g; dsimp only at k1 k2 k3; rw [HQ2.out _ k1, HQ3.out _ k2, k3]), below_set3 h01 _ _ _⟩
       | true =>
        have HN := Lib.hid (show (groupW l).isSome = x2 by rw [hsome]; rfl)
        clear hsome
        go_enter Tryz.func45, Tryz.ntmps45
        go_wp2_with fail
        refine (HS4.out _).mono ?_
        rintro e w1 ⟨⟨A, cp, rfl, hO⟩, hb1⟩
        have hBx := (Blk.new w #[.string ⟨#[]⟩, .int .i64 0, .int .i64 0] 47).keep hb1
        have h01 := bUp (bBox w (.cells #[.string ⟨#[]⟩, .int .i64 0, .int .i64 0] 47)) hb1
        have HB := Lib.hid hBx
        have H01 := Lib.hid h01
        clear hBx h01 hb1
        have HSt := Lib.hid (OwnS.strs (ps := [wGroup, p1, p2, p3]) hO)
        clear hO
        obtain ⟨bb, off, rfl, hbl, hc⟩ := HSt.out (by simp)
        have s0 : w1.cell? ⟨bb, off, none⟩ = some (.string ⟨[64, 103, 114, 111, 117, 112].toArray⟩) := hc 0 (by simp)
        have s1 : w1.cell? ⟨bb, off + 1, none⟩ = some (.string ⟨p1.toArray⟩) := hc 1 (by simp)
        have s2 : w1.cell? ⟨bb, off + 2, none⟩ = some (.string ⟨p2.toArray⟩) := hc 2 (by simp)
        have s3 : w1.cell? ⟨bb, off + 3, none⟩ = some (.string ⟨p3.toArray⟩) := hc 3 (by simp)
        clear hc
        go_wp2_with fail
        refine (HM2.out _).mono ?_
        rintro e v2 ⟨n2, rfl, hn2, hbb2⟩
        have HQ2 := Lib.hid hn2
        clear hn2
        have t0 := cell_keep hbb2 s0
        have t1 := cell_keep hbb2 s1
        have t2 := cell_keep hbb2 s2
        have t3 := cell_keep hbb2 s3
        replace HB := Lib.hid (HB.out.keep hbb2)
        replace H01 := Lib.hid (bUp H01.out hbb2)
        clear s0 s1 s2 s3 hbb2
        have s0 := t0
        have s1 := t1
        have s2 := t2
        have s3 := t3
        clear t0 t1 t2 t3
        go_wp2_with fail
        refine (HM3.out _).mono ?_
        rintro e v3 ⟨n3, rfl, hn3, hbb3⟩
        have HQ3 := Lib.hid hn3
        clear hn3
        have t0 := cell_keep hbb3 s0
        have t1 := cell_keep hbb3 s1
        have t2 := cell_keep hbb3 s2
        have t3 := cell_keep hbb3 s3
        replace HB := Lib.hid (HB.out.keep hbb3)
        replace H01 := Lib.hid (bUp H01.out hbb3)
        clear s0 s1 s2 s3 hbb3
        have s0 := t0
        have s1 := t1
        have s2 := t2
        have s3 := t3
        clear t0 t1 t2 t3
        have a0 := HB.out.cell 0
        have f0 := HB.out.frozen 0
        have a1 := HB.out.cell 1
        have f1 := HB.out.frozen 1
        have a2 := HB.out.cell 2
        have f2 := HB.out.frozen 2
        go_wp2_with fail
        clear HSt HM2 HM3 HS4 Hx2 H4 E1 Hx0 Hx1 s0 s2 s3 hq0 hq2 hq3
        refine wp_region_any (by kernel_rfl) ?_
        change wpAny _ _ _ _ _ _ _ (World.drew _)
        have b0 : v3.drew.cell? ⟨w.heap.size, 0, none⟩ = _ := a0
        have k0 : v3.drew.frozen? ⟨w.heap.size, 0, none⟩ = _ := f0
        have b1 : v3.drew.cell? ⟨w.heap.size, 1, none⟩ = _ := a1
        have k1 : v3.drew.frozen? ⟨w.heap.size, 1, none⟩ = _ := f1
        have b2 : v3.drew.cell? ⟨w.heap.size, 2, none⟩ = _ := a2
        have k2 : v3.drew.frozen? ⟨w.heap.size, 2, none⟩ = _ := f2
        have r1 : v3.drew.cell? _ = _ := s1
        have H01d := Lib.hid (H01.out.drew)
        clear a0 a1 a2 f0 f1 f2 s1 H01 HB
        generalize v3.drew = v4 at *
        refine wpAny_take (i := 0) (v := .slice (some ⟨bb, off, none⟩) 4 cp) rfl (by kernel_rfl) (by kernel_rfl) (by kernel_rfl) (fun _ _ _ h => h) (Or.inl ⟨by kernel_rfl, fun w => by go_simp⟩) ?_
        refine wpAny_take (i := 1) (v := .pointer (some ⟨bb, off + 1, none⟩)) rfl (by kernel_rfl) (by kernel_rfl) (by kernel_rfl) (fun _ _ _ h => h) (Or.inl ⟨by kernel_rfl, fun w => by go_simp⟩) ?_
        refine wpAny_take (i := 3) (v := .int .i64 n2) rfl (by kernel_rfl) (by kernel_rfl) (by kernel_rfl) (fun _ _ _ h => h) (Or.inl ⟨by kernel_rfl, fun w => by go_simp⟩) ?_
        refine wpAny_take (i := 4) (v := .int .i64 n3) rfl (by kernel_rfl) (by kernel_rfl) (by kernel_rfl) (fun _ _ _ h => h) (Or.inl ⟨by kernel_rfl, fun w => by go_simp⟩) ?_
        refine wpAny_take (i := 6) (v := .bool true) rfl (by kernel_rfl) (by kernel_rfl) (by kernel_rfl) (fun _ _ _ h => h) (Or.inl ⟨by kernel_rfl, fun w => by go_simp⟩) ?_
        refine wpAny_take (i := 7) (v := .bool true) rfl (by kernel_rfl) (by kernel_rfl) (by kernel_rfl) (fun _ _ _ h => h) (Or.inl ⟨by kernel_rfl, fun w => by go_simp⟩) ?_
        refine wpAny_take (i := 8) (v := .bool true) rfl (by kernel_rfl) (by kernel_rfl) (by kernel_rfl) (fun _ _ _ h => h) (Or.inl ⟨by kernel_rfl, fun w => by go_simp⟩) ?_
        refine wpAny_take (i := 9) (v := .bool true) rfl (by kernel_rfl) (by kernel_rfl) (by kernel_rfl) (fun _ _ _ h => h) (Or.inl ⟨by kernel_rfl, fun w => by go_simp⟩) ?_
        refine wpAny_take (i := 10) (v := .bool true) rfl (by kernel_rfl) (by kernel_rfl) (by kernel_rfl) (fun _ _ _ h => h) (Or.inl ⟨by kernel_rfl, fun w => by go_simp⟩) ?_
        refine wpAny_take (i := 11) (v := .slice (some ⟨bb, off, none⟩) 4 cp) rfl (by kernel_rfl) (by kernel_rfl) (by kernel_rfl) (fun _ _ _ h => h) (Or.inl ⟨by kernel_rfl, fun w => by go_simp⟩) ?_
        refine wpAny_take (i := 12) (v := .pointer (some ⟨bb, off + 1, none⟩)) rfl (by kernel_rfl) (by kernel_rfl) (by kernel_rfl) (fun _ _ _ h => h) (Or.inl ⟨by kernel_rfl, fun w => by go_simp⟩) ?_
        refine wpAny_ready (rs := [2, 13]) (by kernel_rfl) (by simp) ?_
        refine AllReady.cons rfl (fun K hK => ?_) (AllReady.cons rfl (fun K hK => ?_) AllReady.nil)
        · go_simp
          refine hK _ _ ?_
          clear hK K
          refine wpAny_take (i := 5) (v := .agg #[.string ⟨p1.toArray⟩, .int .i64 n2, .int .i64 n3]) rfl (by kernel_rfl) (by kernel_rfl) (by kernel_rfl) (fun _ _ _ h => h) (Or.inl ⟨by kernel_rfl, fun w => by go_simp⟩) ?_
          refine wpAny_ready (rs := [13]) (by kernel_rfl) (by simp) ?_
          refine AllReady.cons rfl (fun K hK => ?_) AllReady.nil
          go_simp
          refine hK _ _ ?_
          clear hK K
          refine wpAny_ready (rs := [14]) (by kernel_rfl) (by simp) ?_
          refine AllReady.cons rfl (fun K hK => ?_) AllReady.nil
          go_simp
          refine (HNm.out _).mono ?_
          rintro e w7 ⟨rfl, rfl⟩
          refine hK _ _ ?_
          clear hK K
          refine wpAny_take (i := 15) (v := .bool x2) rfl (by kernel_rfl) (by kernel_rfl) (by kernel_rfl) (fun _ _ _ h => h) (Or.inl ⟨by kernel_rfl, fun w => by go_simp⟩) ?_
          refine wpAny_ready (rs := [16]) (by kernel_rfl) (by simp) ?_
          refine AllReady.cons rfl (fun K hK => ?_) AllReady.nil
          go_simp
          refine hK _ _ ?_
          clear hK K
          refine wpAny_take (i := 17) (v := .bool x2) rfl (by kernel_rfl) (by kernel_rfl) (by kernel_rfl) (fun _ _ _ h => h) (Or.inl ⟨by kernel_rfl, fun w => by go_simp⟩) ?_
          refine wpAny_done (by kernel_rfl) ?_ _
          go_wp2_with fail
          refine bodyPost_ret (v := .tuple #[.agg #[.string ⟨p1.toArray⟩, .int .i64 n2, .int .i64 n3], .bool x2]) (by simp [results, Tryz.results45, go_sem, b0, b1, b2]) rfl ?_
          exact ⟨p1, n2, n3, by rw [HN.out], (fun g h => by obtain ⟨k1, k2, k3⟩ := HVal.out g h; cases g; dsimp only at k1 k2 k3; rw [HQ2.out _ k1, HQ3.out _ k2, k3]), below_set3 H01d.out _ _ _⟩
        · go_simp
          refine hK _ _ ?_
          clear hK K
          refine wpAny_ready (rs := [2, 14]) (by kernel_rfl) (by simp) ?_
          refine AllReady.cons rfl (fun K hK => ?_) (AllReady.cons rfl (fun K hK => ?_) AllReady.nil)
          · go_simp
            refine hK _ _ ?_
            clear hK K
            refine wpAny_take (i := 5) (v := .agg #[.string ⟨p1.toArray⟩, .int .i64 n2, .int .i64 n3]) rfl (by kernel_rfl) (by kernel_rfl) (by kernel_rfl) (fun _ _ _ h => h) (Or.inl ⟨by kernel_rfl, fun w => by go_simp⟩) ?_
            refine wpAny_ready (rs := [14]) (by kernel_rfl) (by simp) ?_
            refine AllReady.cons rfl (fun K hK => ?_) AllReady.nil
            go_simp
            refine (HNm.out _).mono ?_
            rintro e w7 ⟨rfl, rfl⟩
            refine hK _ _ ?_
            clear hK K
            refine wpAny_take (i := 15) (v := .bool x2) rfl (by kernel_rfl) (by kernel_rfl) (by kernel_rfl) (fun _ _ _ h => h) (Or.inl ⟨by kernel_rfl, fun w => by go_simp⟩) ?_
            refine wpAny_ready (rs := [16]) (by kernel_rfl) (by simp) ?_
            refine AllReady.cons rfl (fun K hK => ?_) AllReady.nil
            go_simp
            refine hK _ _ ?_
            clear hK K
            refine wpAny_take (i := 17) (v := .bool x2) rfl (by kernel_rfl) (by kernel_rfl) (by kernel_rfl) (fun _ _ _ h => h) (Or.inl ⟨by kernel_rfl, fun w => by go_simp⟩) ?_
            refine wpAny_done (by kernel_rfl) ?_ _
            go_wp2_with fail
            refine bodyPost_ret (v := .tuple #[.agg #[.string ⟨p1.toArray⟩, .int .i64 n2, .int .i64 n3], .bool x2]) (by simp [results, Tryz.results45, go_sem, b0, b1, b2]) rfl ?_
            exact ⟨p1, n2, n3, by rw [HN.out], (fun g h => by obtain ⟨k1, k2, k3⟩ := HVal.out g h; cases g; dsimp only at k1 k2 k3; rw [HQ2.out _ k1, HQ3.out _ k2, k3]), below_set3 H01d.out _ _ _⟩
          · go_simp
            refine (HNm.out _).mono ?_
            rintro e w7 ⟨rfl, rfl⟩
            refine hK _ _ ?_
            clear hK K
            refine wpAny_take (i := 15) (v := .bool x2) rfl (by kernel_rfl) (by kernel_rfl) (by kernel_rfl) (fun _ _ _ h => h) (Or.inl ⟨by kernel_rfl, fun w => by go_simp⟩) ?_
            refine wpAny_ready (rs := [2]) (by kernel_rfl) (by simp) ?_
            refine AllReady.cons rfl (fun K hK => ?_) AllReady.nil
            go_simp
            refine hK _ _ ?_
            clear hK K
            refine wpAny_take (i := 5) (v := .agg #[.string ⟨p1.toArray⟩, .int .i64 n2, .int .i64 n3]) rfl (by kernel_rfl) (by kernel_rfl) (by kernel_rfl) (fun _ _ _ h => h) (Or.inl ⟨by kernel_rfl, fun w => by go_simp⟩) ?_
            refine wpAny_ready (rs := [16]) (by kernel_rfl) (by simp) ?_
            refine AllReady.cons rfl (fun K hK => ?_) AllReady.nil
            go_simp
            refine hK _ _ ?_
            clear hK K
            refine wpAny_take (i := 17) (v := .bool x2) rfl (by kernel_rfl) (by kernel_rfl) (by kernel_rfl) (fun _ _ _ h => h) (Or.inl ⟨by kernel_rfl, fun w => by go_simp⟩) ?_
            refine wpAny_done (by kernel_rfl) ?_ _
            go_wp2_with fail
            refine bodyPost_ret (v := .tuple #[.agg #[.string ⟨p1.toArray⟩, .int .i64 n2, .int .i64 n3], .bool x2]) (by simp [results, Tryz.results45, go_sem, b0, b1, b2]) rfl ?_
            exact ⟨p1, n2, n3, by rw [HN.out], (fun g h => by obtain ⟨k1, k2, k3⟩ := HVal.out g h; cases g; dsimp only at k1 k2 k3; rw [HQ2.out _ k1, HQ3.out _ k2, k3]), below_set3 H01d.out _ _ _⟩
    · have HN := Lib.hid (groupW_word e1 hp0)
      have hq : (p0 == [64, 103, 114, 111, 117, 112]) = false := by simp; exact hp0
      have Hp0 := Lib.hid hp0
      have H4 := Lib.hid h4
      have E1 := Lib.hid e1
      clear hp0 h4 e1
      go_enter Tryz.func45, Tryz.ntmps45
      go_wp2_with fail
      refine (HS4.out _).mono ?_
      rintro e w1 ⟨⟨A, cp, rfl, hO⟩, hb1⟩
      have hBx := (Blk.new w #[.string ⟨#[]⟩, .int .i64 0, .int .i64 0] 47).keep hb1
      have h01 := bUp (bBox w (.cells #[.string ⟨#[]⟩, .int .i64 0, .int .i64 0] 47)) hb1
      have HSt := Lib.hid (OwnS.strs (ps := [p0, p1, p2, p3]) hO)
      clear hO
      obtain ⟨bb, off, rfl, hbl, hc⟩ := HSt.out (by simp)
      have s0 : w1.cell? ⟨bb, off, none⟩ = some (.string ⟨p0.toArray⟩) := hc 0 (by simp)
      clear hc
      have a0 := hBx.cell 0
      have f0 := hBx.frozen 0
      have a1 := hBx.cell 1
      have f1 := hBx.frozen 1
      have a2 := hBx.cell 2
      have f2 := hBx.frozen 2
      clear hBx hb1
      go_wp2_with fail
      refine bodyPost_ret (v := .tuple #[.agg #[.string ⟨#[]⟩, .int .i64 0, .int .i64 0], .bool false]) (by simp [results, Tryz.results45, go_sem, a0, a1, a2]) rfl ?_
      exact ⟨[], 0, 0, by rw [HN.out]; rfl, (fun q h => by rw [HN.out] at h; cases h), below_set3 h01 _ _ _⟩
  · have HN := Lib.hid (groupW_len h4)
    have hpl : (splitL 32 l).length ≤ 65537 := by rw [splitL_length]; have := List.count_le_length (a := (32 : UInt8)) (l := l); omega
    have hq : (((splitL 32 l).length : Int) != 4) = true := by simp; omega
    generalize splitL 32 l = ps at HS hq h4 hpl
    have H4 := Lib.hid h4
    clear h4
    clear hple
    go_enter Tryz.func45, Tryz.ntmps45
    go_wp2_with fail
    refine (HS.out _).mono ?_
    rintro e w1 ⟨⟨A, cp, rfl, hO⟩, hb1⟩
    have hBx := (Blk.new w #[.string ⟨#[]⟩, .int .i64 0, .int .i64 0] 47).keep hb1
    have h01 := bUp (bBox w (.cells #[.string ⟨#[]⟩, .int .i64 0, .int .i64 0] 47)) hb1
    clear hO
    have a0 := hBx.cell 0
    have f0 := hBx.frozen 0
    have a1 := hBx.cell 1
    have f1 := hBx.frozen 1
    have a2 := hBx.cell 2
    have f2 := hBx.frozen 2
    clear hBx hb1
    go_wp2_with fail
    refine bodyPost_ret (v := .tuple #[.agg #[.string ⟨#[]⟩, .int .i64 0, .int .i64 0], .bool false]) (by simp [results, Tryz.results45, go_sem, a0, a1, a2]) rfl ?_
    exact ⟨[], 0, 0, by rw [HN.out]; rfl, (fun q h => by rw [HN.out] at h; cases h), below_set3 h01 _ _ _⟩
end Go.Proofs.YthogkokifiibnaaGreatDoor
