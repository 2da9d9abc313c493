/- ParseFile of the reference; the law of reading files -/
import Derived.Test.YthogkokifiibnaaGreatDoorR13
import Derived.Test.YthogkokifiibnaaGreatDoorR12
import Derived.Test.YthogkokifiibnaaGreatDoorR11
import Derived.Test.YthogkokifiibnaaGreatDoorR5
import Derived.Test.YthogkokifiibnaaGreatDoorR6
namespace Go.Proofs.YthogkokifiibnaaGreatDoor
open Go.RowKit Go.Sort

theorem OwnI.apart {w : World} {base : Nat} {v v5 : Value} {zs : List Int} {n : Nat} (h : OwnI w base v zs) (hb : n ≤ base) (h5 : ∀ g, v5.ownBlock = some g → g < n) : ∀ g, v.ownBlock = some g → some g ≠ v5.ownBlock ∧ g < w.heap.size := fun g hg => by
  obtain ⟨h1, h2⟩ := World.ownsRow.lt h g hg
  refine ⟨fun e => ?_, h2⟩
  have := h5 g e.symm
  omega
theorem map_nth (zs : List (EntryD × Int)) {k : Nat} (h : k < zs.length) : nth (zs.map (·.2)) k = (zs[k]).2 := by simp [nth, h]
theorem map_ent (zs : List (EntryD × Int)) {k : Nat} (h : k < zs.length) : entAt (zs.map (·.1)) k = (zs[k]).1 := by simp [entAt, h]
theorem all_snoc {zs : List (EntryD × Int)} {k : Nat} (h : k < zs.length) (hk : (zs.take k).all (fun z => chksE z.1.els == 0) = true) (hz : chksE (zs[k]).1.els = 0) : (zs.take (k + 1)).all (fun z => chksE z.1.els == 0) = true := by
  rw [List.take_succ_eq_append_getElem h, List.all_append, hk]
  simp [hz]

set_option maxHeartbeats 16000000 in
set_option maxRecDepth 100000 in
theorem rfParseFile (l : List UInt8) (w : World) (hs : l.length ≤ 9223372036854775807) :
    Calls Tryz.prog 20 #[.string ⟨l.toArray⟩] w (FileOut (parseF l) w) := by
  by_cases hl : 65536 < l.length
  · have HV := Lib.hid (show parseF l = (zeroC, (2, 0)) by simp [parseF, hl])
    go_enter Tryz.func20, Tryz.ntmps20
    go_wp2_with fail
    refine bodyPost_ret (v := .tuple #[.agg #[.slice none 0 0, .slice none 0 0, .int .i64 0, .int .i64 0, .int .i64 0], .agg #[.int .i64 2, .int .i64 0]]) (by simp [results, Tryz.results20, go_sem]) rfl ?_
    rw [HV.out]
    exact ⟨none, 0, none, 0, rfl, EntsAt.nil, GroupsAt.nil, bUp (bBox _ _) (bBox _ _)⟩
  · have hV : parseF l = runF (linesL l) startF := by simp [parseF, hl]
    have HBad := Lib.hid (fun (k : Nat) (st : StF) hk h hb => hV.trans (run_bad (l := l) (k := k) (st := st) hk h hb))
    have HEnd := Lib.hid (fun (st : StF) h hn => hV.trans (run_end (l := l) (st := st) h hn))
    have HS := Lib.hid (show ∀ w', Calls Tryz.prog 42 #[.string ⟨l.toArray⟩, .int .u8 10] w' fun e w1 => (∃ A cp, e = .returned (.slice A (splitL 10 l).length cp) ∧ OwnS w1 w'.heap.size (.slice A (splitL 10 l).length cp) (splitL 10 l)) ∧ Below w'.heap.size w' w1 from fun w' => rfCut 10 l w' (by omega))
    have hple := splitL_piece_le 10 l
    have hpl : (splitL 10 l).length ≤ 65537 := by rw [splitL_length]; have := List.count_le_length (a := (10 : UInt8)) (l := l); omega
    have hp0 : 0 < (splitL 10 l).length := by rw [splitL_length]; omega
    generalize splitL 10 l = ps at HBad HEnd HS hple hpl hp0
    generalize parseF l = pf at hV HBad HEnd
    have HV := Lib.hid hV
    have Hple := Lib.hid hple
    clear hV hple
    go_enter Tryz.func20, Tryz.ntmps20
    go_wp2_with fail
    refine (HS.out _).mono ?_
    rintro e w1 ⟨⟨A, cp, rfl, hO⟩, hb1⟩
    have hQ := QInv.new hb1 hO
    have HQ0 := Lib.hid hQ
    clear hQ hb1 hO HS
    go_wp2_with fail
    go_loopw [5, 6, 8] (fun sv bg i wr => ∃ (k : Nat) (st : StF) (zs : List (EntryD × Int)) (v5 : Value), v5 = sv ∧ k ≤ ps.length ∧ i = .int .i64 k ∧ bg = .bool st.r.started ∧ Hid (stepsF (ps.take k) startF = some st) ∧ Hid (st.n = k) ∧ Hid (zs.map (·.1) = st.r.c.entries ∧ fstOf zs = st.first) ∧ Hid (st.r.started = false → st.r.c.entries = [] ∧ st.r.c.groups = []) ∧ zs.length ≤ k ∧ Hid (∀ z ∈ zs, z.1.els.length ≤ 70000) ∧ st.r.c.groups.length ≤ k ∧ Hid (QInv w wr st.r.c (zs.map (·.2)) v5 (.slice A ps.length cp) ps)) (fun _ _ i _ => ps.length - (intOf i).toNat)
    case atStart => exact ⟨0, startF, [], _, rfl, Nat.zero_le _, rfl, rfl, Lib.hid rfl, Lib.hid rfl, Lib.hid ⟨rfl, rfl⟩, Lib.hid (fun _ => ⟨rfl, rfl⟩), by simp, Lib.hid (fun z hz => by cases hz), by simp [startF, zeroC], HQ0⟩
    case round =>
      obtain ⟨k, st, zs, v5, rfl, hk, rfl, rfl, HSt, HNn, HZ, HW, hzl, HLn, hgl, HQ⟩ := hrel
      clear HQ0
      obtain ⟨⟨⟨es, gs, b, s, t⟩, started⟩, first, sn⟩ := st
      dsimp only at HNn HZ HW hgl HQ ⊢
      obtain rfl : k = sn := HNn.out.symm
      by_cases hlt : k < ps.length
      · obtain ⟨bb, off, rfl, hbl, hc⟩ := HQ.out.core.lines.strs.at_ hlt
        have hki : (k : Int) < ps.length := by omega
        have hpm := Hple.out _ (piece_mem hlt)
        have HBd := Lib.hid (fun h => HBad.out k _ hlt HSt.out h)
        have HNx := Lib.hid (stepsF_take hlt HSt.out)
        dsimp only at HBd
        generalize piece ps k = p at hc hpm HBd HNx
        have HBr := Lib.hid (fun w' => rfBare p w' (by omega))
        have htl := contentS_len p
        have hstep : ∀ x, stepF x p = stepT x (contentP p) := fun _ => rfl
        rw [hstep] at HBd HNx
        clear hstep
        generalize contentP p = tx at HBr htl HBd HNx
        by_cases ht : tx = []
        · subst ht
          have HN2 := Lib.hid (show stepsF (ps.take (k + 1)) startF = some ⟨⟨⟨es, gs, b, s, t⟩, started⟩, first, k + 1⟩ from HNx.out)
          clear HNx HBd
          go_wp2_with fail
          refine (HBr.out _).mono ?_
          rintro e w2 ⟨rfl, rfl⟩
          go_wp2_with fail
          go_roundw
          case rel => exact ⟨k + 1, ⟨⟨⟨es, gs, b, s, t⟩, started⟩, first, k + 1⟩, zs, v5, rfl, by omega, by go_num, rfl, HN2, Lib.hid rfl, HZ, HW, by omega, HLn, by dsimp only; omega, HQ⟩
          case measure => simp [intOf]; omega
        · have hq2 : (tx == []) = false := by simp [ht]
          have htp : 0 < tx.length := by cases tx with | nil => exact absurd rfl ht | cons => simp
          have htl2 : tx.length ≤ 65536 := by omega
          cases started with
          | false =>
            obtain ⟨he0, hg0⟩ := HW.out rfl
            subst he0 hg0
            have hsb := stepT_base (s := ⟨⟨⟨[], [], b, s, t⟩, false⟩, first, k⟩) rfl ht
            dsimp only at hsb
            rw [hsb] at HBd HNx
            have HBs := Lib.hid (fun w' => rfBase tx w' htl2)
            unfold BaseOut at HBs
            cases hbw : baseW tx with
            | none =>
              rw [hbw] at HBs HBd
              have HR := Lib.hid (HBd.out rfl)
              have Ht := Lib.hid ht
              have Hbw := Lib.hid hbw
              have Hsb := Lib.hid hsb
              clear ht hbw hsb
              clear HNx HBd
              go_wp2_with fail
              refine (HBr.out _).mono ?_
              rintro e w2 ⟨rfl, rfl⟩
              go_wp2_with fail
              refine (HBs.out _).mono ?_
              rintro e w3 ⟨n1, n2, n3, rfl, _, hb3⟩
              have HQ3 := Lib.hid (HQ.out.keep hb3)
              clear hb3
              obtain ⟨vE, vG, hB3, _, _⟩ := HQ3.out.cc
              unfold ccells at hB3
              have d0 := hB3.cell 0
              have e0 := hB3.frozen 0
              have d1 := hB3.cell 1
              have e1 := hB3.frozen 1
              have d2 := hB3.cell 2
              have e2 := hB3.frozen 2
              have d3 := hB3.cell 3
              have e3 := hB3.frozen 3
              have d4 := hB3.cell 4
              have e4 := hB3.frozen 4
              clear hB3
              have a0 := HQ3.out.core.b0.cell 0
              have f0 := HQ3.out.core.b0.frozen 0
              have a1 := HQ3.out.core.b0.cell 1
              have f1 := HQ3.out.core.b0.frozen 1
              have a2 := HQ3.out.core.b0.cell 2
              have f2 := HQ3.out.core.b0.frozen 2
              have a3 := HQ3.out.core.b0.cell 3
              have f3 := HQ3.out.core.b0.frozen 3
              have a4 := HQ3.out.core.b0.cell 4
              have f4 := HQ3.out.core.b0.frozen 4
              have c0 := HQ3.out.core.b1.cell 0
              have g0 := HQ3.out.core.b1.frozen 0
              have c1 := HQ3.out.core.b1.cell 1
              have g1 := HQ3.out.core.b1.frozen 1
              unfold zCells at a0 a1 a2 a3 a4
              go_wp2_with fail
              refine bodyPost_ret (v := .tuple #[.agg #[.slice none 0 0, .slice none 0 0, .int .i64 0, .int .i64 0, .int .i64 0], .agg #[.int .i64 3, .int .i64 ((k : Int) + 1)]]) (by simp [results, Tryz.results20, go_sem, a0, a1, a2, a3, a4, c0, c1]) rfl ?_
              rw [HR.out]
              exact ⟨none, 0, none, 0, rfl, EntsAt.nil, GroupsAt.nil, (HQ3.out.base _ _ _).core.fin _ _ _ _ _ _ _⟩
            | some q =>
              obtain ⟨n1, n2, n3⟩ := q
              rw [hbw] at HBs HNx
              have HN2 := Lib.hid (show stepsF (ps.take (k + 1)) startF = some ⟨⟨⟨[], [], n1, n2, n3⟩, true⟩, first, k + 1⟩ from HNx.out)
              have Ht := Lib.hid ht
              have Hbw := Lib.hid hbw
              have Hsb := Lib.hid hsb
              clear ht hbw hsb
              clear HNx HBd
              go_wp2_with fail
              refine (HBr.out _).mono ?_
              rintro e w2 ⟨rfl, rfl⟩
              go_wp2_with fail
              refine (HBs.out _).mono ?_
              rintro e w3 ⟨m1, m2, m3, rfl, hm, hb3⟩
              have hm1 := hm _ rfl
              injection hm1 with hm1 hm2
              injection hm2 with hm2 hm3
              subst hm1 hm2 hm3
              have HQ3 := Lib.hid (HQ.out.keep hb3)
              clear hb3 hm
              obtain ⟨vE, vG, hB3, _, _⟩ := HQ3.out.cc
              unfold ccells at hB3
              have d0 := hB3.cell 0
              have e0 := hB3.frozen 0
              have d1 := hB3.cell 1
              have e1 := hB3.frozen 1
              have d2 := hB3.cell 2
              have e2 := hB3.frozen 2
              have d3 := hB3.cell 3
              have e3 := hB3.frozen 3
              have d4 := hB3.cell 4
              have e4 := hB3.frozen 4
              clear hB3
              go_wp2_with fail
              go_roundw
              case rel => exact ⟨k + 1, ⟨⟨⟨[], [], n1, n2, n3⟩, true⟩, first, k + 1⟩, zs, v5, rfl, by omega, by go_num, rfl, HN2, Lib.hid rfl, HZ, Lib.hid (fun h => by cases h), by omega, HLn, by dsimp only; simp, Lib.hid (HQ3.out.base n1 n2 n3)⟩
              case measure => simp [intOf]; omega
          | true =>
            obtain ⟨vE0, vG0, hB0, hX0, hG0⟩ := HQ.out.cc
            obtain ⟨AE, cE, rfl⟩ := hX0.own.form
            obtain ⟨AG, cG, rfl⟩ := hG0.form
            have hel : es.length ≤ 65537 := by
              have := congrArg List.length HZ.out.1
              rw [List.length_map] at this
              omega
            have HB0 := Lib.hid hB0
            have HX0 := Lib.hid hX0
            have HG0 := Lib.hid hG0
            have d0 : wr.cell? ⟨w.heap.size + 2, 0, none⟩ = some (.slice AE es.length cE) := hB0.cell 0
            clear hB0 hX0 hG0
            have hbt := btN_lt tx 0
            have h5 : ∀ g, v5.ownBlock = some g → g < wr.heap.size := fun g hg => (World.ownsRow.lt HQ.out.core.nums g hg).2
            have H5 := Lib.hid h5
            clear h5
            by_cases hway : btN tx 0 = 64 ∧ es = []
            · obtain ⟨h64, rfl⟩ := hway
              have e64 : ((btN tx 0 : Int) == 64) = true := by simp; omega
              have hsb := stepT_group (s := ⟨⟨⟨[], gs, b, s, t⟩, true⟩, first, k⟩) rfl rfl ((head_at htp).2 h64)
              dsimp only at hsb
              rw [hsb] at HBd HNx
              have HGs := Lib.hid (fun w' => rfGroup tx w' htl2)
              unfold GroupOut at HGs
              have H64 := Lib.hid h64
              have Hsb := Lib.hid hsb
              have Ht := Lib.hid ht
              clear h64 hsb ht
              cases hgw : groupW tx with
              | none =>
                rw [hgw] at HGs HBd
                have HR := Lib.hid (HBd.out rfl)
                have Hgw := Lib.hid hgw
                clear hgw
                clear HNx HBd
                go_wp2_with fail
                refine (HBr.out _).mono ?_
                rintro e w2 ⟨rfl, rfl⟩
                go_wp2_with fail
                refine (HGs.out _).mono ?_
                rintro e w3 ⟨nm, m1, m2, rfl, hm, hb3⟩
                clear hm d0
                have HC3 := Lib.hid (HQ.out.core.keep hb3)
                have HB3 := Lib.hid (HB0.out.keep hb3)
                have HX3 := Lib.hid (HX0.out.keptT (KeptT.of_below hb3) hb3.size)
                have HG3 := Lib.hid (HG0.out.keep hb3)
                clear hb3 HB0 HX0 HG0
                have d1 : w3.cell? ⟨w.heap.size + 2, 1, none⟩ = some (.slice AG gs.length cG) := HB3.out.cell 1
                have z1 : w.heap.size + 2 < w3.heap.size := HB3.out.lt
                have z2 : w.heap.size + 2 ≤ w3.heap.size := by omega
                have z3 : w.heap.size + 2 < w3.heap.size + 1 := by omega
                have z4 : w.heap.size + 2 ≤ w3.heap.size + 1 := by omega
                have hbx := bBox w3 (.cells #[.string ⟨nm.toArray⟩, .int .i64 m1, .int .i64 m2] 47)
                go_wp2_with (at_builtin; refine wpQG (w := w) (c := ⟨[], gs, b, s, t⟩) rfl _ _ rfl (HC3.out.keep hbx) (HB3.out.keep hbx) (HX3.out.keptT (KeptT.of_below hbx) hbx.size) (HG3.out.keep hbx) rfl ⟨nm, m1, m2⟩ ?hxg0 ?hlg0 ?_)
                case hxg0 => simp [go_sem]
                case hlg0 => omega
                intro v' w4 hv4 hB4 HC4 HQ4
                obtain ⟨A4, k4, rfl⟩ := hv4
                clear hbx d1 z1 z2 z3 z4 HC3 HB3 HX3 HG3
                have d1 := hB4.cell 1
                have e1 := hB4.frozen 1
                unfold ccells at d1
                clear hB4
                have a0 := HC4.out.b0.cell 0
                have f0 := HC4.out.b0.frozen 0
                have a1 := HC4.out.b0.cell 1
                have f1 := HC4.out.b0.frozen 1
                have a2 := HC4.out.b0.cell 2
                have f2 := HC4.out.b0.frozen 2
                have a3 := HC4.out.b0.cell 3
                have f3 := HC4.out.b0.frozen 3
                have a4 := HC4.out.b0.cell 4
                have f4 := HC4.out.b0.frozen 4
                have c0 := HC4.out.b1.cell 0
                have g0 := HC4.out.b1.frozen 0
                have c1 := HC4.out.b1.cell 1
                have g1 := HC4.out.b1.frozen 1
                unfold zCells at a0 a1 a2 a3 a4
                go_wp2_with fail
                refine bodyPost_ret (v := .tuple #[.agg #[.slice none 0 0, .slice none 0 0, .int .i64 0, .int .i64 0, .int .i64 0], .agg #[.int .i64 3, .int .i64 ((k : Int) + 1)]]) (by simp [results, Tryz.results20, go_sem, a0, a1, a2, a3, a4, c0, c1]) rfl ?_
                rw [HR.out]
                exact ⟨none, 0, none, 0, rfl, EntsAt.nil, GroupsAt.nil, HQ4.out.core.fin _ _ _ _ _ _ _⟩
              | some g =>
                obtain ⟨gn, ga, gb⟩ := g
                rw [hgw] at HGs HNx
                have HN2 := Lib.hid (show stepsF (ps.take (k + 1)) startF = some ⟨⟨⟨[], gs ++ [⟨gn, ga, gb⟩], b, s, t⟩, true⟩, first, k + 1⟩ from HNx.out)
                have Hgw := Lib.hid hgw
                clear hgw
                clear HNx HBd
                go_wp2_with fail
                refine (HBr.out _).mono ?_
                rintro e w2 ⟨rfl, rfl⟩
                go_wp2_with fail
                refine (HGs.out _).mono ?_
                rintro e w3 ⟨nm, m1, m2, rfl, hm, hb3⟩
                have hm1 := hm _ rfl
                injection hm1 with hm1 hm2 hm3
                subst hm1 hm2 hm3
                clear hm d0
                have HC3 := Lib.hid (HQ.out.core.keep hb3)
                have HB3 := Lib.hid (HB0.out.keep hb3)
                have HX3 := Lib.hid (HX0.out.keptT (KeptT.of_below hb3) hb3.size)
                have HG3 := Lib.hid (HG0.out.keep hb3)
                clear hb3 HB0 HX0 HG0
                have d1 : w3.cell? ⟨w.heap.size + 2, 1, none⟩ = some (.slice AG gs.length cG) := HB3.out.cell 1
                have z1 : w.heap.size + 2 < w3.heap.size := HB3.out.lt
                have z2 : w.heap.size + 2 ≤ w3.heap.size := by omega
                have z3 : w.heap.size + 2 < w3.heap.size + 1 := by omega
                have z4 : w.heap.size + 2 ≤ w3.heap.size + 1 := by omega
                have hbx := bBox w3 (.cells #[.string ⟨gn.toArray⟩, .int .i64 ga, .int .i64 gb] 47)
                go_wp2_with (at_builtin; refine wpQG (w := w) (c := ⟨[], gs, b, s, t⟩) rfl _ _ rfl (HC3.out.keep hbx) (HB3.out.keep hbx) (HX3.out.keptT (KeptT.of_below hbx) hbx.size) (HG3.out.keep hbx) rfl ⟨gn, ga, gb⟩ ?hxg1 ?hlg1 ?_)
                case hxg1 => simp [go_sem]
                case hlg1 => omega
                intro v' w4 hv4 hB4 HC4 HQ4
                obtain ⟨A4, k4, rfl⟩ := hv4
                clear hbx d1 z1 z2 z3 z4 HC3 HB3 HX3 HG3
                have d1 := hB4.cell 1
                have e1 := hB4.frozen 1
                unfold ccells at d1
                clear hB4
                go_wp2_with fail
                go_roundw
                case rel => exact ⟨k + 1, ⟨⟨⟨[], gs ++ [⟨gn, ga, gb⟩], b, s, t⟩, true⟩, first, k + 1⟩, zs, v5, rfl, by omega, by go_num, rfl, HN2, Lib.hid rfl, HZ, Lib.hid (fun h => by cases h), by omega, HLn, by dsimp only; simp; omega, HQ4⟩
                case measure => simp [intOf]; omega
            · have hsb := stepT_entry (s := ⟨⟨⟨es, gs, b, s, t⟩, true⟩, first, k⟩) rfl ht (fun h => hway ⟨(head_at htp).1 h.1, h.2⟩)
              dsimp only at hsb
              rw [hsb] at HBd HNx
              have HEs := Lib.hid (fun w' => rfEntry tx w' htl2)
              unfold EntOutR at HEs
              have hcond : ∃ b1 b2 : Bool, ((btN tx 0 : Int) == 64) = b1 ∧ ((es.length : Int) == 0) = b2 ∧ (b1 && b2) = false := by
                refine ⟨_, _, rfl, rfl, ?_⟩
                by_cases h1 : btN tx 0 = 64
                · have h2 : ¬ es = [] := fun h => hway ⟨h1, h⟩
                  have h3 : 0 < es.length := by cases es with | nil => exact absurd rfl h2 | cons => simp
                  have h4 : ((es.length : Int) == 0) = false := by simp; omega
                  rw [h4, Bool.and_false]
                · have h4 : ((btN tx 0 : Int) == 64) = false := by simp; omega
                  rw [h4, Bool.false_and]
              obtain ⟨b1, b2, q1, q2, q3⟩ := hcond
              have Hway := Lib.hid hway
              have Hsb := Lib.hid hsb
              have Ht := Lib.hid ht
              clear hway hsb ht
              cases hew : entP tx with
              | none =>
                rw [hew] at HEs HBd
                have HR := Lib.hid (HBd.out rfl)
                have Hew := Lib.hid hew
                clear hew
                clear HNx HBd
                cases b1 <;> cases b2
                case true.true => cases q3
                case false.false =>
                  clear q3
                  go_wp2_with fail
                  refine (HBr.out _).mono ?_
                  rintro e w2 ⟨rfl, rfl⟩
                  go_wp2_with fail
                  refine (HEs.out _).mono ?_
                  rintro e w3 ⟨A1, A2, c1, c2, ys, xs, rfl, hO1, hO2, hm, hb3, hyl, hxl⟩
                  clear hm d0 hxl hyl
                  have HC3 := Lib.hid (HQ.out.core.keep hb3)
                  have HB3 := Lib.hid (HB0.out.keep hb3)
                  have HX3 := Lib.hid (HX0.out.keptT (KeptT.of_below hb3) hb3.size)
                  have HG3 := Lib.hid (HG0.out.keep hb3)
                  have HCd := Lib.hid (CdB.of_own hO1)
                  have HEl := Lib.hid (ElB.of_own hO2)
                  have HSp := Lib.hid (OwnI.apart hO1 (Nat.le_refl _) H5.out)
                  clear hb3 HB0 HX0 HG0 hO1 hO2
                  have d0 : w3.cell? ⟨w.heap.size + 2, 0, none⟩ = some (.slice AE es.length cE) := HB3.out.cell 0
                  have z1 : w.heap.size + 2 < w3.heap.size := HB3.out.lt
                  have z2 : w.heap.size + 2 ≤ w3.heap.size := by omega
                  have z3 : w.heap.size + 2 < w3.heap.size + 1 := by omega
                  have z4 : w.heap.size + 2 ≤ w3.heap.size + 1 := by omega
                  have hbx := bBox w3 (.cells #[.slice A1 ys.length c1, .slice A2 xs.length c2] 50)
                  go_wp2_with (at_builtin; refine wpQN (w := w) (c := ⟨es, gs, b, s, t⟩) rfl _ _ rfl (HC3.out.keep hbx) (HB3.out.keep hbx) (HX3.out.keptT (KeptT.of_below hbx) hbx.size) (HG3.out.keep hbx) rfl ⟨ys, xs⟩ (HCd.out.keptT (KeptT.of_below hbx)) (HEl.out.keptT (KeptT.of_below hbx)) (fun g hg => ⟨(HSp.out g hg).1, Nat.lt_of_lt_of_le (HSp.out g hg).2 hbx.size⟩) ?hxn00 ?hln00 ?_)
                  case hxn00 => simp [go_sem]
                  case hln00 => omega
                  intro v' w4 hv4 hB4 HC4 HQ4
                  obtain ⟨A4, k4, rfl⟩ := hv4
                  clear hbx d0 z1 z2 z3 z4 HC3 HB3 HX3 HG3 HCd HEl HSp
                  have d0 := hB4.cell 0
                  have e0 := hB4.frozen 0
                  unfold ccells at d0
                  clear hB4
                  have hzz : (zs.map (·.2)).length + 1 ≤ 1000000 := by rw [List.length_map]; omega
                  go_wp2_with (at_builtin; refine wpQI rfl _ _ rfl HQ4.out rfl ((k : Int) + 1) ?hxi00 hzz ?_)
                  (try case hxi00 => simp [go_sem])
                  intro v6 w5 HQ5
                  clear hzz d0 e0 HQ4 HC4
                  have a0 := HQ5.out.core.b0.cell 0
                  have f0 := HQ5.out.core.b0.frozen 0
                  have a1 := HQ5.out.core.b0.cell 1
                  have f1 := HQ5.out.core.b0.frozen 1
                  have a2 := HQ5.out.core.b0.cell 2
                  have f2 := HQ5.out.core.b0.frozen 2
                  have a3 := HQ5.out.core.b0.cell 3
                  have f3 := HQ5.out.core.b0.frozen 3
                  have a4 := HQ5.out.core.b0.cell 4
                  have f4 := HQ5.out.core.b0.frozen 4
                  have c0 := HQ5.out.core.b1.cell 0
                  have g0 := HQ5.out.core.b1.frozen 0
                  have c1 := HQ5.out.core.b1.cell 1
                  have g1 := HQ5.out.core.b1.frozen 1
                  unfold zCells at a0 a1 a2 a3 a4
                  go_wp2_with fail
                  refine bodyPost_ret (v := .tuple #[.agg #[.slice none 0 0, .slice none 0 0, .int .i64 0, .int .i64 0, .int .i64 0], .agg #[.int .i64 3, .int .i64 ((k : Int) + 1)]]) (by simp [results, Tryz.results20, go_sem, a0, a1, a2, a3, a4, c0, c1]) rfl ?_
                  rw [HR.out]
                  exact ⟨none, 0, none, 0, rfl, EntsAt.nil, GroupsAt.nil, HQ5.out.core.fin _ _ _ _ _ _ _⟩
                case false.true =>
                  clear q3
                  go_wp2_with fail
                  refine (HBr.out _).mono ?_
                  rintro e w2 ⟨rfl, rfl⟩
                  go_wp2_with fail
                  refine (HEs.out _).mono ?_
                  rintro e w3 ⟨A1, A2, c1, c2, ys, xs, rfl, hO1, hO2, hm, hb3, hyl, hxl⟩
                  clear hm d0 hxl hyl
                  have HC3 := Lib.hid (HQ.out.core.keep hb3)
                  have HB3 := Lib.hid (HB0.out.keep hb3)
                  have HX3 := Lib.hid (HX0.out.keptT (KeptT.of_below hb3) hb3.size)
                  have HG3 := Lib.hid (HG0.out.keep hb3)
                  have HCd := Lib.hid (CdB.of_own hO1)
                  have HEl := Lib.hid (ElB.of_own hO2)
                  have HSp := Lib.hid (OwnI.apart hO1 (Nat.le_refl _) H5.out)
                  clear hb3 HB0 HX0 HG0 hO1 hO2
                  have d0 : w3.cell? ⟨w.heap.size + 2, 0, none⟩ = some (.slice AE es.length cE) := HB3.out.cell 0
                  have z1 : w.heap.size + 2 < w3.heap.size := HB3.out.lt
                  have z2 : w.heap.size + 2 ≤ w3.heap.size := by omega
                  have z3 : w.heap.size + 2 < w3.heap.size + 1 := by omega
                  have z4 : w.heap.size + 2 ≤ w3.heap.size + 1 := by omega
                  have hbx := bBox w3 (.cells #[.slice A1 ys.length c1, .slice A2 xs.length c2] 50)
                  go_wp2_with (at_builtin; refine wpQN (w := w) (c := ⟨es, gs, b, s, t⟩) rfl _ _ rfl (HC3.out.keep hbx) (HB3.out.keep hbx) (HX3.out.keptT (KeptT.of_below hbx) hbx.size) (HG3.out.keep hbx) rfl ⟨ys, xs⟩ (HCd.out.keptT (KeptT.of_below hbx)) (HEl.out.keptT (KeptT.of_below hbx)) (fun g hg => ⟨(HSp.out g hg).1, Nat.lt_of_lt_of_le (HSp.out g hg).2 hbx.size⟩) ?hxn01 ?hln01 ?_)
                  case hxn01 => simp [go_sem]
                  case hln01 => omega
                  intro v' w4 hv4 hB4 HC4 HQ4
                  obtain ⟨A4, k4, rfl⟩ := hv4
                  clear hbx d0 z1 z2 z3 z4 HC3 HB3 HX3 HG3 HCd HEl HSp
                  have d0 := hB4.cell 0
                  have e0 := hB4.frozen 0
                  unfold ccells at d0
                  clear hB4
                  have hzz : (zs.map (·.2)).length + 1 ≤ 1000000 := by rw [List.length_map]; omega
                  go_wp2_with (at_builtin; refine wpQI rfl _ _ rfl HQ4.out rfl ((k : Int) + 1) ?hxi01 hzz ?_)
                  (try case hxi01 => simp [go_sem])
                  intro v6 w5 HQ5
                  clear hzz d0 e0 HQ4 HC4
                  have a0 := HQ5.out.core.b0.cell 0
                  have f0 := HQ5.out.core.b0.frozen 0
                  have a1 := HQ5.out.core.b0.cell 1
                  have f1 := HQ5.out.core.b0.frozen 1
                  have a2 := HQ5.out.core.b0.cell 2
                  have f2 := HQ5.out.core.b0.frozen 2
                  have a3 := HQ5.out.core.b0.cell 3
                  have f3 := HQ5.out.core.b0.frozen 3
                  have a4 := HQ5.out.core.b0.cell 4
                  have f4 := HQ5.out.core.b0.frozen 4
                  have c0 := HQ5.out.core.b1.cell 0
                  have g0 := HQ5.out.core.b1.frozen 0
                  have c1 := HQ5.out.core.b1.cell 1
                  have g1 := HQ5.out.core.b1.frozen 1
                  unfold zCells at a0 a1 a2 a3 a4
                  go_wp2_with fail
                  refine bodyPost_ret (v := .tuple #[.agg #[.slice none 0 0, .slice none 0 0, .int .i64 0, .int .i64 0, .int .i64 0], .agg #[.int .i64 3, .int .i64 ((k : Int) + 1)]]) (by simp [results, Tryz.results20, go_sem, a0, a1, a2, a3, a4, c0, c1]) rfl ?_
                  rw [HR.out]
                  exact ⟨none, 0, none, 0, rfl, EntsAt.nil, GroupsAt.nil, HQ5.out.core.fin _ _ _ _ _ _ _⟩
                case true.false =>
                  clear q3
                  go_wp2_with fail
                  refine (HBr.out _).mono ?_
                  rintro e w2 ⟨rfl, rfl⟩
                  go_wp2_with fail
                  refine (HEs.out _).mono ?_
                  rintro e w3 ⟨A1, A2, c1, c2, ys, xs, rfl, hO1, hO2, hm, hb3, hyl, hxl⟩
                  clear hm d0 hxl hyl
                  have HC3 := Lib.hid (HQ.out.core.keep hb3)
                  have HB3 := Lib.hid (HB0.out.keep hb3)
                  have HX3 := Lib.hid (HX0.out.keptT (KeptT.of_below hb3) hb3.size)
                  have HG3 := Lib.hid (HG0.out.keep hb3)
                  have HCd := Lib.hid (CdB.of_own hO1)
                  have HEl := Lib.hid (ElB.of_own hO2)
                  have HSp := Lib.hid (OwnI.apart hO1 (Nat.le_refl _) H5.out)
                  clear hb3 HB0 HX0 HG0 hO1 hO2
                  have d0 : w3.cell? ⟨w.heap.size + 2, 0, none⟩ = some (.slice AE es.length cE) := HB3.out.cell 0
                  have z1 : w.heap.size + 2 < w3.heap.size := HB3.out.lt
                  have z2 : w.heap.size + 2 ≤ w3.heap.size := by omega
                  have z3 : w.heap.size + 2 < w3.heap.size + 1 := by omega
                  have z4 : w.heap.size + 2 ≤ w3.heap.size + 1 := by omega
                  have hbx := bBox w3 (.cells #[.slice A1 ys.length c1, .slice A2 xs.length c2] 50)
                  go_wp2_with (at_builtin; refine wpQN (w := w) (c := ⟨es, gs, b, s, t⟩) rfl _ _ rfl (HC3.out.keep hbx) (HB3.out.keep hbx) (HX3.out.keptT (KeptT.of_below hbx) hbx.size) (HG3.out.keep hbx) rfl ⟨ys, xs⟩ (HCd.out.keptT (KeptT.of_below hbx)) (HEl.out.keptT (KeptT.of_below hbx)) (fun g hg => ⟨(HSp.out g hg).1, Nat.lt_of_lt_of_le (HSp.out g hg).2 hbx.size⟩) ?hxn02 ?hln02 ?_)
                  case hxn02 => simp [go_sem]
                  case hln02 => omega
                  intro v' w4 hv4 hB4 HC4 HQ4
                  obtain ⟨A4, k4, rfl⟩ := hv4
                  clear hbx d0 z1 z2 z3 z4 HC3 HB3 HX3 HG3 HCd HEl HSp
                  have d0 := hB4.cell 0
                  have e0 := hB4.frozen 0
                  unfold ccells at d0
                  clear hB4
                  have hzz : (zs.map (·.2)).length + 1 ≤ 1000000 := by rw [List.length_map]; omega
                  go_wp2_with (at_builtin; refine wpQI rfl _ _ rfl HQ4.out rfl ((k : Int) + 1) ?hxi02 hzz ?_)
                  (try case hxi02 => simp [go_sem])
                  intro v6 w5 HQ5
                  clear hzz d0 e0 HQ4 HC4
                  have a0 := HQ5.out.core.b0.cell 0
                  have f0 := HQ5.out.core.b0.frozen 0
                  have a1 := HQ5.out.core.b0.cell 1
                  have f1 := HQ5.out.core.b0.frozen 1
                  have a2 := HQ5.out.core.b0.cell 2
                  have f2 := HQ5.out.core.b0.frozen 2
                  have a3 := HQ5.out.core.b0.cell 3
                  have f3 := HQ5.out.core.b0.frozen 3
                  have a4 := HQ5.out.core.b0.cell 4
                  have f4 := HQ5.out.core.b0.frozen 4
                  have c0 := HQ5.out.core.b1.cell 0
                  have g0 := HQ5.out.core.b1.frozen 0
                  have c1 := HQ5.out.core.b1.cell 1
                  have g1 := HQ5.out.core.b1.frozen 1
                  unfold zCells at a0 a1 a2 a3 a4
                  go_wp2_with fail
                  refine bodyPost_ret (v := .tuple #[.agg #[.slice none 0 0, .slice none 0 0, .int .i64 0, .int .i64 0, .int .i64 0], .agg #[.int .i64 3, .int .i64 ((k : Int) + 1)]]) (by simp [results, Tryz.results20, go_sem, a0, a1, a2, a3, a4, c0, c1]) rfl ?_
                  rw [HR.out]
                  exact ⟨none, 0, none, 0, rfl, EntsAt.nil, GroupsAt.nil, HQ5.out.core.fin _ _ _ _ _ _ _⟩
              | some x =>
                obtain ⟨xc, xe⟩ := x
                rw [hew] at HEs HNx
                have HN2 := Lib.hid (show stepsF (ps.take (k + 1)) startF = some ⟨⟨⟨es ++ [⟨xc, xe⟩], gs, b, s, t⟩, true⟩, fstOf (zs ++ [(⟨xc, xe⟩, (k : Int) + 1)]), k + 1⟩ by rw [HNx.out, fstOf_snoc, HZ.out.2]; rfl)
                have HZ2 := Lib.hid (show (zs ++ [((⟨xc, xe⟩ : EntryD), (k : Int) + 1)]).map (·.1) = es ++ [⟨xc, xe⟩] by rw [List.map_append, HZ.out.1]; rfl)
                have Hew := Lib.hid hew
                clear hew
                clear HNx HBd
                cases b1 <;> cases b2
                case true.true => cases q3
                case false.false =>
                  clear q3
                  go_wp2_with fail
                  refine (HBr.out _).mono ?_
                  rintro e w2 ⟨rfl, rfl⟩
                  go_wp2_with fail
                  refine (HEs.out _).mono ?_
                  rintro e w3 ⟨A1, A2, c1, c2, ys, xs, rfl, hO1, hO2, hm, hb3, hyl, hxl⟩
                  have hm1 := hm _ rfl
                  injection hm1 with hm1 hm2
                  subst hm1 hm2
                  have HL2 : Hid (∀ z ∈ zs ++ [((⟨xc, xe⟩ : EntryD), (k : Int) + 1)], z.1.els.length ≤ 70000) := Lib.hid (fun z hz => by rcases List.mem_append.1 hz with hz | hz; exact HLn.out z hz; simp at hz; subst hz; exact hxl)
                  clear hm d0 hxl hyl
                  have HC3 := Lib.hid (HQ.out.core.keep hb3)
                  have HB3 := Lib.hid (HB0.out.keep hb3)
                  have HX3 := Lib.hid (HX0.out.keptT (KeptT.of_below hb3) hb3.size)
                  have HG3 := Lib.hid (HG0.out.keep hb3)
                  have HCd := Lib.hid (CdB.of_own hO1)
                  have HEl := Lib.hid (ElB.of_own hO2)
                  have HSp := Lib.hid (OwnI.apart hO1 (Nat.le_refl _) H5.out)
                  clear hb3 HB0 HX0 HG0 hO1 hO2
                  have d0 : w3.cell? ⟨w.heap.size + 2, 0, none⟩ = some (.slice AE es.length cE) := HB3.out.cell 0
                  have z1 : w.heap.size + 2 < w3.heap.size := HB3.out.lt
                  have z2 : w.heap.size + 2 ≤ w3.heap.size := by omega
                  have z3 : w.heap.size + 2 < w3.heap.size + 1 := by omega
                  have z4 : w.heap.size + 2 ≤ w3.heap.size + 1 := by omega
                  have hbx := bBox w3 (.cells #[.slice A1 xc.length c1, .slice A2 xe.length c2] 50)
                  go_wp2_with (at_builtin; refine wpQN (w := w) (c := ⟨es, gs, b, s, t⟩) rfl _ _ rfl (HC3.out.keep hbx) (HB3.out.keep hbx) (HX3.out.keptT (KeptT.of_below hbx) hbx.size) (HG3.out.keep hbx) rfl ⟨xc, xe⟩ (HCd.out.keptT (KeptT.of_below hbx)) (HEl.out.keptT (KeptT.of_below hbx)) (fun g hg => ⟨(HSp.out g hg).1, Nat.lt_of_lt_of_le (HSp.out g hg).2 hbx.size⟩) ?hxn10 ?hln10 ?_)
                  case hxn10 => simp [go_sem]
                  case hln10 => omega
                  intro v' w4 hv4 hB4 HC4 HQ4
                  obtain ⟨A4, k4, rfl⟩ := hv4
                  clear hbx d0 z1 z2 z3 z4 HC3 HB3 HX3 HG3 HCd HEl HSp
                  have d0 := hB4.cell 0
                  have e0 := hB4.frozen 0
                  unfold ccells at d0
                  clear hB4
                  have hzz : (zs.map (·.2)).length + 1 ≤ 1000000 := by rw [List.length_map]; omega
                  go_wp2_with (at_builtin; refine wpQI rfl _ _ rfl HQ4.out rfl ((k : Int) + 1) ?hxi10 hzz ?_)
                  (try case hxi10 => simp [go_sem])
                  intro v6 w5 HQ5
                  clear hzz d0 e0 HQ4 HC4
                  have HQ6 := Lib.hid (show QInv w w5 ⟨es ++ [⟨xc, xe⟩], gs, b, s, t⟩ ((zs ++ [((⟨xc, xe⟩ : EntryD), (k : Int) + 1)]).map (·.2)) v6 _ ps by have h := HQ5.out; rw [List.map_append]; exact h)
                  go_wp2_with fail
                  go_roundw
                  case rel => exact ⟨k + 1, ⟨⟨⟨es ++ [⟨xc, xe⟩], gs, b, s, t⟩, true⟩, fstOf (zs ++ [(⟨xc, xe⟩, (k : Int) + 1)]), k + 1⟩, zs ++ [(⟨xc, xe⟩, (k : Int) + 1)], v6, rfl, by omega, by go_num, rfl, HN2, Lib.hid rfl, Lib.hid ⟨HZ2.out, rfl⟩, Lib.hid (fun h => by cases h), by simp; omega, HL2, by dsimp only; omega, HQ6⟩
                  case measure => simp [intOf]; omega
                case false.true =>
                  clear q3
                  go_wp2_with fail
                  refine (HBr.out _).mono ?_
                  rintro e w2 ⟨rfl, rfl⟩
                  go_wp2_with fail
                  refine (HEs.out _).mono ?_
                  rintro e w3 ⟨A1, A2, c1, c2, ys, xs, rfl, hO1, hO2, hm, hb3, hyl, hxl⟩
                  have hm1 := hm _ rfl
                  injection hm1 with hm1 hm2
                  subst hm1 hm2
                  have HL2 : Hid (∀ z ∈ zs ++ [((⟨xc, xe⟩ : EntryD), (k : Int) + 1)], z.1.els.length ≤ 70000) := Lib.hid (fun z hz => by rcases List.mem_append.1 hz with hz | hz; exact HLn.out z hz; simp at hz; subst hz; exact hxl)
                  clear hm d0 hxl hyl
                  have HC3 := Lib.hid (HQ.out.core.keep hb3)
                  have HB3 := Lib.hid (HB0.out.keep hb3)
                  have HX3 := Lib.hid (HX0.out.keptT (KeptT.of_below hb3) hb3.size)
                  have HG3 := Lib.hid (HG0.out.keep hb3)
                  have HCd := Lib.hid (CdB.of_own hO1)
                  have HEl := Lib.hid (ElB.of_own hO2)
                  have HSp := Lib.hid (OwnI.apart hO1 (Nat.le_refl _) H5.out)
                  clear hb3 HB0 HX0 HG0 hO1 hO2
                  have d0 : w3.cell? ⟨w.heap.size + 2, 0, none⟩ = some (.slice AE es.length cE) := HB3.out.cell 0
                  have z1 : w.heap.size + 2 < w3.heap.size := HB3.out.lt
                  have z2 : w.heap.size + 2 ≤ w3.heap.size := by omega
                  have z3 : w.heap.size + 2 < w3.heap.size + 1 := by omega
                  have z4 : w.heap.size + 2 ≤ w3.heap.size + 1 := by omega
                  have hbx := bBox w3 (.cells #[.slice A1 xc.length c1, .slice A2 xe.length c2] 50)
                  go_wp2_with (at_builtin; refine wpQN (w := w) (c := ⟨es, gs, b, s, t⟩) rfl _ _ rfl (HC3.out.keep hbx) (HB3.out.keep hbx) (HX3.out.keptT (KeptT.of_below hbx) hbx.size) (HG3.out.keep hbx) rfl ⟨xc, xe⟩ (HCd.out.keptT (KeptT.of_below hbx)) (HEl.out.keptT (KeptT.of_below hbx)) (fun g hg => ⟨(HSp.out g hg).1, Nat.lt_of_lt_of_le (HSp.out g hg).2 hbx.size⟩) ?hxn11 ?hln11 ?_)
                  case hxn11 => simp [go_sem]
                  case hln11 => omega
                  intro v' w4 hv4 hB4 HC4 HQ4
                  obtain ⟨A4, k4, rfl⟩ := hv4
                  clear hbx d0 z1 z2 z3 z4 HC3 HB3 HX3 HG3 HCd HEl HSp
                  have d0 := hB4.cell 0
                  have e0 := hB4.frozen 0
                  unfold ccells at d0
                  clear hB4
                  have hzz : (zs.map (·.2)).length + 1 ≤ 1000000 := by rw [List.length_map]; omega
                  go_wp2_with (at_builtin; refine wpQI rfl _ _ rfl HQ4.out rfl ((k : Int) + 1) ?hxi11 hzz ?_)
                  (try case hxi11 => simp [go_sem])
                  intro v6 w5 HQ5
                  clear hzz d0 e0 HQ4 HC4
                  have HQ6 := Lib.hid (show QInv w w5 ⟨es ++ [⟨xc, xe⟩], gs, b, s, t⟩ ((zs ++ [((⟨xc, xe⟩ : EntryD), (k : Int) + 1)]).map (·.2)) v6 _ ps by have h := HQ5.out; rw [List.map_append]; exact h)
                  go_wp2_with fail
                  go_roundw
                  case rel => exact ⟨k + 1, ⟨⟨⟨es ++ [⟨xc, xe⟩], gs, b, s, t⟩, true⟩, fstOf (zs ++ [(⟨xc, xe⟩, (k : Int) + 1)]), k + 1⟩, zs ++ [(⟨xc, xe⟩, (k : Int) + 1)], v6, rfl, by omega, by go_num, rfl, HN2, Lib.hid rfl, Lib.hid ⟨HZ2.out, rfl⟩, Lib.hid (fun h => by cases h), by simp; omega, HL2, by dsimp only; omega, HQ6⟩
                  case measure => simp [intOf]; omega
                case true.false =>
                  clear q3
                  go_wp2_with fail
                  refine (HBr.out _).mono ?_
                  rintro e w2 ⟨rfl, rfl⟩
                  go_wp2_with fail
                  refine (HEs.out _).mono ?_
                  rintro e w3 ⟨A1, A2, c1, c2, ys, xs, rfl, hO1, hO2, hm, hb3, hyl, hxl⟩
                  have hm1 := hm _ rfl
                  injection hm1 with hm1 hm2
                  subst hm1 hm2
                  have HL2 : Hid (∀ z ∈ zs ++ [((⟨xc, xe⟩ : EntryD), (k : Int) + 1)], z.1.els.length ≤ 70000) := Lib.hid (fun z hz => by rcases List.mem_append.1 hz with hz | hz; exact HLn.out z hz; simp at hz; subst hz; exact hxl)
                  clear hm d0 hxl hyl
                  have HC3 := Lib.hid (HQ.out.core.keep hb3)
                  have HB3 := Lib.hid (HB0.out.keep hb3)
                  have HX3 := Lib.hid (HX0.out.keptT (KeptT.of_below hb3) hb3.size)
                  have HG3 := Lib.hid (HG0.out.keep hb3)
                  have HCd := Lib.hid (CdB.of_own hO1)
                  have HEl := Lib.hid (ElB.of_own hO2)
                  have HSp := Lib.hid (OwnI.apart hO1 (Nat.le_refl _) H5.out)
                  clear hb3 HB0 HX0 HG0 hO1 hO2
                  have d0 : w3.cell? ⟨w.heap.size + 2, 0, none⟩ = some (.slice AE es.length cE) := HB3.out.cell 0
                  have z1 : w.heap.size + 2 < w3.heap.size := HB3.out.lt
                  have z2 : w.heap.size + 2 ≤ w3.heap.size := by omega
                  have z3 : w.heap.size + 2 < w3.heap.size + 1 := by omega
                  have z4 : w.heap.size + 2 ≤ w3.heap.size + 1 := by omega
                  have hbx := bBox w3 (.cells #[.slice A1 xc.length c1, .slice A2 xe.length c2] 50)
                  go_wp2_with (at_builtin; refine wpQN (w := w) (c := ⟨es, gs, b, s, t⟩) rfl _ _ rfl (HC3.out.keep hbx) (HB3.out.keep hbx) (HX3.out.keptT (KeptT.of_below hbx) hbx.size) (HG3.out.keep hbx) rfl ⟨xc, xe⟩ (HCd.out.keptT (KeptT.of_below hbx)) (HEl.out.keptT (KeptT.of_below hbx)) (fun g hg => ⟨(HSp.out g hg).1, Nat.lt_of_lt_of_le (HSp.out g hg).2 hbx.size⟩) ?hxn12 ?hln12 ?_)
                  case hxn12 => simp [go_sem]
                  case hln12 => omega
                  intro v' w4 hv4 hB4 HC4 HQ4
                  obtain ⟨A4, k4, rfl⟩ := hv4
                  clear hbx d0 z1 z2 z3 z4 HC3 HB3 HX3 HG3 HCd HEl HSp
                  have d0 := hB4.cell 0
                  have e0 := hB4.frozen 0
                  unfold ccells at d0
                  clear hB4
                  have hzz : (zs.map (·.2)).length + 1 ≤ 1000000 := by rw [List.length_map]; omega
                  go_wp2_with (at_builtin; refine wpQI rfl _ _ rfl HQ4.out rfl ((k : Int) + 1) ?hxi12 hzz ?_)
                  (try case hxi12 => simp [go_sem])
                  intro v6 w5 HQ5
                  clear hzz d0 e0 HQ4 HC4
                  have HQ6 := Lib.hid (show QInv w w5 ⟨es ++ [⟨xc, xe⟩], gs, b, s, t⟩ ((zs ++ [((⟨xc, xe⟩ : EntryD), (k : Int) + 1)]).map (·.2)) v6 _ ps by have h := HQ5.out; rw [List.map_append]; exact h)
                  go_wp2_with fail
                  go_roundw
                  case rel => exact ⟨k + 1, ⟨⟨⟨es ++ [⟨xc, xe⟩], gs, b, s, t⟩, true⟩, fstOf (zs ++ [(⟨xc, xe⟩, (k : Int) + 1)]), k + 1⟩, zs ++ [(⟨xc, xe⟩, (k : Int) + 1)], v6, rfl, by omega, by go_num, rfl, HN2, Lib.hid rfl, Lib.hid ⟨HZ2.out, rfl⟩, Lib.hid (fun h => by cases h), by simp; omega, HL2, by dsimp only; omega, HQ6⟩
                  case measure => simp [intOf]; omega
      · obtain rfl : k = ps.length := by omega
        have hki : ¬ (ps.length : Int) < ps.length := by omega
        have hst := HSt.out
        rw [List.take_length] at hst
        have HF := Lib.hid (HEnd.out _ hst rfl)
        dsimp only at HF
        clear HSt hst HBad HEnd
        cases started with
        | false =>
          have hF : pf = (zeroC, (3, ((if piece ps (ps.length - 1) = [] then ps.length - 1 else ps.length : Nat) : Int) + 1)) := by rw [HF.out]; rfl
          obtain ⟨bb, off, rfl, hbl, hc⟩ := HQ.out.core.lines.strs.at_ (show ps.length - 1 < ps.length by omega)
          obtain ⟨m, hm⟩ : ∃ m, ps.length = m + 1 := ⟨ps.length - 1, by omega⟩
          rw [hm] at hF hc HQ hpl hzl hgl hki ⊢
          simp only [Nat.add_sub_cancel] at hF hc
          have hmi : (m : Int) < ((m + 1 : Nat) : Int) := by omega
          have Hm := Lib.hid hm
          clear hm
          by_cases hlast : piece ps m = []
          · rw [hlast] at hc hF
            have HR := Lib.hid (show pf = (zeroC, (3, (m : Int) + 1)) by rw [hF]; simp)
            have Hlast := Lib.hid hlast
            have HF := Lib.hid hF
            clear hlast hF
            have a0 := HQ.out.core.b0.cell 0
            have f0 := HQ.out.core.b0.frozen 0
            have a1 := HQ.out.core.b0.cell 1
            have f1 := HQ.out.core.b0.frozen 1
            have a2 := HQ.out.core.b0.cell 2
            have f2 := HQ.out.core.b0.frozen 2
            have a3 := HQ.out.core.b0.cell 3
            have f3 := HQ.out.core.b0.frozen 3
            have a4 := HQ.out.core.b0.cell 4
            have f4 := HQ.out.core.b0.frozen 4
            have c0 := HQ.out.core.b1.cell 0
            have g0 := HQ.out.core.b1.frozen 0
            have c1 := HQ.out.core.b1.cell 1
            have g1 := HQ.out.core.b1.frozen 1
            unfold zCells at a0 a1 a2 a3 a4
            go_wp2_with fail
            refine bodyPost_ret (v := .tuple #[.agg #[.slice none 0 0, .slice none 0 0, .int .i64 0, .int .i64 0, .int .i64 0], .agg #[.int .i64 3, .int .i64 ((m : Int) + 1)]]) (by simp [results, Tryz.results20, go_sem, a0, a1, a2, a3, a4, c0, c1]) rfl ?_
            rw [HR.out]
            exact ⟨none, 0, none, 0, rfl, EntsAt.nil, GroupsAt.nil, HQ.out.core.fin _ _ _ _ _ _ _⟩
          · have HR := Lib.hid (show pf = (zeroC, (3, ((m + 1 : Nat) : Int) + 1)) by rw [hF, if_neg hlast])
            have hq2 : (piece ps m == []) = false := by simp [hlast]
            generalize piece ps m = pl at hc hq2 hlast
            have Hlast := Lib.hid hlast
            clear hlast
            clear hF
            have a0 := HQ.out.core.b0.cell 0
            have f0 := HQ.out.core.b0.frozen 0
            have a1 := HQ.out.core.b0.cell 1
            have f1 := HQ.out.core.b0.frozen 1
            have a2 := HQ.out.core.b0.cell 2
            have f2 := HQ.out.core.b0.frozen 2
            have a3 := HQ.out.core.b0.cell 3
            have f3 := HQ.out.core.b0.frozen 3
            have a4 := HQ.out.core.b0.cell 4
            have f4 := HQ.out.core.b0.frozen 4
            have c0 := HQ.out.core.b1.cell 0
            have g0 := HQ.out.core.b1.frozen 0
            have c1 := HQ.out.core.b1.cell 1
            have g1 := HQ.out.core.b1.frozen 1
            unfold zCells at a0 a1 a2 a3 a4
            go_wp2_with fail
            refine bodyPost_ret (v := .tuple #[.agg #[.slice none 0 0, .slice none 0 0, .int .i64 0, .int .i64 0, .int .i64 0], .agg #[.int .i64 3, .int .i64 ((m : Int) + 1 + 1)]]) (by simp [results, Tryz.results20, go_sem, a0, a1, a2, a3, a4, c0, c1]) rfl ?_
            rw [HR.out]
            exact ⟨none, 0, none, 0, rfl, EntsAt.nil, GroupsAt.nil, HQ.out.core.fin _ _ _ _ _ _ _⟩
        | true =>
          have hF : pf = if first.1 ≠ 0 then (zeroC, first) else (⟨es, gs, b, s, t⟩, (0, 0)) := by rw [HF.out]; rfl
          obtain ⟨hz1, hz2⟩ := HZ.out
          rw [← hz2] at hF
          obtain ⟨vE0, vG0, hB0, hX0, hG0⟩ := HQ.out.cc
          obtain ⟨AE, cE, rfl⟩ := hX0.own.form
          obtain ⟨AG, cG, rfl⟩ := hG0.form
          obtain ⟨A5, c5, rfl⟩ := HQ.out.core.nums.form
          dsimp only at hX0 hG0 hB0
          have hzes : zs.length = es.length := by have := congrArg List.length hz1; rwa [List.length_map] at this
          have HB0 := Lib.hid hB0
          have HX0 := Lib.hid hX0
          have HG0 := Lib.hid hG0
          have HEn := Lib.hid hX0.own.ents
          have HNu := Lib.hid HQ.out.core.nums
          have HFd := Lib.hid (fun k h => by
            have := hF
            exact (show (∀ (hk : k < zs.length), (zs.take k).all (fun z => chksE z.1.els == 0) = true → ¬ chksE (zs[k]).1.els = 0 → pf = (zeroC, (chksE (zs[k]).1.els, (zs[k]).2))) from fun hk ha hd => by
              rw [this, fstOf_at (List.getElem?_eq_getElem hk) ha hd, if_pos hd]) h)
          have HFo := Lib.hid (fun (h : zs.all (fun z => chksE z.1.els == 0) = true) => (show pf = (⟨es, gs, b, s, t⟩, (0, 0)) by rw [hF, fstOf_none h]; rfl))
          have hnl : (zs.map (·.2)).length = es.length := by rw [List.length_map]; exact hzes
          have d0 : wr.cell? ⟨w.heap.size + 2, 0, none⟩ = some (.slice AE es.length cE) := hB0.cell 0
          have HEnt := Lib.hid (fun k (h : k < zs.length) => (show entAt es k = (zs[k]).1 by rw [← hz1]; exact map_ent zs h))
          have Hnl := Lib.hid hnl
          have Hzes := Lib.hid hzes
          have hel : es.length ≤ 65537 := by omega
          clear hB0 hX0 hG0 hF HF hz1 hz2 hnl hzes HZ
          go_wp2_with fail
          clear d0
          obtain ⟨w5, rfl⟩ : ∃ x, x = wr := ⟨wr, rfl⟩
          go_loopw [16] (fun i wq => ∃ m : Nat, m ≤ es.length ∧ i = .int .i64 m ∧ Hid ((zs.take m).all (fun z => chksE z.1.els == 0) = true) ∧ Below w5.heap.size w5 wq) (fun i _ => es.length - (intOf i).toNat)
          case atStart => exact ⟨0, Nat.zero_le _, rfl, Lib.hid rfl, Below.refl _ _⟩
          case round =>
            obtain ⟨m, hmle, rfl, HM, hbq⟩ := hrel
            have hBq := HB0.out.keep hbq
            have d0 : wr.cell? ⟨w.heap.size + 2, 0, none⟩ = some (.slice AE es.length cE) := hBq.cell 0
            by_cases hlt2 : m < es.length
            · have hltz : m < zs.length := by have := Hzes.out; omega
              obtain ⟨b1, o1, C1, k1, L1, k2, rfl, h1, p0, _, p1, hL⟩ := (HEn.out.keep hbq).at_ hlt2
              have hmi : (m : Int) < es.length := by omega
              have hbad := fun hd => HFd.out m hltz HM.out hd
              have hgood := fun hd => all_snoc hltz HM.out hd
              obtain ⟨b2, e5, hb2, h2, n00⟩ := OwnI.at0 (HNu.out.keep hbq) (by rw [List.length_map]; omega)
              have n0 := n00 m (by rw [List.length_map]; exact hltz)
              clear n00
              have v1 : b2 ≠ w.heap.size := by omega
              have v2 : b2 ≠ w.heap.size + 1 := by omega
              have v3 : w.heap.size ≠ b2 := by omega
              have v4 : w.heap.size + 1 ≠ b2 := by omega
              rw [map_nth zs hltz] at n0
              rw [HEnt.out m hltz] at p0 p1 hL
              have hz7 := HLn.out _ (List.getElem_mem hltz)
              have hmz : (m : Int) < zs.length := by omega
              obtain ⟨z, hzz⟩ : ∃ z, zs[m] = z := ⟨_, rfl⟩
              rw [hzz] at p0 p1 hL hbad hgood n0 hz7
              clear hzz
              obtain ⟨⟨cs, ls⟩, zn⟩ := z
              dsimp only at p0 p1 hL hbad hgood n0 hz7
              subst e5
              have HCk := Lib.hid (rfChecks ls L1 k2 wr hL (by omega))
              clear hL
              by_cases hz : chksE ls = 0
              · have HR := Lib.hid (hgood hz)
                rw [hz] at HCk
                have Hz := Lib.hid hz
                clear hz
                clear hbad hgood
                go_wp2_with fail
                refine HCk.out.mono ?_
                rintro e w6 ⟨rfl, hb6⟩
                go_wp2_with fail
                go_roundw
                case rel => exact ⟨m + 1, by omega, by go_num, HR, bUp hbq hb6⟩
                case measure => simp [intOf]; omega
              · have HR := Lib.hid (hbad hz)
                have hnz : (chksE ls != 0) = true := by simp [hz]
                generalize chksE ls = ce at HCk HR hnz hz
                have Hz := Lib.hid hz
                clear hz
                clear hbad hgood
                go_wp2_with fail
                refine HCk.out.mono ?_
                rintro e w6 ⟨rfl, hb6⟩
                have HC6 := Lib.hid (HQ.out.core.keep (bUp hbq hb6))
                have n6 := cell_keep hb6 n0
                clear hb6 n0 p0 p1 d0
                have a0 := HC6.out.b0.cell 0
                have f0 := HC6.out.b0.frozen 0
                have a1 := HC6.out.b0.cell 1
                have f1 := HC6.out.b0.frozen 1
                have a2 := HC6.out.b0.cell 2
                have f2 := HC6.out.b0.frozen 2
                have a3 := HC6.out.b0.cell 3
                have f3 := HC6.out.b0.frozen 3
                have a4 := HC6.out.b0.cell 4
                have f4 := HC6.out.b0.frozen 4
                have c0 := HC6.out.b1.cell 0
                have g0 := HC6.out.b1.frozen 0
                have c1 := HC6.out.b1.cell 1
                have g1 := HC6.out.b1.frozen 1
                unfold zCells at a0 a1 a2 a3 a4
                go_wp2_with fail
                go_region
                all_goals
                  go_wp2_with fail
                  refine bodyPost_ret (v := .tuple #[.agg #[.slice none 0 0, .slice none 0 0, .int .i64 0, .int .i64 0, .int .i64 0], .agg #[.int .i64 ce, .int .i64 zn]]) (by simp [results, Tryz.results20, go_sem, a0, a1, a2, a3, a4, c0, c1]) rfl ?_
                  rw [HR.out]
                  exact ⟨none, 0, none, 0, rfl, EntsAt.nil, GroupsAt.nil, (HC6.out.fin _ _ _ _ _ _ _).drew⟩
            · obtain rfl : m = es.length := by omega
              have hmi : ¬ (es.length : Int) < es.length := by omega
              have hall := HM.out
              rw [List.take_of_length_le (by have := Hzes.out; omega)] at hall
              have HR := Lib.hid (HFo.out hall)
              have HC6 := Lib.hid (HQ.out.core.keep hbq)
              have HX6 := Lib.hid (HX0.out.own.keep hbq)
              have HG6 := Lib.hid (HG0.out.keep hbq)
              unfold ccells at hBq
              have d1 := hBq.cell 1
              have d2 := hBq.cell 2
              have d3 := hBq.cell 3
              have d4 := hBq.cell 4
              clear hall HM hBq
              have a0 := HC6.out.b0.cell 0
              have f0 := HC6.out.b0.frozen 0
              have a1 := HC6.out.b0.cell 1
              have f1 := HC6.out.b0.frozen 1
              have a2 := HC6.out.b0.cell 2
              have f2 := HC6.out.b0.frozen 2
              have a3 := HC6.out.b0.cell 3
              have f3 := HC6.out.b0.frozen 3
              have a4 := HC6.out.b0.cell 4
              have f4 := HC6.out.b0.frozen 4
              have c0 := HC6.out.b1.cell 0
              have g0 := HC6.out.b1.frozen 0
              have c1 := HC6.out.b1.cell 1
              have g1 := HC6.out.b1.frozen 1
              unfold zCells at a0 a1 a2 a3 a4
              go_wp2_with fail
              refine bodyPost_ret (v := .tuple #[.agg #[.slice AE es.length cE, .slice AG gs.length cG, .int .i64 b, .int .i64 s, .int .i64 t], .agg #[.int .i64 0, .int .i64 0]]) (by simp [results, Tryz.results20, go_sem, a0, a1, a2, a3, a4, c0, c1]) rfl ?_
              rw [HR.out]
              exact ⟨AE, cE, AG, cG, rfl, (HX6.out.keptT (HC6.out.finK _ _ _ _ _ _ _ (by decide) (by decide))).ents, (HG6.out.keptT (HC6.out.finK _ _ _ _ _ _ _ (by decide) (by decide))).groups, HC6.out.fin _ _ _ _ _ _ _⟩
end Go.Proofs.YthogkokifiibnaaGreatDoor
