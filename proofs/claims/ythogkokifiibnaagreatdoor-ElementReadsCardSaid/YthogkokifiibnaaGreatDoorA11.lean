/- ParseFile -/
import Derived.Test.YthogkokifiibnaaGreatDoorA10
import Derived.WalkMore
namespace Go.Proofs.YthogkokifiibnaaGreatDoor
open Go.RowKit Go.Sort

set_option maxHeartbeats 16000000 in
set_option maxRecDepth 100000 in
theorem elParseFile (l : List UInt8) (w : World) (hE : EnvF w) (hs : l.length ≤ 9223372036854775807) :
    Calls Tryz.prog 19 #[.string ⟨l.toArray⟩] w (FileOut (parseF l) w) := by
  by_cases hl : 65536 < l.length
  · have HV := Lib.hid (show parseF l = (zeroC, (2, 0)) by simp [parseF, hl])
    have HE := Lib.hid hE
    clear hE
    go_enter Tryz.func19, Tryz.ntmps19
    go_wp2_with fail
    (try go_step3)
    (try go_wp2_with fail)
    (try rw [Exit.noGoto_ret])
    refine bodyPost_ret (v := .tuple #[.agg #[.slice none 0 0, .slice none 0 0, .int .i64 0, .int .i64 0, .int .i64 0], .agg #[.int .i64 2, .int .i64 0]]) (by simp [results, Tryz.results19, go_sem]) rfl ?_
    rw [HV.out]
    exact ⟨none, 0, none, 0, rfl, EntsAt.nil, GroupsAt.nil, bUp (bBox _ _) (bBox _ _)⟩
  · have HV := Lib.hid (show parseF l = runF (linesL l) startF by simp [parseF, hl])
    have HE := Lib.hid hE
    clear hE
    go_enter Tryz.func19, Tryz.ntmps19
    go_wp2_with fail
    (try go_step3)
    (try go_wp2_with fail)
    (try go_step3)
    (try go_wp2_with fail)
    have hI := PInv.new w
    unfold zCells at hI
    go_loopw [6, 7] (fun n s wr => ∃ (st : StF) (rest : List UInt8), n = .int .i64 st.n ∧ s = .string ⟨rest.toArray⟩ ∧ st.n + rest.length ≤ l.length ∧ st.r.c.entries.length ≤ st.n ∧ st.r.c.groups.length ≤ st.n ∧ Hid (parseF l = runF (linesL rest) st) ∧ Hid (PInv w wr st)) (fun _ s _ => strLen s)
    case atStart => exact ⟨startF, l, rfl, rfl, by simp [startF], by simp [startF, zeroC], by simp [startF, zeroC], HV, Lib.hid hI⟩
    case round =>
      obtain ⟨st, rest, rfl, rfl, hsum, hel, hgl, HP, HI⟩ := hrel
      obtain ⟨sr, sf, sn⟩ := st
      dsimp only at hsum hel hgl ⊢
      have HEr := Lib.hid (HE.out.keep HI.out.below)
      clear hI
      by_cases hne : rest = []
      · subst hne
        have hF : parseF l = finF ⟨sr, sf, sn⟩ := by rw [HP.out]; rfl
        obtain ⟨AE, cE, AG, cG, k0, k1, k2, k3, k4, k5, kf, hON, hOG, _⟩ := HI.out.rd.cells
        have a0 := HI.out.b0.cell 0
        have a1 := HI.out.b0.cell 1
        have a2 := HI.out.b0.cell 2
        have a3 := HI.out.b0.cell 3
        have a4 := HI.out.b0.cell 4
        have f0 := HI.out.b0.frozen 0
        have f1 := HI.out.b0.frozen 1
        have f2 := HI.out.b0.frozen 2
        have f3 := HI.out.b0.frozen 3
        have f4 := HI.out.b0.frozen 4
        have c0 := HI.out.b1.cell 0
        have c1 := HI.out.b1.cell 1
        have g0 := HI.out.b1.frozen 0
        have g1 := HI.out.b1.frozen 1
        have s0 := HI.out.fs.cell 0
        have s1 := HI.out.fs.cell 1
        have HON := Lib.hid hON
        have HOG := Lib.hid hOG
        unfold zCells at a0 a1 a2 a3 a4
        dsimp only at k0 k1 k2 k3 k4 k5 s0 s1
        clear hON hOG kf
        unfold finF at hF
        dsimp only at hF
        obtain ⟨⟨es, gs, b, s, t⟩, started⟩ := sr
        dsimp only at k0 k1 k2 k3 k4 k5 HON HOG hF hel hgl
        cases started with
        | false =>
          rw [if_pos rfl] at hF
          have HR := Lib.hid hF
          clear hF HP k0 k1 k2 k3 k4 s0 s1
          go_wp2_with fail
          (try rw [Exit.noGoto_ret])
          refine bodyPost_ret (v := .tuple #[.agg #[.slice none 0 0, .slice none 0 0, .int .i64 0, .int .i64 0, .int .i64 0], .agg #[.int .i64 3, .int .i64 ((sn : Int) + 1)]]) (by simp [results, Tryz.results19, go_sem, a0, a1, a2, a3, a4, c0, c1]) rfl ?_
          rw [HR.out]
          exact ⟨none, 0, none, 0, rfl, EntsAt.nil, GroupsAt.nil, HI.out.fin _ _ _ _ _ _ _⟩
        | true =>
          rw [if_neg (by simp)] at hF
          by_cases hz : sf.1 = 0
          · rw [if_neg (fun h => h hz)] at hF
            have HR := Lib.hid hF
            have q1 : (sf.1 != 0) = false := by simp [hz]
            have Hz := Lib.hid hz
            clear hz
            clear hF HP
            go_wp2_with fail
            (try rw [Exit.noGoto_ret])
            refine bodyPost_ret (v := .tuple #[.agg #[.slice AE es.length cE, .slice AG gs.length cG, .int .i64 b, .int .i64 s, .int .i64 t], .agg #[.int .i64 0, .int .i64 0]]) (by simp [results, Tryz.results19, go_sem, a0, a1, a2, a3, a4, c0, c1]) rfl ?_
            rw [HR.out]
            exact ⟨AE, cE, AG, cG, rfl, (HON.out.keptT (HI.out.finK _ _ _ _ _ _ _ (by decide) (by decide))).ents, (HOG.out.keptT (HI.out.finK _ _ _ _ _ _ _ (by decide) (by decide))).groups, HI.out.fin _ _ _ _ _ _ _⟩
          · rw [if_pos hz] at hF
            have HR := Lib.hid hF
            have q1 : (sf.1 != 0) = true := by simp [hz]
            have Hz := Lib.hid hz
            clear hz
            clear hF HP k0 k1 k2 k3 k4
            go_wp2_with fail
            go_region
            all_goals
              go_wp2_with fail
              (try rw [Exit.noGoto_ret])
              refine bodyPost_ret (v := .tuple #[.agg #[.slice none 0 0, .slice none 0 0, .int .i64 0, .int .i64 0, .int .i64 0], .agg #[.int .i64 sf.1, .int .i64 sf.2]]) (by simp [results, Tryz.results19, go_sem, a0, a1, a2, a3, a4, c0, c1]) rfl ?_
              rw [HR.out]
              exact ⟨none, 0, none, 0, rfl, EntsAt.nil, GroupsAt.nil, (HI.out.fin _ _ _ _ _ _ _).drew⟩
      · have hq : (rest == []) = false := by simp [hne]
        obtain ⟨d, r2, ok, hcut, hln, hdl, hrl⟩ := cut_line rest hne (by omega)
        have hrun : parseF l = match stepT ⟨sr, sf, sn⟩ (contentP d) with | none => (zeroC, (3, (sn : Int) + 1)) | some s' => runF (linesL r2) s' := by rw [HP.out, hln]; rfl
        have hcl := content_len d
        have HC := Lib.hid hcut
        have HCt := Lib.hid (fun w' => elContent d w' (by omega))
        generalize contentP d = t at hrun hcl HCt
        have Hne := Lib.hid hne
        have Hln := Lib.hid hln
        have Hrun := Lib.hid hrun
        clear hne hln hrun
        clear hcut HP
        go_wp2_with fail
        refine (HC.out _ HEr.out.env).mono ?_
        rintro e w1 ⟨rfl, hb1⟩
        have HI1 := Lib.hid (HI.out.keep hb1)
        have HE1 := Lib.hid (HEr.out.keep hb1)
        clear hb1 HI HEr
        go_wp2_with fail
        refine (HCt.out _).mono ?_
        rintro e w2 ⟨rfl, rfl⟩
        by_cases ht : t = []
        · subst ht
          have HS := Lib.hid (show parseF l = runF (linesL r2) ⟨sr, sf, sn + 1⟩ by rw [Hrun.out]; rfl)
          go_wp2_with fail
          go_roundw
          case rel => exact ⟨⟨sr, sf, sn + 1⟩, r2, by go_num, rfl, by dsimp only; omega, by dsimp only; omega, by dsimp only; omega, HS, Lib.hid (HI1.out.num (sn + 1))⟩
          case measure => simp [strLen_mk]; omega
        · have hq2 : (t == []) = false := by simp [ht]
          have HBs := Lib.hid (elBase sr (w.heap.size + 2) t w1 HI1.out.rd HE1.out (by omega))
          unfold RdOut at HBs
          cases hb : baseP sr t with
          | some r' =>
            rw [hb] at HBs
            have hsame := baseP_same hb
            have HS := Lib.hid (show parseF l = runF (linesL r2) ⟨r', sf, sn + 1⟩ by rw [Hrun.out, stepT, if_neg ht, hb])
            have Ht := Lib.hid ht
            have Hb := Lib.hid hb
            have Hsame := Lib.hid hsame
            clear ht hb hsame
            go_wp2_with fail
            refine HBs.out.mono ?_
            rintro e w3 ⟨rfl, hR3, hb3, hk3⟩
            have HI3 := Lib.hid (HI1.out.read hR3 hb3 hk3 (sn + 1))
            clear hR3 hb3 hk3
            go_wp2_with fail
            go_roundw
            case rel => exact ⟨⟨r', sf, sn + 1⟩, r2, by go_num, rfl, by dsimp only; omega, by have := Hsame.out.1; dsimp only; rw [this]; omega, by have := Hsame.out.2; dsimp only; rw [this]; omega, HS, HI3⟩
            case measure => simp [strLen_mk]; omega
          | none =>
            rw [hb] at HBs
            have HS1 := Lib.hid (show stepT ⟨sr, sf, sn⟩ t = match groupP sr t with | some r' => some ⟨r', sf, sn + 1⟩ | none => match entryP sr t with | some e => some ⟨addN sr e, if chksE e.els ≠ 0 ∧ sf.1 = 0 then (chksE e.els, (sn : Int) + 1) else sf, sn + 1⟩ | none => none by rw [stepT, if_neg ht, hb]; rfl)
            have Ht := Lib.hid ht
            have Hb := Lib.hid hb
            clear ht hb
            go_wp2_with fail
            refine HBs.out.mono ?_
            rintro e w3 ⟨rfl, hR3, hb3, hk3⟩
            have HI3 := Lib.hid (HI1.out.read hR3 hb3 hk3 sn)
            have HE3 := Lib.hid (HE.out.keep HI3.out.below)
            clear hR3 hb3 hk3
            have HGr := Lib.hid (elGroup sr (w.heap.size + 2) t w3 HI3.out.rd HE3.out (by omega) (by omega))
            unfold RdOut at HGr
            cases hg : groupP sr t with
            | some r' =>
              rw [hg] at HGr
              have hsame := groupP_same hg
              have HS := Lib.hid (show parseF l = runF (linesL r2) ⟨r', sf, sn + 1⟩ by rw [Hrun.out, HS1.out, hg])
              have Hg := Lib.hid hg
              have Hsame := Lib.hid hsame
              clear hg hsame
              go_wp2_with fail
              refine HGr.out.mono ?_
              rintro e w4 ⟨rfl, hR4, hb4, hk4⟩
              have HI4 := Lib.hid (HI3.out.read hR4 hb4 hk4 (sn + 1))
              clear hR4 hb4 hk4
              go_wp2_with fail
              go_roundw
              case rel => exact ⟨⟨r', sf, sn + 1⟩, r2, by go_num, rfl, by dsimp only; omega, by have := Hsame.out.1; dsimp only; rw [this]; omega, by have := Hsame.out.2; dsimp only; omega, HS, HI4⟩
              case measure => simp [strLen_mk]; omega
            | none =>
              rw [hg] at HGr
              have HS2 := Lib.hid (show stepT ⟨sr, sf, sn⟩ t = match entryP sr t with | some e => some ⟨addN sr e, if chksE e.els ≠ 0 ∧ sf.1 = 0 then (chksE e.els, (sn : Int) + 1) else sf, sn + 1⟩ | none => none by rw [HS1.out, hg])
              have Hg := Lib.hid hg
              clear hg
              go_wp2_with fail
              refine HGr.out.mono ?_
              rintro e w4 ⟨rfl, hR4, hb4, hk4⟩
              have HI4 := Lib.hid (HI3.out.read hR4 hb4 hk4 sn)
              have HE4 := Lib.hid (HE.out.keep HI4.out.below)
              clear hR4 hb4 hk4
              have HEn := Lib.hid (elEntry sr (w.heap.size + 2) t w4 HI4.out.rd HE4.out (by omega) (by omega))
              unfold EntOut at HEn
              cases he : entryP sr t with
              | none =>
                rw [he] at HEn
                have HS := Lib.hid (show parseF l = (zeroC, (3, (sn : Int) + 1)) by rw [Hrun.out, HS2.out, he])
                have He := Lib.hid he
                clear he
                go_wp2_with fail
                refine HEn.out.mono ?_
                rintro e w5 ⟨rfl, hR5, hb5, hk5⟩
                have HI5 := Lib.hid (HI4.out.read hR5 hb5 hk5 sn)
                have a0 := HI5.out.b0.cell 0
                have a1 := HI5.out.b0.cell 1
                have a2 := HI5.out.b0.cell 2
                have a3 := HI5.out.b0.cell 3
                have a4 := HI5.out.b0.cell 4
                have f0 := HI5.out.b0.frozen 0
                have f1 := HI5.out.b0.frozen 1
                have f2 := HI5.out.b0.frozen 2
                have f3 := HI5.out.b0.frozen 3
                have f4 := HI5.out.b0.frozen 4
                have c0 := HI5.out.b1.cell 0
                have c1 := HI5.out.b1.cell 1
                have g0 := HI5.out.b1.frozen 0
                have g1 := HI5.out.b1.frozen 1
                unfold zCells at a0 a1 a2 a3 a4
                clear hR5 hb5 hk5
                go_wp2_with fail
                (try rw [Exit.noGoto_ret])
                refine bodyPost_ret (v := .tuple #[.agg #[.slice none 0 0, .slice none 0 0, .int .i64 0, .int .i64 0, .int .i64 0], .agg #[.int .i64 3, .int .i64 ((sn : Int) + 1)]]) (by simp [results, Tryz.results19, go_sem, a0, a1, a2, a3, a4, c0, c1]) rfl ?_
                rw [HS.out]
                exact ⟨none, 0, none, 0, rfl, EntsAt.nil, GroupsAt.nil, HI5.out.fin _ _ _ _ _ _ _⟩
              | some x =>
                rw [he] at HEn
                have hxl := entryP_len he (by omega)
                have hrn : parseF l = runF (linesL r2) ⟨addN sr x, if chksE x.els ≠ 0 ∧ sf.1 = 0 then (chksE x.els, (sn : Int) + 1) else sf, sn + 1⟩ := by rw [Hrun.out, HS2.out, he]
                have He := Lib.hid he
                clear he
                go_wp2_with fail
                refine HEn.out.mono ?_
                rintro e w5 ⟨rfl, hR5, hb5, hk5⟩
                have HI5 := Lib.hid (HI4.out.read hR5 hb5 hk5 (sn + 1))
                obtain ⟨AE, cE, AG, cG, k0, _, _, _, _, _, _, hON, _⟩ := HI5.out.rd.cells
                have hen : (addN sr x).c.entries = sr.c.entries ++ [x] := rfl
                have hel2 : ((addN sr x).c.entries).length = sr.c.entries.length + 1 := by rw [hen]; simp
                dsimp only at k0 hON
                have hEs := hON.ents
                rw [hen] at hEs
                obtain ⟨b1, o1, C1, cc1, L1, c2, rfl, h1, p0, _, p1, hL⟩ := hEs.at_ (k := sr.c.entries.length) (by simp)
                have hat : entAt (sr.c.entries ++ [x]) sr.c.entries.length = x := by simp [entAt]
                rw [hat] at p0 p1 hL
                rw [hel2] at k0
                have HCk := Lib.hid (elChecks x.els L1 c2 w5 hL (by omega))
                clear hR5 hb5 hk5 hON hEs hat hen hel2 hL
                have i1 : IntKind.i64.wrap (((sr.c.entries.length + 1 : Nat) : Int) - 1) = (sr.c.entries.length : Int) := by rw [IntWalk.i64_in _ (by omega)]; omega
                have i2 : (((sr.c.entries.length + 1 : Nat) : Int) - 1) = (sr.c.entries.length : Int) := by omega
                have i3 : (sr.c.entries.length : Int) < ((sr.c.entries.length + 1 : Nat) : Int) := by omega
                go_wp2_with fail
                refine HCk.out.mono ?_
                rintro e w6 ⟨rfl, hb6⟩
                have HI6 := Lib.hid (HI5.out.keep hb6)
                have s0 := HI6.out.fs.cell 0
                have s1 := HI6.out.fs.cell 1
                have t0 := HI6.out.fs.frozen 0
                have t1 := HI6.out.fs.frozen 1
                dsimp only at s0 s1
                clear k0 p0 p1 i1 i2 i3 HCk
                generalize chksE x.els = ce at hrn
                by_cases hz : ce = 0
                · subst hz
                  rw [if_neg (fun h => h.1 rfl)] at hrn
                  have Hrn := Lib.hid hrn
                  clear hrn
                  go_wp2_with fail
                  go_roundw
                  case rel => exact ⟨⟨addN sr x, sf, sn + 1⟩, r2, by go_num, rfl, by dsimp only; omega, by simp [addN]; omega, by simp [addN]; omega, Hrn, HI6⟩
                  case measure => simp [strLen_mk]; omega
                · have q1 : (ce != 0) = true := by simp [hz]
                  by_cases hf : sf.1 = 0
                  · rw [if_pos ⟨hz, hf⟩] at hrn
                    have q2 : (sf.1 == 0) = true := by simp [hf]
                    have Hrn := Lib.hid hrn
                    have Hz := Lib.hid hz
                    have Hf := Lib.hid hf
                    clear hrn hz hf
                    go_wp2_with fail
                    go_roundw
                    case rel => exact ⟨⟨addN sr x, (ce, (sn : Int) + 1), sn + 1⟩, r2, by go_num, rfl, by dsimp only; omega, by simp [addN]; omega, by simp [addN]; omega, Hrn, Lib.hid (HI6.out.put ce ((sn : Int) + 1) (sn + 1))⟩
                    case measure => simp [strLen_mk]; omega
                  · rw [if_neg (fun h => hf h.2)] at hrn
                    have q2 : (sf.1 == 0) = false := by simp [hf]
                    have Hrn := Lib.hid hrn
                    have Hz := Lib.hid hz
                    have Hf := Lib.hid hf
                    clear hrn hz hf
                    go_wp2_with fail
                    go_roundw
                    case rel => exact ⟨⟨addN sr x, sf, sn + 1⟩, r2, by go_num, rfl, by dsimp only; omega, by simp [addN]; omega, by simp [addN]; omega, Hrn, HI6⟩
                    case measure => simp [strLen_mk]; omega
end Go.Proofs.YthogkokifiibnaaGreatDoor
