/- Parse of the reference: the walk -/
import Derived.Test.YtafmdeipcepaiaaDoorLn12
namespace Go.Proofs.YtafmdeipcepaiaaDoor
open Go.RowKit Go.Sort

theorem ownL_set {W : World} {base b i : Nat} {cs : Array Value} {t : TypeId} {v : Value} {ls : List LineD} (u : Value) (hB : Blk W b cs t) (ht : t ≠ 9 ∧ t ≠ 35) (hO : OwnL W base v ls) : OwnL (W.setCell ⟨b, i, none⟩ u) base v ls := by
  refine hO.grown (row := some b) ⟨rfl, rfl, rfl, by simp [World.setCell], fun k _ hk => Below.heap_setCell _ _ _ _ (fun e => hk (by rw [show k = b from e]))⟩ (fun g e cur t' fr hc => ?_)
  injection e with e
  subst e
  have hB' : W.heap[b]? = some (.cells cs t (0, 0)) := hB
  rw [hc] at hB'
  injection hB' with hB'
  injection hB' with _ h2
  rw [h2]
  exact ht
theorem OwnS.row {w : World} {base : Nat} {v : Value} {ps : List (List UInt8)} (h : OwnS w base v ps) : ∀ g, v.ownBlock = some g → base ≤ g := by
  intro g hg
  rcases h.2 with ⟨rfl, h0⟩ | ⟨g', cap, cur, rfl, hb, hc, _⟩
  · cases hg
  · simp only [Value.ownBlock, Option.some.injEq] at hg
    omega
theorem OwnS.set {W : World} {base b i : Nat} {v : Value} {ps : List (List UInt8)} {u : Value} (h : OwnS W base v ps) (hlt : b < base) : OwnS (W.setCell ⟨b, i, none⟩ u) base v ps :=
  ownsRow_setCell_other h (fun e => by have := h.row _ e; simp at this; omega) u
theorem commentP_le (p : List UInt8) : (commentP p).1.length ≤ p.length ∧ (commentP p).2.length ≤ p.length := by
  unfold commentP
  cases h : cutB 35 p with
  | none => simp
  | some q =>
    have hlen := congrArg List.length (cutB_some (a := q.1) (r := q.2) h).1
    simp only [List.length_append, List.length_cons] at hlen
    have := trimL_le q.2
    refine ⟨?_, ?_⟩ <;> dsimp only <;> omega

set_option maxHeartbeats 8000000 in
set_option maxRecDepth 100000 in
theorem rfParse9 (l : List UInt8) (w : World) (hl : l.length ≤ 65536) :
    Calls Tryd.prog 12 #[.string ⟨l.toArray⟩] w fun e w' => ParseOut w' w.heap.size l e ∧ Below w.heap.size w w' := by
  have hgd : decide ((65536 : Int) < l.length) = false := by simp; omega
  have HS := Lib.hid (fun w' => rfSplit9 10 l w' hl)
  go_enter Tryd.func12, Tryd.ntmps12
  go_wp2_with fail
  refine (HS.out _).mono ?_
  rintro e w2 ⟨⟨A, cp, rfl, hA, _⟩, hb2⟩
  have hf0 : Blk w2 w.heap.size #[.int .i64 0, .int .i64 0] 26 := (Blk.new w _ _).keep hb2
  have hw2 : Below w.heap.size w w2 := bUp (bBox w _) hb2
  have hsz2 : w.heap.size < w2.heap.size := hf0.lt
  have HL := Lib.hid (splitL_piece_le 10 l)
  have HLn := Lib.hid (show (linesOf l).length = (splitL 10 l).length from enL_length 1 _)
  have hLl : (splitL 10 l).length ≤ 65537 := by have := linesOf_length l; rw [HLn.out] at this; omega
  have HTk := Lib.hid (fun k => linesOf_take (l := l) hl (k := k))
  have HA := Lib.hid hA
  have Hf0 := Lib.hid hf0
  have Hw2 := Lib.hid hw2
  clear hA hf0 hw2
  generalize hps : splitL 10 l = ps at HA HL HLn HTk hLl
  have Hps := Lib.hid hps
  clear hps
  go_wp2_with fail
  go_loopw [4, 6] (fun v i wr => ∃ k : Nat, k ≤ ps.length ∧ i = .int .i64 k ∧ Hid (badL ((linesOf l).take k) = none) ∧ Hid (OwnL wr w2.heap.size v (goodL ((linesOf l).take k))) ∧ Below w2.heap.size w2 wr) (fun _ i _ => ps.length - (intOf i).toNat)
  case atStart => exact ⟨0, Nat.zero_le _, rfl, Lib.hid rfl, Lib.hid (OwnL.nil _ _), Below.refl _ _⟩
  case round =>
    obtain ⟨k, hk, rfl, HB, HO, hbr⟩ := hrel
    by_cases hlt : k < ps.length
    · obtain ⟨b1, o1, rfl, h1, e1⟩ := HA.out.at_ hlt
      have g1 : wr.cell? ⟨b1, o1 + k, none⟩ = some (.string ⟨(piece ps k).toArray⟩) := (hbr.cell (p := ⟨b1, o1 + k, none⟩) h1).trans e1
      obtain ⟨hq, htk⟩ := HTk.out k hlt
      have hpl : (piece ps k).length ≤ 65536 := Nat.le_trans (HL.out _ (piece_mem hlt)) hl
      generalize piece ps k = p at g1 hq htk hpl
      have hki : (k : Int) < ps.length := by omega
      have hcl := commentP_le p
      have HC := Lib.hid (rfComment p wr hpl)
      cases hcm : commentP p with | mk b c =>
      rw [hcm] at hcl HC
      dsimp only at hcl HC
      have HT := Lib.hid (fun w' => rfTrim b w' (by omega))
      cases ht : trimL b with
      | nil =>
        have HQ := Lib.hid (show lineQ (k + 1, p) = some none by simp [lineQ, hcm, ht])
        rw [ht] at HT
        have Hcm := Lib.hid hcm
        have Ht := Lib.hid ht
        have Htk := Lib.hid htk
        clear hcm ht htk
        go_wp2_with fail
        refine HC.out.mono ?_
        rintro e w3 ⟨rfl, hb3⟩
        go_wp2_with fail
        refine (HT.out _).mono ?_
        rintro e w3' ⟨rfl, rfl⟩
        go_wp2_with fail
        go_roundw
        case rel => exact ⟨k + 1, by omega, by go_num, Lib.hid (by rw [Htk.out]; exact bad_good HB.out HQ.out), Lib.hid (by rw [Htk.out, good_skip HQ.out]; exact HO.out.keep hb3), hbr.trans (hb3.mono hbr.size)⟩
        case measure => simp [intOf]; omega
      | cons t0 tr =>
        have hpl2 : (piece (splitL 59 b) 0).length ≤ 65536 := by
          obtain ⟨q0, qs, hq⟩ := splitL_cons 59 b
          have := splitL_piece_le 59 b q0 (by rw [hq]; simp)
          rw [hq]
          simp only [piece, List.getD_cons_zero]
          omega
        have hp0 : (splitL 59 b).headD [] = piece (splitL 59 b) 0 := by cases splitL 59 b <;> rfl
        have hn0 : 0 < (splitL 59 b).length := by obtain ⟨q0, qs, hq⟩ := splitL_cons 59 b; rw [hq]; simp
        have hn1 : (splitL 59 b).length ≤ 65537 := by
          rw [splitL_length]
          have := List.count_le_length (a := (59 : UInt8)) (l := b)
          omega
        have HL2 := Lib.hid (splitL_piece_le 59 b)
        have HU := Lib.hid (fun w' => rfSplit9 59 b w' (by omega))
        have HT0 := Lib.hid (fun w' => rfTrim (piece (splitL 59 b) 0) w' (by omega))
        have htle := trimL_le (piece (splitL 59 b) 0)
        have HP := Lib.hid (fun w' => rfSpanned (trimL (piece (splitL 59 b) 0)) w' (by omega))
        have HQn := Lib.hid (fun (h : spanP (trimL (piece (splitL 59 b) 0)) = none) => show lineQ (k + 1, p) = none by unfold lineQ; dsimp only; rw [hcm]; dsimp only; rw [hp0, ht, h]; simp)
        have HQs := Lib.hid (fun x y (h : spanP (trimL (piece (splitL 59 b) 0)) = some (x, y)) => show lineQ (k + 1, p) = some (some ⟨(k : Int) + 1, x, y, ((splitL 59 b).drop 1).map trimL, c⟩) by unfold lineQ; dsimp only; rw [hcm]; dsimp only; rw [hp0, ht, h]; simp)
        rw [ht] at HT
        generalize splitL 59 b = qs at hn0 hn1 HL2 HU HT0 HP HQn HQs
        have Hcm := Lib.hid hcm
        have Ht := Lib.hid ht
        have Htk := Lib.hid htk
        have Hp0 := Lib.hid hp0
        have Hpl2 := Lib.hid hpl2
        have Htle := Lib.hid htle
        clear hcm ht htk hp0 hpl2 htle
        go_wp2_with fail
        refine HC.out.mono ?_
        rintro e w3 ⟨rfl, hb3⟩
        go_wp2_with fail
        refine (HT.out _).mono ?_
        rintro e w3' ⟨rfl, rfl⟩
        go_wp2_with fail
        refine (HU.out _).mono ?_
        rintro e w4 ⟨⟨A4, c4, rfl, hA4, _⟩, hb4⟩
        obtain ⟨b4, o4, rfl, h4, e4⟩ := hA4.at_ hn0
        have hb34 := bUp hb3 hb4
        have hbr4 := hbr.trans (hb34.mono hbr.size)
        have HO4 := Lib.hid (HO.out.keep hb34)
        have HA4 := Lib.hid hA4
        clear hA4
        have e4' : w4.cell? ⟨b4, o4, none⟩ = some (.string ⟨(piece qs 0).toArray⟩) := e4
        go_wp2_with fail
        refine (HT0.out _).mono ?_
        rintro e w4' ⟨rfl, rfl⟩
        go_wp2_with fail
        refine (HP.out _).mono ?_
        rintro e w4' ⟨⟨x, y, rfl, hxy⟩, rfl⟩
        cases hsp : spanP (trimL (piece qs 0)) with
        | none =>
          have HQ := Lib.hid (HQn.out hsp)
          have hfr := Hf0.out.keep hbr4
          have a0 := hfr.cell 0
          have f0 := hfr.frozen 0
          have a1 := hfr.cell 1
          have f1 := hfr.frozen 1
          have Hxy := Lib.hid hxy
          have Hsp := Lib.hid hsp
          have Hfr := Lib.hid hfr
          clear hxy hsp hfr
          go_wp2_with fail
          have hk1 : Value.int .i64 (k + 1) = Value.int .i64 ((k + 1 : Nat) : Int) := by simp
          refine bodyPost_ret (v := .tuple #[.slice none 0 0, .agg #[.int .i64 3, .int .i64 ((k + 1 : Nat) : Int)]]) (by simp [results, Tryd.results12, go_sem, a0, a1]) rfl ?_
          refine ⟨?_, bSet2 (Hw2.out.trans (hbr4.mono (Nat.le_of_lt hsz2))) (Nat.le_refl _) _ _⟩
          unfold ParseOut
          have hbd : badL (linesOf l) = some (k + 1) := by
            rw [← List.take_append_drop (k + 1) (linesOf l), Htk.out]
            exact bad_bad HB.out HQ.out
          rw [hbd]
        | some q =>
          obtain rfl := hxy q hsp
          have HQ := Lib.hid (HQs.out x y hsp)
          have Hxy := Lib.hid hxy
          have Hsp := Lib.hid hsp
          clear hxy hsp
          go_wp2_with fail
          generalize hB : w4.heap.size = B at h4 hb34
          go_loopw [14] (fun i wr2 => ∃ (m : Nat) (fv : Value), 1 ≤ m ∧ m ≤ qs.length ∧ i = .int .i64 m ∧ Hid (Blk wr2 B #[.int .i64 ((k : Int) + 1), .int .i64 x, .int .i64 y, fv, .string ⟨c.toArray⟩] 35) ∧ Hid (OwnS wr2 (B + 1) fv (((qs.take m).drop 1).map trimL)) ∧ Hid (Below B w4 wr2)) (fun i _ => qs.length - (intOf i).toNat)
          case atStart => exact ⟨1, _, by omega, hn0, rfl, Lib.hid (by rw [← hB]; exact Blk.new w4 _ _), Lib.hid (by rw [show ((qs.take 1).drop 1) = [] by simp]; exact OwnS.nil _ _), Lib.hid (by rw [← hB]; exact bBox w4 _)⟩
          case round =>
            obtain ⟨m, fv, hm1, hm, rfl, HX, HF, HW⟩ := hrel
            obtain ⟨Af, cf, rfl, _⟩ := HF.out.form
            by_cases hmt : m < qs.length
            · obtain ⟨b5, o5, hb5, h5, e5⟩ := HA4.out.at_ hmt
              injection hb5 with hb5
              injection hb5 with hb5 ho5
              subst hb5 ho5
              have g5 : wr.cell? ⟨b4, o4 + m, none⟩ = some (.string ⟨(piece qs m).toArray⟩) := (HW.out.cell (p := ⟨b4, o4 + m, none⟩) h4).trans e5
              have hmi : (m : Int) < qs.length := by omega
              have HT5 := Lib.hid (fun w' => rfTrim (piece qs m) w' (by have := HL2.out _ (piece_mem hmt); omega))
              have hln : (((qs.take m).drop 1).map trimL).length = m - 1 := by simp; omega
              have hlA : (((qs.take m).drop 1).map trimL).length + 1 ≤ 1000000 := by omega
              have hst : ((qs.take (m + 1)).drop 1).map trimL = ((qs.take m).drop 1).map trimL ++ [trimL (piece qs m)] := by
                rw [List.take_add_one, List.drop_append_of_le_length (by simp; omega)]
                simp [piece, hmt]
              generalize ((qs.take m).drop 1).map trimL = dn at HF HX hln hlA hst
              clear hln
              have Hst := Lib.hid hst
              clear hst
              go_wp2_with fail
              refine wp_region_any (by kernel_rfl) ?_
              change wpAny _ _ _ _ _ _ _ (World.drew _)
              have HXd := Lib.hid (show Blk wr.drew B _ _ from HX.out)
              have HFd := Lib.hid (HF.out.keep (Below.refl _ _).drew)
              have HWd := Lib.hid (show Below B w4 wr.drew from HW.out.trans (Below.refl _ _).drew)
              have g5d : wr.drew.cell? ⟨b4, o4 + m, none⟩ = some (.string ⟨(piece qs m).toArray⟩) := g5
              have a3d := HXd.out.cell 3
              clear g5 HX HF HW
              generalize wr.drew = wd at HXd HFd HWd g5d a3d
              have hsz5 := HXd.out.lt
              refine wpAny_take (i := 0) (v := .pointer (some ⟨B, 3, none⟩)) rfl (by kernel_rfl) (by kernel_rfl) (by kernel_rfl) (fun _ _ _ h => h) (Or.inl ⟨by rfl, fun w => by go_simp⟩) ?_
              refine wpAny_take (i := 2) (v := .slice (some ⟨b4, o4, none⟩) qs.length c4) rfl (by kernel_rfl) (by kernel_rfl) (by kernel_rfl) (fun _ _ _ h => h) (Or.inl ⟨by rfl, fun w => by go_simp⟩) ?_
              refine wpAny_take (i := 3) (v := .int .i64 m) rfl (by kernel_rfl) (by kernel_rfl) (by kernel_rfl) (fun _ _ _ h => h) (Or.inl ⟨by rfl, fun w => by go_simp⟩) ?_
              refine wpAny_take (i := 4) (v := .pointer (some ⟨b4, o4 + m, none⟩)) rfl (by kernel_rfl) (by kernel_rfl) (by kernel_rfl) (fun _ _ _ h => h) (Or.inl ⟨by rfl, fun w => by go_simp⟩) ?_
              refine wpAny_ready (rs := [1, 5]) (by kernel_rfl) (by simp) ?_
              refine AllReady.cons rfl (fun K hK => ?a1) (AllReady.cons rfl (fun K hK => ?b1) AllReady.nil)
              case' a1 =>
                go_simp
                refine hK _ _ ?_
                clear hK K
                refine wpAny_ready (rs := [5]) (by kernel_rfl) (by simp) ?_
                refine AllReady.cons rfl (fun K hK => ?_) AllReady.nil
                go_simp
                refine hK _ _ ?_
                clear hK K
                refine wpAny_ready (rs := [6]) (by kernel_rfl) (by simp) ?_
                refine AllReady.cons rfl (fun K hK => ?_) AllReady.nil
                refine stepCall1 27 rfl (.tmp 71) 9 rfl (enters_of Tryd.func27 (by kernel_rfl) rfl) rfl (HT5.out _) ?_
                refine hK _ _ ?_
                clear hK K
                refine wpAny_ready (rs := [7]) (by kernel_rfl) (by simp) ?_
                refine AllReady.cons rfl (fun K hK => ?_) AllReady.nil
                go_simp
                refine hK _ _ ?_
                clear hK K
              case' b1 =>
                go_simp
                refine hK _ _ ?_
                clear hK K
                refine wpAny_ready (rs := [1, 6]) (by kernel_rfl) (by simp) ?_
                refine AllReady.cons rfl (fun K hK => ?a2) (AllReady.cons rfl (fun K hK => ?b2) AllReady.nil)
                case' a2 =>
                  go_simp
                  refine hK _ _ ?_
                  clear hK K
                  refine wpAny_ready (rs := [6]) (by kernel_rfl) (by simp) ?_
                  refine AllReady.cons rfl (fun K hK => ?_) AllReady.nil
                  refine stepCall1 27 rfl (.tmp 71) 9 rfl (enters_of Tryd.func27 (by kernel_rfl) rfl) rfl (HT5.out _) ?_
                  refine hK _ _ ?_
                  clear hK K
                  refine wpAny_ready (rs := [7]) (by kernel_rfl) (by simp) ?_
                  refine AllReady.cons rfl (fun K hK => ?_) AllReady.nil
                  go_simp
                  refine hK _ _ ?_
                  clear hK K
                case' b2 =>
                  refine stepCall1 27 rfl (.tmp 71) 9 rfl (enters_of Tryd.func27 (by kernel_rfl) rfl) rfl (HT5.out _) ?_
                  refine hK _ _ ?_
                  clear hK K
                  refine wpAny_ready (rs := [1, 7]) (by kernel_rfl) (by simp) ?_
                  refine AllReady.cons rfl (fun K hK => ?a3) (AllReady.cons rfl (fun K hK => ?b3) AllReady.nil)
                  case' a3 =>
                    go_simp
                    refine hK _ _ ?_
                    clear hK K
                    refine wpAny_ready (rs := [7]) (by kernel_rfl) (by simp) ?_
                    refine AllReady.cons rfl (fun K hK => ?_) AllReady.nil
                    go_simp
                    refine hK _ _ ?_
                    clear hK K
                  case' b3 =>
                    go_simp
                    refine hK _ _ ?_
                    clear hK K
                    refine wpAny_ready (rs := [1]) (by kernel_rfl) (by simp) ?_
                    refine AllReady.cons rfl (fun K hK => ?_) AllReady.nil
                    go_simp
                    refine hK _ _ ?_
                    clear hK K
              all_goals
                refine wpAny_ready (rs := [8]) (by kernel_rfl) (by simp) ?_
                refine AllReady.cons rfl (fun K hK => ?_) AllReady.nil
                refine stepS rfl (.tmp 67) (.tmp 73) rfl (B + 1) rfl HFd.out (trimL (piece qs m)) rfl hlA (by omega) ?_
                intro v' w5 HO5 HG5
                refine hK _ _ ?_
                clear hK K
                have hrow := HFd.out.row
                have HX5 := Lib.hid (HXd.out.grown HG5.out (fun e => by have := (hrow _ e.symm); omega))
                have HW5 := Lib.hid (HWd.out.grown HG5.out (by omega) (fun g e => by have := hrow g e; omega))
                clear hrow
                obtain ⟨A5, c5, rfl, _⟩ := HO5.out.form
                have a5 := HX5.out.cell 3
                have f5 := HX5.out.frozen 3
                refine wpAny_take (i := 9) (v := .pointer (some ⟨B, 3, none⟩)) rfl (by kernel_rfl) (by kernel_rfl) (by kernel_rfl) (fun _ _ _ h => h) (Or.inl ⟨by rfl, fun w => by go_simp⟩) ?_
                refine wpAny_ready (rs := [10]) (by kernel_rfl) (by simp) ?_
                refine AllReady.cons rfl (fun K hK => ?_) AllReady.nil
                go_simp
                refine hK _ _ ?_
                clear hK K
                refine wpAny_done (by kernel_rfl) ?_ _
                go_wp2_with fail
                go_roundw
                case rel => exact ⟨m + 1, _, by omega, by omega, by go_num, Lib.hid (HX5.out.set (i := 3) _), Lib.hid (by have h := HO5.out; rw [show (dn ++ [trimL (piece qs m)]).length = dn.length + 1 by simp] at h; rw [Hst.out]; exact OwnS.set (b := B) (i := 3) h (Nat.lt_succ_self B)), Lib.hid (HW5.out.setCell (p := ⟨B, 3, none⟩) (Nat.le_refl _) _)⟩
                case measure => simp [intOf]; omega
            · obtain rfl : m = qs.length := by omega
              have hq1 : ((qs.take qs.length).drop 1).map trimL = (qs.drop 1).map trimL := by rw [List.take_length]
              rw [hq1] at HF HX
              generalize (qs.drop 1).map trimL = fs at HF HX HQ
              clear hq1
              have a3 := HX.out.cell 3
              have hmi : ¬ (qs.length : Int) < qs.length := by omega
              have a0 := HX.out.cell 0
              have a1 := HX.out.cell 1
              have a2 := HX.out.cell 2
              have a4 := HX.out.cell 4
              have HO5 := Lib.hid (HO4.out.keep (show Below w4.heap.size w4 wr by rw [hB]; exact HW.out))
              have hsz5 := HW.out.size
              obtain ⟨Ao, co, rfl, hco⟩ := HO5.out.form
              have hgl := goodL_le ((linesOf l).take k)
              have hgl2 : ((linesOf l).take k).length ≤ k := by simp; omega
              have hsz2r := hbr4.size
              go_wp2_with (at_builtin; refine wpL rfl _ _ rfl w2.heap.size rfl HO5.out ⟨(k : Int) + 1, x, y, fs, c⟩ _ (FldAt.of_own HF.out) rfl ?hl6 ?hb6 ?_)
              case hl6 => omega
              case hb6 => omega
              intro v' w6 HO6 HG6
              go_wp2_with fail
              go_roundw
              case rel => exact ⟨k + 1, by omega, by go_num, Lib.hid (by rw [Htk.out]; exact bad_good HB.out HQ.out), Lib.hid (by rw [Htk.out, good_more HQ.out]; exact HO6.out), (hbr4.trans (HW.out.mono (by omega))).grown HG6.out (by omega) (fun g e => (HO5.out.row g e).1)⟩
              case measure => simp [intOf]; omega
    · obtain rfl : k = ps.length := by omega
      have hfr := Hf0.out.keep hbr
      have a0 := hfr.cell 0
      have f0 := hfr.frozen 0
      have a1 := hfr.cell 1
      have f1 := hfr.frozen 1
      rw [← HLn.out, List.take_length] at HB HO
      obtain ⟨Av, cv, rfl, _⟩ := HO.out.form
      have Hfr := Lib.hid hfr
      clear hfr
      go_wp2_with fail
      refine bodyPost_ret (v := .tuple #[.slice Av (goodL (linesOf l)).length cv, .agg #[.int .i64 0, .int .i64 0]]) (by simp [results, Tryd.results12, go_sem, a0, a1]) rfl ?_
      refine ⟨?_, bSet2 (Hw2.out.trans (hbr.mono (Nat.le_of_lt hsz2))) (Nat.le_refl _) _ _⟩
      unfold ParseOut
      rw [HB.out]
      exact ⟨Av, cv, rfl, (ownL_set _ (Hfr.out.set (i := 0) _) (by decide) (ownL_set _ Hfr.out (by decide) HO.out)).mono (Nat.le_of_lt hsz2)⟩
end Go.Proofs.YtafmdeipcepaiaaDoor
