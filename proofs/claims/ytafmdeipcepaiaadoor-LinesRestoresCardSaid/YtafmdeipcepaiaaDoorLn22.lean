/- lines.Text -/
import Derived.Test.YtafmdeipcepaiaaDoorLn21
import Derived.Test.YtafmdeipcepaiaaDoorBld
namespace Go.Proofs.YtafmdeipcepaiaaDoor
open Go.RowKit Go.Sort

/-- while a line is written: the builder in block b, the line in block L -/
structure InvT (b L : Nat) (w : World) (cs : Array Value) (acc : List UInt8) (W : World) : Prop where
  bld : Bld 59 [] b acc W
  blk : Blk W L cs 35
  bel : Below b w W
theorem InvT.keep {b L : Nat} {w : World} {cs : Array Value} {acc : List UInt8} {W W' : World} (h : InvT b L w cs acc W) (hb : Below W.heap.size W W') : InvT b L w cs acc W' :=
  ⟨h.bld.keep hb, h.blk.keep hb, h.bel.trans (hb.mono (Nat.le_of_lt h.bld.lt))⟩
theorem InvT.write {b L : Nat} {w : World} {cs : Array Value} {acc acc' : List UInt8} {W W' : World} (hL : L ≠ b) (h : InvT b L w cs acc W) (h1 : Bld 59 [] b acc' W') (h2 : Below b W W') (h3 : FrB b W W') : InvT b L w cs acc' W' :=
  ⟨h1, h3 L _ hL h.blk (fun cs fr e => by injection e with _ e2; exact absurd e2 (by decide)), h.bel.trans h2⟩

set_option maxHeartbeats 16000000 in
set_option maxRecDepth 100000 in
theorem lnText (ls : List LineD) (A : Option Addr) (cp : Nat) (w : World) (hE : Env w) (hA : LinesAt w A ls) (hl : ls.length ≤ 40) (hf : ∀ d ∈ ls, FewL d) :
    Calls Tryd.prog 18 #[.slice A ls.length cp] w fun e w' => e = .returned (.tuple #[.string ⟨(textT ls).1.toArray⟩, .int .i64 (textT ls).2]) ∧ Below w.heap.size w w' := by
  have HE := Lib.hid hE
  have HA := Lib.hid hA
  have Hf := Lib.hid hf
  clear hE hA hf
  go_enter Tryd.func18, Tryd.ntmps18
  go_wp2_with fail
  go_loopw [12] (fun i wr => ∃ (k : Nat) (acc : List UInt8), k ≤ ls.length ∧ i = .int .i64 k ∧ acc.length ≤ 1200 * k ∧ Hid (acc = (ls.take k).flatMap oneL) ∧ Hid ((ls.take k).all (fun d => chkL d == 0) = true) ∧ Hid (Bld 59 [] w.heap.size acc wr) ∧ Below w.heap.size w wr) (fun i _ => ls.length - (intOf i).toNat)
  case atStart => exact ⟨0, [], Nat.zero_le _, rfl, by simp, Lib.hid rfl, Lib.hid rfl, Lib.hid (Bld.fresh _ _ _), bBox w _⟩
  case round =>
    obtain ⟨k, acc, hk, rfl, hal, HT, HK, HB, hbr⟩ := hrel
    by_cases hlt : k < ls.length
    · obtain ⟨b1, o1, rfl, h1, p0, p1, p2, ⟨F1, d1, p3, s1⟩, p4⟩ := HA.out.at_ hlt
      have hfw := Hf.out _ (by simp [lineAt, hlt] : lineAt ls k ∈ ls)
      have HC := Lib.hid (fun w' (h : Below w.heap.size w w') => lnCheck (lineAt ls k) F1 d1 w' (s1.keep h) (by have := hfw.cnt; omega) (fun f hf => ⟨by have := hfw.len f hf; omega, anyAll (by have := hfw.len f hf; omega)⟩) (by have := hfw.com; omega))
      have hbad := fun h => text_bad (lineAt_get hlt) HK.out h
      have hgood := fun h => all_step (fun d => chkL d == 0) (lineAt_get hlt) HK.out h
      have hst := flat_snoc ls (lineAt_get hlt)
      have hki : (k : Int) < ls.length := by omega
      have HS := Lib.hid s1
      generalize lineAt ls k = d at p0 p1 p2 p3 p4 HC hbad hgood hfw hst HS
      have g0 := (hbr.cell (p := ⟨b1, o1 + k * 5, none⟩) h1).trans p0
      have g1 := (hbr.cell (p := ⟨b1, o1 + k * 5 + 1, none⟩) h1).trans p1
      have g2 := (hbr.cell (p := ⟨b1, o1 + k * 5 + 2, none⟩) h1).trans p2
      have g3 := (hbr.cell (p := ⟨b1, o1 + k * 5 + 3, none⟩) h1).trans p3
      have g4 := (hbr.cell (p := ⟨b1, o1 + k * 5 + 4, none⟩) h1).trans p4
      have hLb : wr.heap.size ≠ w.heap.size := by have := HB.out.lt; omega
      have hI0 : InvT w.heap.size wr.heap.size w #[.int .i64 d.num, .int .i64 d.lo, .int .i64 d.hi, .slice F1 d.fields.length d1, .string ⟨d.com.toArray⟩] acc (wr.alloc (.cells #[.int .i64 d.num, .int .i64 d.lo, .int .i64 d.hi, .slice F1 d.fields.length d1, .string ⟨d.com.toArray⟩] 35)) :=
        ⟨HB.out.keep (bBox _ _), Blk.new _ _ _, hbr.trans ((bBox wr _).mono hbr.size)⟩
      have HI0 := Lib.hid hI0
      clear s1 hI0 p0 p1 p2 p3 p4
      by_cases hc : chkL d = 0
      · have hg := hgood (by simp [hc])
        rw [hc] at HC
        have hone : oneL d = headT d ++ fieldsT d.fields ++ comT d.com ++ [10] := rfl
        have hhe : headT d = hexL d.lo ++ (if d.hi = d.lo then [] else [46, 46] ++ hexL d.hi) := rfl
        have hol := oneL_le hfw
        have hcn := hfw.cnt
        have hcm := hfw.com
        have HLn := Lib.hid hfw.len
        generalize oneL d = od at hone hst hol
        generalize headT d = hdt at hone hhe
        obtain ⟨num, lo, hi, fs, com⟩ := d
        dsimp only at g0 g1 g2 g3 g4 HC hone hhe hcn hcm HLn HS HI0
        have Hg := Lib.hid hg
        have Hc := Lib.hid hc
        have Hst := Lib.hid hst
        have Hone := Lib.hid hone
        have Hhe := Lib.hid hhe
        clear hg hc hst hone hhe
        clear hbad hgood hfw
        have hl1 := hexL_length_le lo
        have hl2 := hexL_length_le hi
        have HX1 := Lib.hid (fun w' (h : Below w.heap.size w w') => cpHex lo w' (HE.out.keep h).dig)
        have HX2 := Lib.hid (fun w' (h : Below w.heap.size w w') => cpHex hi w' (HE.out.keep h).dig)
        by_cases he : hi = lo
        · have hne : (lo != hi) = false := by simp [he]
          have Hh := Lib.hid (show hdt = hexL lo by rw [Hhe.out, if_pos he]; simp)
          have hdl : hdt.length ≤ 14 := by rw [Hh.out]; omega
          generalize hexL lo = xl at HX1 Hh hl1
          generalize hexL hi = xh at HX2 hl2
          have He := Lib.hid he
          clear he
          obtain rfl := Hh.out
          go_wp2_with fail
          refine (HC.out _ HI0.out.bel).mono ?_
          rintro e w2 ⟨rfl, hb2⟩
          have HI2 := Lib.hid (HI0.out.keep hb2)
          have x1 := HI2.out.blk.cell 1
          clear hb2
          go_wp2_with fail
          refine (HX1.out _ HI2.out.bel).mono ?_
          rintro e w3 ⟨rfl, hb3⟩
          have HI3 := Lib.hid (HI2.out.keep hb3)
          clear hb3
          go_wp2_with fail
          refine (writeStringF bldTy0 HI3.out.bld hdt (by omega) (by omega)).mono ?_
          rintro e w4 ⟨rfl, hbl4, hb4, hfr4⟩
          have HIh := Lib.hid (HI3.out.write hLb hbl4 hb4 hfr4)
          clear hbl4 hb4 hfr4
          have y1 := HIh.out.blk.cell 1
          have y2 := HIh.out.blk.cell 2
          have y3 := HIh.out.blk.cell 3
          go_wp2_with fail
          go_loopw [38] (fun i wr2 => ∃ (m : Nat) (acc2 : List UInt8), m ≤ fs.length ∧ i = .int .i64 m ∧ acc2.length ≤ 1200 * k + 14 + 102 * m ∧ Hid (acc2 = acc ++ hdt ++ fieldsT (fs.take m)) ∧ Hid (InvT w.heap.size wr.heap.size w #[.int .i64 num, .int .i64 lo, .int .i64 hi, .slice F1 fs.length d1, .string ⟨com.toArray⟩] acc2 wr2)) (fun i _ => fs.length - (intOf i).toNat)
          case atStart => exact ⟨0, _, Nat.zero_le _, rfl, by rw [List.length_append]; omega, Lib.hid (by simp [fieldsT]), HIh⟩
          case round =>
            obtain ⟨m, acc2, hm, rfl, hal2, HT2, HI⟩ := hrel
            by_cases hmt : m < fs.length
            · obtain ⟨b2, o2, rfl, h2, e2⟩ := (HS.out.keep HI.out.bel).at_ hmt
              have hpl := HLn.out _ (piece_mem hmt)
              have hst2 := fieldsT_snoc fs hmt
              generalize piece fs m = f at e2 hpl hst2
              have c3 := catC [59, 32] f
              have HT3 := Lib.hid (show acc2 ++ ([59, 32] ++ f) = acc ++ hdt ++ fieldsT (fs.take (m + 1)) by rw [HT2.out, hst2, List.append_assoc])
              have hl3 : ([59, 32] ++ f).length ≤ 102 := by simp; omega
              have HWs := Lib.hid (writeStringF bldTy0 HI.out.bld ([59, 32] ++ f) (by omega) (by omega))
              have hl4 : (acc2 ++ ([59, 32] ++ f)).length ≤ 1200 * k + 14 + 102 * (m + 1) := by rw [List.length_append]; omega
              generalize acc2 ++ ([59, 32] ++ f) = acc3 at HT3 hl4 HWs
              generalize [59, 32] ++ f = f2 at c3 hl3 HWs
              have hmi : (m : Int) < fs.length := by omega
              clear hst2
              go_wp2_with fail
              refine HWs.out.mono ?_
              rintro e w7 ⟨rfl, hbl7, hb7, hfr7⟩
              have HI7 := Lib.hid (HI.out.write hLb hbl7 hb7 hfr7)
              clear hbl7 hb7 hfr7
              go_wp2_with fail
              go_roundw
              case rel => exact ⟨m + 1, acc3, by omega, by go_num, hl4, HT3, HI7⟩
              case measure => simp [intOf]; omega
            · obtain rfl : m = fs.length := by omega
              have hmi : ¬ (fs.length : Int) < fs.length := by omega
              have z4 := HI.out.blk.cell 4
              have HO := Lib.hid (show acc ++ od = acc2 ++ comT com ++ [10] by rw [Hone.out, HT2.out, List.take_length]; simp)
              have hfl : 102 * fs.length ≤ 1020 := by omega
              cases com with
              | nil =>
                have HWb := Lib.hid (writeByteF bldTy0 HI.out.bld 10 (by omega))
                have HO2 := Lib.hid (show acc2 ++ [10] = (ls.take (k + 1)).flatMap oneL by rw [Hst.out, ← HT.out, HO.out]; simp [comT])
                have hl5 : (acc2 ++ [10]).length ≤ 1200 * (k + 1) := by simp; omega
                generalize acc2 ++ [10] = acc3 at HWb HO2 hl5
                go_wp2_with fail
                refine HWb.out.mono ?_
                rintro e w7 ⟨rfl, hbl7, hb7, hfr7⟩
                have HI7 := Lib.hid (HI.out.write hLb hbl7 hb7 hfr7)
                clear hbl7 hb7 hfr7
                go_wp2_with fail
                go_roundw
                case rel => exact ⟨k + 1, acc3, by omega, by go_num, hl5, HO2, Hg, Lib.hid HI7.out.bld, HI7.out.bel⟩
                case measure => simp [intOf]; omega
              | cons y ys =>
                have hyl : ys.length ≤ 99 := by simp at hcm; omega
                have c5 := catC [32, 35, 32] (y :: ys)
                have hl5 : ([32, 35, 32] ++ y :: ys).length ≤ 103 := by simp; omega
                have HWs := Lib.hid (writeStringF bldTy0 HI.out.bld ([32, 35, 32] ++ y :: ys) (by omega) (by omega))
                have HO2 := Lib.hid (show acc2 ++ ([32, 35, 32] ++ y :: ys) ++ [10] = (ls.take (k + 1)).flatMap oneL by rw [Hst.out, ← HT.out, HO.out]; simp [comT])
                have hl6 : (acc2 ++ ([32, 35, 32] ++ y :: ys)).length ≤ 1200 * k + 1150 := by rw [List.length_append]; omega
                generalize acc2 ++ ([32, 35, 32] ++ y :: ys) = acc3 at HWs HO2 hl6
                generalize [32, 35, 32] ++ y :: ys = f2 at c5 HWs hl5
                go_wp2_with fail
                refine HWs.out.mono ?_
                rintro e w7 ⟨rfl, hbl7, hb7, hfr7⟩
                have HI7 := Lib.hid (HI.out.write hLb hbl7 hb7 hfr7)
                clear hbl7 hb7 hfr7
                have HWb := Lib.hid (writeByteF bldTy0 HI7.out.bld 10 (by omega))
                have hl7 : (acc3 ++ [10]).length ≤ 1200 * (k + 1) := by simp; omega
                generalize acc3 ++ [10] = acc4 at HWb HO2 hl7
                go_wp2_with fail
                refine HWb.out.mono ?_
                rintro e w8 ⟨rfl, hbl8, hb8, hfr8⟩
                have HI8 := Lib.hid (HI7.out.write hLb hbl8 hb8 hfr8)
                clear hbl8 hb8 hfr8
                go_wp2_with fail
                go_roundw
                case rel => exact ⟨k + 1, acc4, by omega, by go_num, hl7, HO2, Hg, Lib.hid HI8.out.bld, HI8.out.bel⟩
                case measure => simp [intOf]; omega
        · have hne : (lo != hi) = true := by simp; exact fun e => he e.symm
          have Hh := Lib.hid (show hdt = hexL lo ++ ([46, 46] ++ hexL hi) by rw [Hhe.out, if_neg he])
          have hdl : hdt.length ≤ 14 := by rw [Hh.out]; simp; omega
          generalize hexL lo = xl at HX1 Hh hl1
          generalize hexL hi = xh at HX2 Hh hl2
          have c1 := catC [46, 46] xh
          have hyh : ([46, 46] ++ xh).length ≤ 8 := by simp; omega
          generalize [46, 46] ++ xh = yh at c1 Hh hyh
          have He := Lib.hid he
          clear he
          go_wp2_with fail
          refine (HC.out _ HI0.out.bel).mono ?_
          rintro e w2 ⟨rfl, hb2⟩
          have HI2 := Lib.hid (HI0.out.keep hb2)
          have x1 := HI2.out.blk.cell 1
          clear hb2
          go_wp2_with fail
          refine (HX1.out _ HI2.out.bel).mono ?_
          rintro e w3 ⟨rfl, hb3⟩
          have HI3 := Lib.hid (HI2.out.keep hb3)
          clear hb3
          go_wp2_with fail
          refine (writeStringF bldTy0 HI3.out.bld xl (by omega) (by omega)).mono ?_
          rintro e w4 ⟨rfl, hbl4, hb4, hfr4⟩
          have HI4 := Lib.hid (HI3.out.write hLb hbl4 hb4 hfr4)
          clear hbl4 hb4 hfr4
          have y1 := HI4.out.blk.cell 1
          have y2 := HI4.out.blk.cell 2
          go_wp2_with fail
          refine (HX2.out _ HI4.out.bel).mono ?_
          rintro e w5 ⟨rfl, hb5⟩
          have HI5 := Lib.hid (HI4.out.keep hb5)
          clear hb5
          go_wp2_with fail
          refine (writeStringF bldTy0 HI5.out.bld yh (by rw [List.length_append]; omega) (by omega)).mono ?_
          rintro e w6 ⟨rfl, hbl6, hb6, hfr6⟩
          have HIh := Lib.hid (show InvT w.heap.size wr.heap.size w #[.int .i64 num, .int .i64 lo, .int .i64 hi, .slice F1 fs.length d1, .string ⟨com.toArray⟩] (acc ++ hdt) w6 by rw [Hh.out, ← List.append_assoc]; exact HI5.out.write hLb hbl6 hb6 hfr6)
          clear hbl6 hb6 hfr6
          have z3 := HIh.out.blk.cell 3
          go_wp2_with fail
          go_loopw [38] (fun i wr2 => ∃ (m : Nat) (acc2 : List UInt8), m ≤ fs.length ∧ i = .int .i64 m ∧ acc2.length ≤ 1200 * k + 14 + 102 * m ∧ Hid (acc2 = acc ++ hdt ++ fieldsT (fs.take m)) ∧ Hid (InvT w.heap.size wr.heap.size w #[.int .i64 num, .int .i64 lo, .int .i64 hi, .slice F1 fs.length d1, .string ⟨com.toArray⟩] acc2 wr2)) (fun i _ => fs.length - (intOf i).toNat)
          case atStart => exact ⟨0, _, Nat.zero_le _, rfl, by rw [List.length_append]; omega, Lib.hid (by simp [fieldsT]), HIh⟩
          case round =>
            obtain ⟨m, acc2, hm, rfl, hal2, HT2, HI⟩ := hrel
            by_cases hmt : m < fs.length
            · obtain ⟨b2, o2, rfl, h2, e2⟩ := (HS.out.keep HI.out.bel).at_ hmt
              have hpl := HLn.out _ (piece_mem hmt)
              have hst2 := fieldsT_snoc fs hmt
              generalize piece fs m = f at e2 hpl hst2
              have c3 := catC [59, 32] f
              have HT3 := Lib.hid (show acc2 ++ ([59, 32] ++ f) = acc ++ hdt ++ fieldsT (fs.take (m + 1)) by rw [HT2.out, hst2, List.append_assoc])
              have hl3 : ([59, 32] ++ f).length ≤ 102 := by simp; omega
              have HWs := Lib.hid (writeStringF bldTy0 HI.out.bld ([59, 32] ++ f) (by omega) (by omega))
              have hl4 : (acc2 ++ ([59, 32] ++ f)).length ≤ 1200 * k + 14 + 102 * (m + 1) := by rw [List.length_append]; omega
              generalize acc2 ++ ([59, 32] ++ f) = acc3 at HT3 hl4 HWs
              generalize [59, 32] ++ f = f2 at c3 hl3 HWs
              have hmi : (m : Int) < fs.length := by omega
              clear hst2
              go_wp2_with fail
              refine HWs.out.mono ?_
              rintro e w7 ⟨rfl, hbl7, hb7, hfr7⟩
              have HI7 := Lib.hid (HI.out.write hLb hbl7 hb7 hfr7)
              clear hbl7 hb7 hfr7
              go_wp2_with fail
              go_roundw
              case rel => exact ⟨m + 1, acc3, by omega, by go_num, hl4, HT3, HI7⟩
              case measure => simp [intOf]; omega
            · obtain rfl : m = fs.length := by omega
              have hmi : ¬ (fs.length : Int) < fs.length := by omega
              have z4 := HI.out.blk.cell 4
              have HO := Lib.hid (show acc ++ od = acc2 ++ comT com ++ [10] by rw [Hone.out, HT2.out, List.take_length]; simp)
              have hfl : 102 * fs.length ≤ 1020 := by omega
              cases com with
              | nil =>
                have HWb := Lib.hid (writeByteF bldTy0 HI.out.bld 10 (by omega))
                have HO2 := Lib.hid (show acc2 ++ [10] = (ls.take (k + 1)).flatMap oneL by rw [Hst.out, ← HT.out, HO.out]; simp [comT])
                have hl5 : (acc2 ++ [10]).length ≤ 1200 * (k + 1) := by simp; omega
                generalize acc2 ++ [10] = acc3 at HWb HO2 hl5
                go_wp2_with fail
                refine HWb.out.mono ?_
                rintro e w7 ⟨rfl, hbl7, hb7, hfr7⟩
                have HI7 := Lib.hid (HI.out.write hLb hbl7 hb7 hfr7)
                clear hbl7 hb7 hfr7
                go_wp2_with fail
                go_roundw
                case rel => exact ⟨k + 1, acc3, by omega, by go_num, hl5, HO2, Hg, Lib.hid HI7.out.bld, HI7.out.bel⟩
                case measure => simp [intOf]; omega
              | cons y ys =>
                have hyl : ys.length ≤ 99 := by simp at hcm; omega
                have c5 := catC [32, 35, 32] (y :: ys)
                have hl5 : ([32, 35, 32] ++ y :: ys).length ≤ 103 := by simp; omega
                have HWs := Lib.hid (writeStringF bldTy0 HI.out.bld ([32, 35, 32] ++ y :: ys) (by omega) (by omega))
                have HO2 := Lib.hid (show acc2 ++ ([32, 35, 32] ++ y :: ys) ++ [10] = (ls.take (k + 1)).flatMap oneL by rw [Hst.out, ← HT.out, HO.out]; simp [comT])
                have hl6 : (acc2 ++ ([32, 35, 32] ++ y :: ys)).length ≤ 1200 * k + 1150 := by rw [List.length_append]; omega
                generalize acc2 ++ ([32, 35, 32] ++ y :: ys) = acc3 at HWs HO2 hl6
                generalize [32, 35, 32] ++ y :: ys = f2 at c5 HWs hl5
                go_wp2_with fail
                refine HWs.out.mono ?_
                rintro e w7 ⟨rfl, hbl7, hb7, hfr7⟩
                have HI7 := Lib.hid (HI.out.write hLb hbl7 hb7 hfr7)
                clear hbl7 hb7 hfr7
                have HWb := Lib.hid (writeByteF bldTy0 HI7.out.bld 10 (by omega))
                have hl7 : (acc3 ++ [10]).length ≤ 1200 * (k + 1) := by simp; omega
                generalize acc3 ++ [10] = acc4 at HWb HO2 hl7
                go_wp2_with fail
                refine HWb.out.mono ?_
                rintro e w8 ⟨rfl, hbl8, hb8, hfr8⟩
                have HI8 := Lib.hid (HI7.out.write hLb hbl8 hb8 hfr8)
                clear hbl8 hb8 hfr8
                go_wp2_with fail
                go_roundw
                case rel => exact ⟨k + 1, acc4, by omega, by go_num, hl7, HO2, Hg, Lib.hid HI8.out.bld, HI8.out.bel⟩
                case measure => simp [intOf]; omega
      · have hg := hbad hc
        have hne : (chkL d != 0) = true := by simp [hc]
        generalize chkL d = cc at HC hg hne
        obtain ⟨num, lo, hi, fs, com⟩ := d
        dsimp only at g0 g1 g2 g3 g4 HC HI0
        have Hg := Lib.hid hg
        have Hc := Lib.hid hc
        clear hg hc
        clear hbad hgood hst
        go_wp2_with fail
        refine (HC.out _ HI0.out.bel).mono ?_
        rintro e w2 ⟨rfl, hb2⟩
        go_wp2_with fail
        go_ret2
        exact ⟨by rw [Hg.out]; rfl, (HI0.out.keep hb2).bel⟩
    · obtain rfl : k = ls.length := by omega
      have hki : ¬ (ls.length : Int) < ls.length := by omega
      have hg := text_good (by have := HK.out; rwa [List.take_length] at this)
      have hfin := HT.out
      rw [List.take_length] at hfin
      have Hg := Lib.hid hg
      have Hfin := Lib.hid hfin
      clear hg hfin
      go_wp2_with fail
      refine (bldString HB.out).mono ?_
      rintro e w2 ⟨rfl, hb2⟩
      go_wp2_with fail
      go_ret2
      exact ⟨by rw [Hg.out, Hfin.out]; rfl, hbr.trans hb2⟩
end Go.Proofs.YtafmdeipcepaiaaDoor
