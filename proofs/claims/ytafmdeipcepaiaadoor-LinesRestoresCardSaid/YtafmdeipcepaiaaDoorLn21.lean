/- one and Text of the reference -/
import Derived.Test.YtafmdeipcepaiaaDoorLn20
namespace Go.Proofs.YtafmdeipcepaiaaDoor
open Go.RowKit Go.Sort

theorem catC (c : List UInt8) (f : List UInt8) : (⟨c.toArray⟩ : ByteArray) ++ ⟨f.toArray⟩ = ⟨(c ++ f).toArray⟩ := ba_app c f

set_option maxHeartbeats 8000000 in
set_option maxRecDepth 100000 in
theorem rfOne (d : LineD) (A : Option Addr) (cp : Nat) (w : World) (hA : StrsAt w A d.fields) (hd : FewL d) :
    Calls Tryd.prog 39 #[.agg #[.int .i64 d.num, .int .i64 d.lo, .int .i64 d.hi, .slice A d.fields.length cp, .string ⟨d.com.toArray⟩]] w fun e w' => e = .returned (.string ⟨(oneL d).toArray⟩) ∧ Below w.heap.size w w' := by
  have hhd := headT_le d
  have hone : oneL d = headT d ++ fieldsT d.fields ++ comT d.com ++ [10] := rfl
  have hhe : headT d = hexL d.lo ++ (if d.hi = d.lo then [] else [46, 46] ++ hexL d.hi) := rfl
  have hcn := hd.cnt
  have hcm := hd.com
  have HLn := Lib.hid hd.len
  generalize oneL d = od at hone
  generalize headT d = hdt at hhd hone hhe
  obtain ⟨num, lo, hi, fs, com⟩ := d
  dsimp only at hA hone hhe hcn hcm HLn ⊢
  have HX1 := Lib.hid (fun w' => rfHex lo w')
  have HX2 := Lib.hid (fun w' => rfHex hi w')
  have hl1 := hexL_length_le lo
  have hl2 := hexL_length_le hi
  have HA := Lib.hid hA
  have Hone := Lib.hid hone
  have Hhe := Lib.hid hhe
  clear hA hone hhe
  clear hd
  go_enter Tryd.func39, Tryd.ntmps39
  by_cases he : hi = lo
  · have hne : (hi != lo) = false := by simp [he]
    have Hh := Lib.hid (show hdt = hexL lo by rw [Hhe.out, if_pos he]; simp)
    generalize hexL lo = xl at HX1 Hh hl1
    generalize hexL hi = xh at HX2 hl2
    have He := Lib.hid he
    clear he
    obtain rfl := Hh.out
    go_wp2_with fail
    refine (HX1.out _).mono ?_
    rintro e w1 ⟨rfl, rfl⟩
    go_wp2_with fail
    go_loop [3, 4] (fun s i => ∃ (m : Nat) (acc : List UInt8), m ≤ fs.length ∧ i = .int .i64 m ∧ s = .string ⟨acc.toArray⟩ ∧ acc.length ≤ 14 + 102 * m ∧ Hid (acc = hdt ++ fieldsT (fs.take m))) (fun _ i => fs.length - (intOf i).toNat)
    case atStart => exact ⟨0, hdt, Nat.zero_le _, rfl, rfl, by omega, Lib.hid (by simp [fieldsT])⟩
    case round =>
      obtain ⟨m, acc, hm, rfl, rfl, hal, HT⟩ := hrel
      by_cases hlt : m < fs.length
      · obtain ⟨b1, o1, rfl, h4, e4⟩ := HA.out.at_ hlt
        have hpl := HLn.out _ (piece_mem hlt)
        have hst := fieldsT_snoc fs hlt
        generalize piece fs m = f at e4 hpl hst
        have c3 := catC [59, 32] f
        have c4 := catC acc ([59, 32] ++ f)
        have HT2 := Lib.hid (show acc ++ ([59, 32] ++ f) = hdt ++ fieldsT (fs.take (m + 1)) by rw [HT.out, hst, List.append_assoc])
        have hl3 : ([59, 32] ++ f).length ≤ 102 := by simp; omega
        have hl4 : (acc ++ ([59, 32] ++ f)).length ≤ 14 + 102 * (m + 1) := by rw [List.length_append]; omega
        generalize acc ++ ([59, 32] ++ f) = acc2 at c4 HT2 hl4
        generalize [59, 32] ++ f = f2 at c3 c4 hl3
        have hki : (m : Int) < fs.length := by omega
        clear hst
        go_wp2_with fail
        go_round
        case rel => exact ⟨m + 1, acc2, by omega, by go_num, rfl, hl4, HT2⟩
        case measure => simp [intOf]; omega
      · obtain rfl : m = fs.length := by omega
        have hki : ¬ (fs.length : Int) < fs.length := by omega
        have HO := Lib.hid (show od = acc ++ comT com ++ [10] by rw [Hone.out, HT.out, List.take_length])
        cases com with
        | nil =>
          have c5 := catC acc [10]
          have HO2 := Lib.hid (show od = acc ++ [10] by rw [HO.out]; simp [comT])
          generalize acc ++ [10] = acc2 at c5 HO2
          go_wp2_with fail
          go_ret
          exact ⟨by rw [HO2.out]; rfl, bBox w _⟩
        | cons y ys =>
          have c5 := catC [32, 35, 32] (y :: ys)
          have c6 := catC acc ([32, 35, 32] ++ y :: ys)
          have c7 := catC (acc ++ ([32, 35, 32] ++ y :: ys)) [10]
          have HO2 := Lib.hid (show od = acc ++ ([32, 35, 32] ++ y :: ys) ++ [10] by rw [HO.out]; simp [comT])
          have hl5 : ([32, 35, 32] ++ y :: ys).length ≤ 103 := by simp at hcm ⊢; omega
          have hyl : ys.length ≤ 99 := by simp at hcm; omega
          have hl6 : (acc ++ ([32, 35, 32] ++ y :: ys)).length ≤ 2000 := by rw [List.length_append]; omega
          generalize acc ++ ([32, 35, 32] ++ y :: ys) ++ [10] = acc3 at c7 HO2
          generalize acc ++ ([32, 35, 32] ++ y :: ys) = acc2 at c6 c7 hl6
          generalize [32, 35, 32] ++ y :: ys = f2 at c5 c6 hl5
          go_wp2_with fail
          go_ret
          exact ⟨by rw [HO2.out]; rfl, bBox w _⟩
  · have hne : (hi != lo) = true := by simp [he]
    have Hh := Lib.hid (show hdt = hexL lo ++ ([46, 46] ++ hexL hi) by rw [Hhe.out, if_neg he])
    generalize hexL lo = xl at HX1 Hh hl1
    generalize hexL hi = xh at HX2 Hh hl2
    have c1 := catC [46, 46] xh
    have c2 := catC xl ([46, 46] ++ xh)
    rw [← Hh.out] at c2
    have hl3 : ([46, 46] ++ xh).length ≤ 8 := by simp; omega
    generalize [46, 46] ++ xh = yh at c1 c2 hl3
    have He := Lib.hid he
    clear he
    go_wp2_with fail
    refine (HX1.out _).mono ?_
    rintro e w1 ⟨rfl, rfl⟩
    go_wp2_with fail
    refine (HX2.out _).mono ?_
    rintro e w1 ⟨rfl, rfl⟩
    go_wp2_with fail
    go_loop [3, 4] (fun s i => ∃ (m : Nat) (acc : List UInt8), m ≤ fs.length ∧ i = .int .i64 m ∧ s = .string ⟨acc.toArray⟩ ∧ acc.length ≤ 14 + 102 * m ∧ Hid (acc = hdt ++ fieldsT (fs.take m))) (fun _ i => fs.length - (intOf i).toNat)
    case atStart => exact ⟨0, hdt, Nat.zero_le _, rfl, rfl, by omega, Lib.hid (by simp [fieldsT])⟩
    case round =>
      obtain ⟨m, acc, hm, rfl, rfl, hal, HT⟩ := hrel
      by_cases hlt : m < fs.length
      · obtain ⟨b1, o1, rfl, h4, e4⟩ := HA.out.at_ hlt
        have hpl := HLn.out _ (piece_mem hlt)
        have hst := fieldsT_snoc fs hlt
        generalize piece fs m = f at e4 hpl hst
        have c3 := catC [59, 32] f
        have c4 := catC acc ([59, 32] ++ f)
        have HT2 := Lib.hid (show acc ++ ([59, 32] ++ f) = hdt ++ fieldsT (fs.take (m + 1)) by rw [HT.out, hst, List.append_assoc])
        have hl3 : ([59, 32] ++ f).length ≤ 102 := by simp; omega
        have hl4 : (acc ++ ([59, 32] ++ f)).length ≤ 14 + 102 * (m + 1) := by rw [List.length_append]; omega
        generalize acc ++ ([59, 32] ++ f) = acc2 at c4 HT2 hl4
        generalize [59, 32] ++ f = f2 at c3 c4 hl3
        have hki : (m : Int) < fs.length := by omega
        clear hst
        go_wp2_with fail
        go_round
        case rel => exact ⟨m + 1, acc2, by omega, by go_num, rfl, hl4, HT2⟩
        case measure => simp [intOf]; omega
      · obtain rfl : m = fs.length := by omega
        have hki : ¬ (fs.length : Int) < fs.length := by omega
        have HO := Lib.hid (show od = acc ++ comT com ++ [10] by rw [Hone.out, HT.out, List.take_length])
        cases com with
        | nil =>
          have c5 := catC acc [10]
          have HO2 := Lib.hid (show od = acc ++ [10] by rw [HO.out]; simp [comT])
          generalize acc ++ [10] = acc2 at c5 HO2
          go_wp2_with fail
          go_ret
          exact ⟨by rw [HO2.out]; rfl, bBox w _⟩
        | cons y ys =>
          have c5 := catC [32, 35, 32] (y :: ys)
          have c6 := catC acc ([32, 35, 32] ++ y :: ys)
          have c7 := catC (acc ++ ([32, 35, 32] ++ y :: ys)) [10]
          have HO2 := Lib.hid (show od = acc ++ ([32, 35, 32] ++ y :: ys) ++ [10] by rw [HO.out]; simp [comT])
          have hl5 : ([32, 35, 32] ++ y :: ys).length ≤ 103 := by simp at hcm ⊢; omega
          have hyl : ys.length ≤ 99 := by simp at hcm; omega
          have hl6 : (acc ++ ([32, 35, 32] ++ y :: ys)).length ≤ 2000 := by rw [List.length_append]; omega
          generalize acc ++ ([32, 35, 32] ++ y :: ys) ++ [10] = acc3 at c7 HO2
          generalize acc ++ ([32, 35, 32] ++ y :: ys) = acc2 at c6 c7 hl6
          generalize [32, 35, 32] ++ y :: ys = f2 at c5 c6 hl5
          go_wp2_with fail
          go_ret
          exact ⟨by rw [HO2.out]; rfl, bBox w _⟩

/-- Text: the lines, or the error of the first that is not valid -/
def textT (ls : List LineD) : List UInt8 × Int := match ls.find? (fun d => chkL d != 0) with | some d => ([], chkL d) | none => (ls.flatMap oneL, 0)
theorem text_bad {ls : List LineD} {k : Nat} {d : LineD} (h : ls[k]? = some d) (hp : (ls.take k).all (fun d => chkL d == 0) = true) (hd : ¬ chkL d = 0) : textT ls = ([], chkL d) := by
  unfold textT
  have hlt : k < ls.length := (List.getElem?_eq_some_iff.1 h).1
  have e : ls = ls.take k ++ d :: ls.drop (k + 1) := by
    have := List.take_append_drop k ls
    rw [List.drop_eq_getElem_cons hlt, (List.getElem?_eq_some_iff.1 h).2] at this
    exact this.symm
  rw [e, List.find?_append, List.find?_eq_none.2 (fun x hx => by have := List.all_eq_true.1 hp x hx; simp at this; simp [this]), List.find?_cons, show (chkL d != 0) = true by simp [hd]]
  rfl
theorem text_good {ls : List LineD} (hp : ls.all (fun d => chkL d == 0) = true) : textT ls = (ls.flatMap oneL, 0) := by
  unfold textT
  rw [List.find?_eq_none.2 (fun x hx => by have := List.all_eq_true.1 hp x hx; simp at this; simp [this])]
theorem flat_snoc (ls : List LineD) {k : Nat} {d : LineD} (h : ls[k]? = some d) : (ls.take (k + 1)).flatMap oneL = (ls.take k).flatMap oneL ++ oneL d := by
  rw [List.take_add_one, h, List.flatMap_append]
  simp

set_option maxHeartbeats 8000000 in
set_option maxRecDepth 100000 in
theorem rfText9 (ls : List LineD) (A : Option Addr) (cp : Nat) (w : World) (hA : LinesAt w A ls) (hl : ls.length ≤ 40) (hf : ∀ d ∈ ls, FewL d) :
    Calls Tryd.prog 19 #[.slice A ls.length cp] w fun e w' => e = .returned (.tuple #[.string ⟨(textT ls).1.toArray⟩, .int .i64 (textT ls).2]) ∧ Below w.heap.size w w' := by
  have HA := Lib.hid hA
  have Hf := Lib.hid hf
  clear hA hf
  go_enter Tryd.func19, Tryd.ntmps19
  go_wp2_with fail
  go_loopw [4] (fun i wr => ∃ k : Nat, k ≤ ls.length ∧ i = .int .i64 k ∧ Hid ((ls.take k).all (fun d => chkL d == 0) = true) ∧ Below w.heap.size w wr) (fun i _ => ls.length - (intOf i).toNat)
  case atStart => exact ⟨0, Nat.zero_le _, rfl, Lib.hid rfl, Below.refl _ _⟩
  case round =>
    obtain ⟨k, hk, rfl, HK, hbr⟩ := hrel
    by_cases hlt : k < ls.length
    · obtain ⟨b1, o1, rfl, h1, p0, p1, p2, ⟨F1, d1, p3, s1⟩, p4⟩ := (HA.out.keep hbr).at_ hlt
      have hfw := Hf.out _ (by simp [lineAt, hlt] : lineAt ls k ∈ ls)
      have HC := Lib.hid (rfCheck (lineAt ls k) F1 d1 wr s1 (by have := hfw.cnt; omega) (fun f hf => by have := hfw.len f hf; omega) (by have := hfw.com; omega))
      have hbad := fun h => text_bad (lineAt_get hlt) HK.out h
      have hgood := fun h => all_step (fun d => chkL d == 0) (lineAt_get hlt) HK.out h
      have hki : (k : Int) < ls.length := by omega
      generalize lineAt ls k = d at p0 p1 p2 p3 p4 HC hbad hgood hfw
      clear s1 hfw
      by_cases hc : chkL d = 0
      · have hg := hgood (by simp [hc])
        rw [hc] at HC
        obtain ⟨num, lo, hi, fs, com⟩ := d
        dsimp only at p0 p1 p2 p3 p4 HC
        have Hg := Lib.hid hg
        have Hc := Lib.hid hc
        clear hg hc
        clear hbad hgood
        go_wp2_with fail
        refine HC.out.mono ?_
        rintro e w2 ⟨rfl, hb2⟩
        go_wp2_with fail
        go_roundw
        case rel => exact ⟨k + 1, by omega, by go_num, Hg, hbr.trans (hb2.mono hbr.size)⟩
        case measure => simp [intOf]; omega
      · have hg := hbad hc
        have hne : (chkL d != 0) = true := by simp [hc]
        generalize chkL d = cc at HC hg hne
        obtain ⟨num, lo, hi, fs, com⟩ := d
        dsimp only at p0 p1 p2 p3 p4 HC
        have Hg := Lib.hid hg
        have Hc := Lib.hid hc
        clear hg hc
        clear hbad hgood
        go_wp2_with fail
        refine HC.out.mono ?_
        rintro e w2 ⟨rfl, hb2⟩
        go_wp2_with fail
        go_ret2
        exact ⟨by rw [Hg.out]; rfl, hbr.trans (hb2.mono hbr.size)⟩
    · obtain rfl : k = ls.length := by omega
      have hki : ¬ (ls.length : Int) < ls.length := by omega
      have hg := text_good (by have := HK.out; rwa [List.take_length] at this)
      have Hg := Lib.hid hg
      clear hg
      have HA2 := Lib.hid (HA.out.keep hbr)
      have H0 := Lib.hid hbr
      go_wp2_with fail
      go_loopw [6, 7] (fun s i wr2 => ∃ (m : Nat) (acc : List UInt8), m ≤ ls.length ∧ i = .int .i64 m ∧ s = .string ⟨acc.toArray⟩ ∧ acc.length ≤ 1200 * m ∧ Hid (acc = (ls.take m).flatMap oneL) ∧ Below wr.heap.size wr wr2) (fun _ i _ => ls.length - (intOf i).toNat)
      case atStart => exact ⟨0, [], Nat.zero_le _, rfl, rfl, by simp, Lib.hid rfl, Below.refl _ _⟩
      case round =>
        obtain ⟨m, acc, hm, rfl, rfl, hal, HT, hbr2⟩ := hrel
        by_cases hmt : m < ls.length
        · obtain ⟨b1, o1, rfl, h1, p0, p1, p2, ⟨F1, d1, p3, s1⟩, p4⟩ := (HA2.out.keep hbr2).at_ hmt
          have hfw := Hf.out _ (by simp [lineAt, hmt] : lineAt ls m ∈ ls)
          have HC := Lib.hid (rfOne (lineAt ls m) F1 d1 wr s1 hfw)
          have hol := oneL_le hfw
          have hst := flat_snoc ls (lineAt_get hmt)
          have hmi : (m : Int) < ls.length := by omega
          generalize lineAt ls m = d at p0 p1 p2 p3 p4 HC hfw hol hst
          have c1 := catC acc (oneL d)
          have HT2 := Lib.hid (show acc ++ oneL d = (ls.take (m + 1)).flatMap oneL by rw [hst, HT.out])
          have hl2 : (acc ++ oneL d).length ≤ 1200 * (m + 1) := by rw [List.length_append]; omega
          generalize acc ++ oneL d = acc2 at c1 HT2 hl2
          generalize oneL d = od at HC hol hst c1
          obtain ⟨num, lo, hi, fs, com⟩ := d
          dsimp only at p0 p1 p2 p3 p4 HC
          clear s1 hfw hst
          go_wp2_with fail
          refine HC.out.mono ?_
          rintro e w2 ⟨rfl, hb2⟩
          go_wp2_with fail
          go_roundw
          case rel => exact ⟨m + 1, acc2, by omega, by go_num, rfl, hl2, HT2, bUp hbr2 hb2⟩
          case measure => simp [intOf]; omega
        · obtain rfl : m = ls.length := by omega
          have hmi : ¬ (ls.length : Int) < ls.length := by omega
          have hfin := HT.out
          rw [List.take_length] at hfin
          have Hfin := Lib.hid hfin
          clear hfin
          go_wp2_with fail
          go_ret2
          exact ⟨by rw [Hg.out, Hfin.out]; rfl, H0.out.trans (hbr2.mono H0.out.size)⟩
end Go.Proofs.YtafmdeipcepaiaaDoor
