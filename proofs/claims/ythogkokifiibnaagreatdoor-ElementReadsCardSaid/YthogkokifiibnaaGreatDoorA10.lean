/- FileText ParseFile: what its rounds keep -/
import Derived.Test.YthogkokifiibnaaGreatDoorA9
import Derived.Test.YthogkokifiibnaaGreatDoorA6
import Derived.Test.YthogkokifiibnaaGreatDoorA8
namespace Go.Proofs.YthogkokifiibnaaGreatDoor
open Go.RowKit Go.Sort

theorem flat_snoc {α β : Type} (f : α → List β) {l : List α} {k : Nat} {d : α} (h : l[k]? = some d) : (l.take (k + 1)).flatMap f = (l.take k).flatMap f ++ f d := by
  rw [List.take_add_one, h, List.flatMap_append]
  simp
theorem nl_len (l : List UInt8) : (nl l).length = l.length + 1 := by simp [nl]
theorem line3_len {ws : List UInt8} {ns : List Int} (hr : ∀ n ∈ ns, 0 ≤ n ∧ n ≤ 9223372036854775807) : (lineP ws ns).length ≤ ws.length + 22 * ns.length := by
  have := lineP_len ws ns hr (k := ns.length) (Nat.le_refl _)
  rwa [List.take_length] at this
theorem file_split (c : CollD) : fileP c = (nl (bLine c) ++ c.groups.flatMap fun g => nl (gLine g)) ++ c.entries.flatMap fun e => nl (eLine e) := by
  unfold fileP fileLs
  simp [List.flatMap_append, List.flatMap_map]
theorem eLine_nil (e : EntryD) : nl (lineP (codesL e.codes ++ [59, 32] ++ e.els.flatMap oneE) []) = nl (eLine e) := by simp [lineP, eLine]
theorem name_short {l : List UInt8} (h : nameB l = true) : l.length ≤ 32 := by
  unfold nameB at h
  simp only [Bool.and_eq_true, decide_eq_true_eq] at h
  exact h.2
theorem ints_two (w : World) (X : Obj) (zs : List Int) (t : TypeId) (cs : Array Value) (hc : cs = (zs.map (Value.int .i64)).toArray) : IntsAt ((w.alloc X).alloc (.cells cs t)) (some ⟨w.heap.size + 1, 0, none⟩) zs := by
  have h := ints_new (w.alloc X) zs t
  rw [show (w.alloc X).heap.size = w.heap.size + 1 by simp] at h
  subst hc
  exact h

set_option maxHeartbeats 16000000 in
set_option maxRecDepth 100000 in
theorem elFileText (es : List EntryD) (gs : List GroupD) (b s t : Int) (AE AG : Option Addr) (cE cG : Nat) (w : World) (hN : EntsAt w AE es) (hG : GroupsAt w AG gs) (hEn : EnvF w) (hne : es.length ≤ 10000) (hng : gs.length ≤ 10000) (hcl : ∀ e ∈ es, e.codes.length ≤ 10000) (hll : ∀ e ∈ es, e.els.length ≤ 1000) (hml : ∀ g ∈ gs, g.name.length ≤ 9223372036854775807) (hw : WfC ⟨es, gs, b, s, t⟩) :
    Calls Tryz.prog 17 #[.agg #[.slice AE es.length cE, .slice AG gs.length cG, .int .i64 b, .int .i64 s, .int .i64 t]] w fun e w' => e = .returned (.tuple #[.string ⟨(fileT ⟨es, gs, b, s, t⟩).1.toArray⟩, .int .i64 (fileT ⟨es, gs, b, s, t⟩).2]) ∧ Below w.heap.size w w' := by
  have HC := Lib.hid (elCheckFile es gs b s t AE AG cE cG (w.alloc (.cells #[.slice AE es.length cE, .slice AG gs.length cG, .int .i64 b, .int .i64 s, .int .i64 t] 35)) (hN.keep (bBox w _)) (hG.keep (bBox w _)) (by omega) (by omega) (fun e he => by have := hcl e he; omega) (fun e he => by have := hll e he; omega) hml)
  by_cases hc : chkF ⟨es, gs, b, s, t⟩ = 0
  · have hok := chkF_ok hc
    have hF : fileT ⟨es, gs, b, s, t⟩ = (fileP ⟨es, gs, b, s, t⟩, 0) := by unfold fileT; rw [if_pos hc]
    have hsp := file_split ⟨es, gs, b, s, t⟩
    dsimp only at hsp
    rw [hF]
    rw [hc] at HC
    dsimp only
    have hb3 := hok.b
    have hbl : nl (bLine ⟨es, gs, b, s, t⟩) = nl (lineP wBase [b, s, t]) := rfl
    rw [hbl] at hsp
    have hr3 : ∀ n ∈ [b, s, t], 0 ≤ n ∧ n ≤ 9223372036854775807 := fun n hn => by
      have h1 := hw.b
      have h2 := hw.s
      have h3 := hw.t
      dsimp only at h1 h2 h3 hb3
      simp at hn
      rcases hn with rfl | rfl | rfl <;> omega
    have hl3 := line3_len (ws := wBase) hr3
    have hl3' : (nl (lineP wBase [b, s, t])).length ≤ 100 := by rw [nl_len]; simp [wBase] at hl3 ⊢; omega
    have HL := Lib.hid (fun w' A h hE => elLine wBase [b, s, t] A 3 w' h hE (by simp [wBase]) (by simp) hr3)
    generalize nl (lineP wBase [b, s, t]) = l0 at HL hsp hl3'
    generalize fileP ⟨es, gs, b, s, t⟩ = fp at hsp
    have Hsp := Lib.hid hsp
    have HN := Lib.hid hN
    have HG := Lib.hid hG
    have HEn := Lib.hid hEn
    have Hcl := Lib.hid hcl
    have Hll := Lib.hid hll
    have Hml := Lib.hid hml
    have Hw := Lib.hid hw
    have Hok := Lib.hid hok
    have Hr3 := Lib.hid hr3
    have Hl3 := Lib.hid hl3
    clear hsp hN hG hEn hcl hll hml hw hok hr3 hl3
    clear hc hF hbl hb3
    go_enter Tryz.func17, Tryz.ntmps17
    go_wp2_with fail
    refine HC.out.mono ?_
    rintro e w2 ⟨rfl, hb2⟩
    have hB := (Blk.new w #[.slice AE es.length cE, .slice AG gs.length cG, .int .i64 b, .int .i64 s, .int .i64 t] 35).keep hb2
    have hb02 := bUp (bBox w (.cells #[.slice AE es.length cE, .slice AG gs.length cG, .int .i64 b, .int .i64 s, .int .i64 t] 35)) hb2
    have hzw : w.heap.size < w2.heap.size := hB.lt
    have q2 : w2.cell? ⟨w.heap.size, 2, none⟩ = some (.int .i64 b) := hB.cell 2
    have q3 : w2.cell? ⟨w.heap.size, 3, none⟩ = some (.int .i64 s) := hB.cell 3
    have q4 : w2.cell? ⟨w.heap.size, 4, none⟩ = some (.int .i64 t) := hB.cell 4
    have HB := Lib.hid hB
    have H02 := Lib.hid hb02
    have HN2 := Lib.hid (HN.out.keep hb02)
    have HG2 := Lib.hid (HG.out.keep hb02)
    have HE2 := Lib.hid (HEn.out.keep hb02)
    clear hB hb02 hb2 HN HG HEn HC
    go_wp2_with fail
    refine (HL.out _ _ (ints_two w2 _ _ _ _ rfl) (HE2.out.keep (bUp (bBox _ _) (bBox _ _)))).mono ?_
    rintro e w3 ⟨rfl, hb3⟩
    have h23 := bUp (bUp (bBox w2 (.cells #[.pointer none, .slice none 0 0] 57)) (bBox _ _)) hb3
    have HB3 := Lib.hid ((Bld.fresh 57 [] w2).keep (bUp (bBox _ _) hb3))
    clear q2 q3 q4 hb3 HL
    go_wp2_with fail
    refine (writeString bldTy0 HB3.out l0 (by simp) (by omega)).mono ?_
    rintro e w4 ⟨rfl, hbl4, hb4⟩
    have HB4 := Lib.hid hbl4
    have h24 := h23.trans hb4
    clear hbl4 h23 hb4
    rw [List.nil_append] at HB4
    have q1 : w4.cell? ⟨w.heap.size, 1, none⟩ = some (.slice AG gs.length cG) := (HB.out.keep h24).cell 1
    go_wp2_with fail
    clear q1
    go_loopw [30] (fun i wr => ∃ (k : Nat) (acc : List UInt8), k ≤ gs.length ∧ i = .int .i64 k ∧ acc.length ≤ 100 + 100 * k ∧ Hid (acc = l0 ++ (gs.take k).flatMap fun g => nl (gLine g)) ∧ Hid (Bld 57 [] w2.heap.size acc wr) ∧ Below w2.heap.size w2 wr) (fun i _ => gs.length - (intOf i).toNat)
    case atStart => exact ⟨0, l0, Nat.zero_le _, rfl, by omega, Lib.hid (by simp), HB4, h24⟩
    case round =>
      obtain ⟨k, acc, hk, rfl, hal, HT, HBr, hbr⟩ := hrel
      by_cases hlt : k < gs.length
      · obtain ⟨b1, o1, rfl, h1, p0, p1, p2⟩ := (HG2.out.keep hbr).at_ hlt
        have hki : (k : Int) < gs.length := by omega
        have hst := flat_snoc (fun g => nl (gLine g)) (groupAt_get hlt)
        have hg0 := Hok.out.g _ (groupAt_mem hlt)
        have hg1 := Hw.out.g _ (groupAt_mem hlt)
        generalize groupAt gs k = d at p0 p1 p2 hst hg0 hg1
        obtain ⟨nm, lo, hi⟩ := d
        dsimp only at p0 p1 p2 hg0 hg1
        obtain ⟨g1, g2, g3⟩ := hg0
        have hnm := name_short g3
        have hr2 : ∀ n ∈ [lo, hi], 0 ≤ n ∧ n ≤ 9223372036854775807 := fun n hn => by simp at hn; rcases hn with rfl | rfl <;> omega
        have hcat : (⟨#[64, 103, 114, 111, 117, 112, 32]⟩ : ByteArray) ++ ⟨nm.toArray⟩ = ⟨(wGroup ++ 32 :: nm).toArray⟩ := by
          have := catE (wGroup ++ [32]) nm
          rw [List.append_assoc] at this
          exact this
        have hgl : nl (gLine ⟨nm, lo, hi⟩) = nl (lineP (wGroup ++ 32 :: nm) [lo, hi]) := rfl
        have hwl : (wGroup ++ 32 :: nm).length ≤ 39 := by simp [wGroup]; omega
        have hl2 := line3_len (ws := wGroup ++ 32 :: nm) hr2
        have hl2' : (nl (lineP (wGroup ++ 32 :: nm) [lo, hi])).length ≤ 100 := by rw [nl_len]; simp only [List.length_cons, List.length_nil] at hl2; omega
        rw [hgl] at hst
        have HL := Lib.hid (fun w' A h hE => elLine (wGroup ++ 32 :: nm) [lo, hi] A 2 w' h hE (by omega) (by simp) hr2)
        generalize wGroup ++ 32 :: nm = ws at hcat HL hst hl2' hwl
        generalize nl (lineP ws [lo, hi]) = ln at HL hst hl2'
        have Hst := Lib.hid hst
        have G3 := Lib.hid g3
        have Hr2 := Lib.hid hr2
        have Hl2 := Lib.hid hl2
        have Hgl := Lib.hid hgl
        clear hst g3 hr2 hl2 hgl
        clear g1 g2 hg1
        go_wp2_with fail
        refine (HL.out _ _ (ints_two wr _ _ _ _ rfl) (HE2.out.keep (bUp hbr (bUp (bBox _ _) (bBox _ _))))).mono ?_
        rintro e w5 ⟨rfl, hb5⟩
        have h15 := bUp (bUp (bBox wr _) (bBox _ _)) hb5
        have HB5 := Lib.hid (HBr.out.keep h15)
        have h05 := hbr.trans (h15.mono hbr.size)
        clear hb5 h15
        go_wp2_with fail
        refine (writeString bldTy0 HB5.out ln (by omega) (by omega)).mono ?_
        rintro e w6 ⟨rfl, hbl6, hb6⟩
        have HB6 := Lib.hid hbl6
        have HO := Lib.hid (show acc ++ ln = l0 ++ (gs.take (k + 1)).flatMap fun g => nl (gLine g) by rw [Hst.out, HT.out, List.append_assoc])
        have hl5 : (acc ++ ln).length ≤ 100 + 100 * (k + 1) := by rw [List.length_append]; omega
        clear hbl6
        generalize acc ++ ln = acc2 at HO HB6 hl5
        go_wp2_with fail
        go_roundw
        case rel => exact ⟨k + 1, acc2, by omega, by go_num, hl5, HO, HB6, h05.trans hb6⟩
        case measure => simp [intOf]; omega
      · obtain rfl : k = gs.length := by omega
        have hki : ¬ (gs.length : Int) < gs.length := by omega
        have hA1 := HT.out
        rw [List.take_length] at hA1
        have q1 : wr.cell? ⟨w.heap.size, 0, none⟩ = some (.slice AE es.length cE) := (HB.out.keep hbr).cell 0
        have HS := Lib.hid (show fp = acc ++ es.flatMap fun e => nl (eLine e) by rw [Hsp.out, hA1])
        have hal0 : acc.length ≤ 1000100 := by omega
        clear HT hA1 hal
        go_wp2_with fail
        clear q1
        generalize hn0 : 1000100 = n0 at hal0
        have hn0' : n0 ≤ 1000100 := by omega
        clear hn0
        go_loopw [48] (fun i wr => ∃ (k : Nat) (ac : List UInt8), k ≤ es.length ∧ i = .int .i64 k ∧ ac.length ≤ n0 + 87010 * k ∧ Hid (ac = acc ++ (es.take k).flatMap fun e => nl (eLine e)) ∧ Hid (Bld 57 [] w2.heap.size ac wr) ∧ Below w2.heap.size w2 wr) (fun i _ => es.length - (intOf i).toNat)
        case atStart => exact ⟨0, acc, Nat.zero_le _, rfl, by omega, Lib.hid (by simp), HBr, hbr⟩
        case round =>
          clear hbr HBr
          obtain ⟨k, ac, hk, rfl, hal, HT, HBr, hbr⟩ := hrel
          by_cases hlt : k < es.length
          · obtain ⟨b1, o1, C1, c1, L1, c2, rfl, h1, p0, hI, p1, hL⟩ := (HN2.out.keep hbr).at_ hlt
            have hki : (k : Int) < es.length := by omega
            have hst := flat_snoc (fun e => nl (eLine e)) (entAt_get hlt)
            have he0 := Hok.out.e _ (entAt_mem hlt)
            have hm1 := Hcl.out _ (entAt_mem hlt)
            have hm2 := Hll.out _ (entAt_mem hlt)
            generalize entAt es k = d at p0 p1 hI hL hst he0 hm1 hm2
            obtain ⟨cs, ls⟩ := d
            dsimp only at p0 p1 hI hL he0 hm1 hm2
            have hcv : codesV cs = .tuple #[.string ⟨(codesL cs).toArray⟩, .int .i64 0] := by unfold codesV; rw [he0.1]; rfl
            have htx : textE ls = (ls.flatMap oneE, 0) := by rw [textE_of, if_pos he0.2]
            have HCo := Lib.hid (fun w' h hD => esCodes cs C1 c1 w' h (by omega) hD)
            have HTx := Lib.hid (fun w' h => elText ls L1 c2 w' h hm2)
            rw [hcv] at HCo
            rw [htx] at HTx
            dsimp only at HTx
            have hlc := codesL_le cs
            have hlt2 := flatE_length ls
            have hen := eLine_nil ⟨cs, ls⟩
            dsimp only at hen
            rw [← hen] at hst
            have hlc2 : (codesL cs).length ≤ 70000 := by omega
            have hlt3 : (ls.flatMap oneE).length ≤ 17000 := by omega
            generalize codesL cs = cd at HCo hst hlc hlc2 hen
            generalize ls.flatMap oneE = tx at HTx hst hlt2 hlt3 hen
            have k1 : (⟨cd.toArray⟩ : ByteArray) ++ ⟨#[59, 32]⟩ = ⟨(cd ++ [59, 32]).toArray⟩ := catE cd [59, 32]
            have k2 : (⟨(cd ++ [59, 32]).toArray⟩ : ByteArray) ++ ⟨tx.toArray⟩ = ⟨(cd ++ [59, 32] ++ tx).toArray⟩ := catE _ tx
            have hkl1 : (cd ++ [59, 32]).length ≤ 70002 := by simp; omega
            have hkl2 : (cd ++ [59, 32] ++ tx).length ≤ 87002 := by simp only [List.length_append] at hkl1 ⊢; omega
            have HL := Lib.hid (fun w' hE => elLine (cd ++ [59, 32] ++ tx) [] none 0 w' IntsAt.nil hE (by omega) (by simp) (fun n hn => by cases hn))
            have hl2 := line3_len (ws := cd ++ [59, 32] ++ tx) (ns := []) (fun n hn => by cases hn)
            have hl2' : (nl (lineP (cd ++ [59, 32] ++ tx) [])).length ≤ 87010 := by rw [nl_len]; simp only [List.length_nil] at hl2; omega
            generalize cd ++ [59, 32] = cd2 at k1 k2 HL hst hkl1 hkl2 hl2 hl2' hen
            generalize cd2 ++ tx = ws at k2 HL hst hkl2 hl2 hl2' hen
            generalize nl (lineP ws []) = ln at HL hst hl2' hen
            have HI := Lib.hid hI
            have HLs := Lib.hid hL
            have Hst := Lib.hid hst
            have Hen := Lib.hid hen
            have Hl2 := Lib.hid hl2
            have Hlt2 := Lib.hid hlt2
            have Hlc := Lib.hid hlc
            have Hcv := Lib.hid hcv
            have Htx := Lib.hid htx
            have He0 := Lib.hid he0
            clear hst hen hl2 hlt2 hlc hcv htx he0
            clear hI hL
            go_wp2_with fail
            refine (HCo.out _ (HI.out.keep (bBox wr _)) (HE2.out.keep (bUp hbr (bBox wr _))).env.dig).mono ?_
            rintro e w5 ⟨rfl, hb5⟩
            have hbx := (Blk.new wr #[.slice C1 cs.length c1, .slice L1 ls.length c2] 50).keep hb5
            have x1 : w5.cell? ⟨wr.heap.size, 1, none⟩ = some (.slice L1 ls.length c2) := hbx.cell 1
            have h15 := bUp (bBox wr (.cells #[.slice C1 cs.length c1, .slice L1 ls.length c2] 50)) hb5
            clear hb5 hbx
            go_wp2_with fail
            refine (HTx.out _ (HLs.out.keep h15)).mono ?_
            rintro e w6 ⟨rfl, hb6⟩
            have h16 := bUp h15 hb6
            clear x1 h15 hb6
            go_wp2_with fail
            refine (HL.out _ (HE2.out.keep (bUp hbr h16))).mono ?_
            rintro e w7 ⟨rfl, hb7⟩
            have h17 := bUp h16 hb7
            have HB7 := Lib.hid (HBr.out.keep h17)
            have h07 := hbr.trans (h17.mono hbr.size)
            clear h16 hb7 h17
            go_wp2_with fail
            refine (writeString bldTy0 HB7.out ln (by omega) (by omega)).mono ?_
            rintro e w8 ⟨rfl, hbl8, hb8⟩
            have HB8 := Lib.hid hbl8
            have HO := Lib.hid (show ac ++ ln = acc ++ (es.take (k + 1)).flatMap fun e => nl (eLine e) by rw [Hst.out, HT.out, List.append_assoc])
            have hl5 : (ac ++ ln).length ≤ n0 + 87010 * (k + 1) := by rw [List.length_append]; omega
            clear hbl8
            generalize ac ++ ln = ac2 at HO HB8 hl5
            go_wp2_with fail
            go_roundw
            case rel => exact ⟨k + 1, ac2, by omega, by go_num, hl5, HO, HB8, h07.trans hb8⟩
            case measure => simp [intOf]; omega
          · obtain rfl : k = es.length := by omega
            have hki : ¬ (es.length : Int) < es.length := by omega
            have hfin := HT.out
            rw [List.take_length] at hfin
            have HFn := Lib.hid (show fp = ac by rw [HS.out, hfin])
            clear hfin HT
            go_wp2_with fail
            refine (bldString HBr.out).mono ?_
            rintro e w5 ⟨rfl, hb5⟩
            go_wp2_with fail
            go_ret2
            exact ⟨by rw [HFn.out]; rfl, bUp H02.out (hbr.trans hb5)⟩
  · have hF : fileT ⟨es, gs, b, s, t⟩ = ([], chkF ⟨es, gs, b, s, t⟩) := by unfold fileT; rw [if_neg hc]
    have hnz : (chkF ⟨es, gs, b, s, t⟩ != 0) = true := by simp [hc]
    rw [hF]
    dsimp only
    generalize chkF ⟨es, gs, b, s, t⟩ = cf at HC hnz
    have HN := Lib.hid hN
    have HG := Lib.hid hG
    have HEn := Lib.hid hEn
    have Hcl := Lib.hid hcl
    have Hll := Lib.hid hll
    have Hml := Lib.hid hml
    have Hw := Lib.hid hw
    clear hN hG hEn hcl hll hml hw
    clear hF hc
    go_enter Tryz.func17, Tryz.ntmps17
    go_wp2_with fail
    refine HC.out.mono ?_
    rintro e w2 ⟨rfl, hb2⟩
    go_wp2_with fail
    go_ret2
    exact ⟨rfl, bUp (bBox w _) hb2⟩
end Go.Proofs.YthogkokifiibnaaGreatDoor
namespace Go.Proofs.YthogkokifiibnaaGreatDoor
open Go.RowKit Go.Sort

def zCells : Array Value := #[.slice none 0 0, .slice none 0 0, .int .i64 0, .int .i64 0, .int .i64 0]
/-- the memory of ParseFile: the results, the reader, the first error -/
structure PInv (w wr : World) (st : StF) : Prop where
  b0 : Blk wr w.heap.size zCells 35
  b1 : Blk wr (w.heap.size + 1) #[.int .i64 0, .int .i64 0] 39
  rd : RdAt wr (w.heap.size + 2) st.r
  fs : Blk wr (w.heap.size + 3) #[.int .i64 st.first.1, .int .i64 st.first.2] 39
  below : Below w.heap.size w wr
theorem RdAt.keptT {w w' : World} {b : Nat} {r : RdD} (h : RdAt w b r) (hk : KeptT [70, 3, 45, 50, 47] w w') : RdAt w' b r := by
  obtain ⟨vE, vG, h1, h2, h3⟩ := h
  exact ⟨vE, vG, hk b _ _ _ h1 (by simp), h2.keptT (hk.mono (by simp)), h3.keptT (hk.mono (by simp))⟩
theorem PInv.keep {w wr w' : World} {st : StF} (h : PInv w wr st) (hb : Below wr.heap.size wr w') : PInv w w' st :=
  ⟨h.b0.keep hb, h.b1.keep hb, h.rd.keep hb, h.fs.keep hb, bUp h.below hb⟩
theorem PInv.num {w wr : World} {st : StF} (h : PInv w wr st) (n : Nat) : PInv w wr ⟨st.r, st.first, n⟩ := ⟨h.b0, h.b1, h.rd, h.fs, h.below⟩
theorem PInv.read {w wr w' : World} {st : StF} {r' : RdD} (h : PInv w wr st) (hr : RdAt w' (w.heap.size + 2) r') (hb : Below (w.heap.size + 2) wr w') (hk : KeptT [39] wr w') (n : Nat) : PInv w w' ⟨r', st.first, n⟩ :=
  ⟨h.b0.keepB hb (by omega), h.b1.keepB hb (by omega), hr, hk _ _ _ _ h.fs (by simp), h.below.trans (hb.mono (by omega))⟩
theorem PInv.put {w wr : World} {st : StF} (h : PInv w wr st) (e n : Int) (m : Nat) : PInv w ((wr.setCell ⟨w.heap.size + 3, 0, none⟩ (.int .i64 e)).setCell ⟨w.heap.size + 3, 1, none⟩ (.int .i64 n)) ⟨st.r, (e, n), m⟩ := by
  have f1 := h.fs.put 0 (.int .i64 e)
  refine ⟨(h.b0.far (by show w.heap.size ≠ w.heap.size + 3; omega) _).far (by show w.heap.size ≠ w.heap.size + 3; omega) _, (h.b1.far (by show w.heap.size + 1 ≠ w.heap.size + 3; omega) _).far (by show w.heap.size + 1 ≠ w.heap.size + 3; omega) _, ?_, f1.put 1 (.int .i64 n), (h.below.setCell (p := ⟨w.heap.size + 3, 0, none⟩) (by show w.heap.size ≤ w.heap.size + 3; omega) _).setCell (p := ⟨w.heap.size + 3, 1, none⟩) (by show w.heap.size ≤ w.heap.size + 3; omega) _⟩
  exact (h.rd.keptT (KeptT.set h.fs (by decide) 0 _)).keptT (KeptT.set f1 (by decide) 1 _)
theorem PInv.new (w : World) : PInv w ((((w.alloc (.cells zCells 35)).alloc (.cells #[.int .i64 0, .int .i64 0] 39)).alloc (.cells #[.slice none 0 0, .slice none 0 0, .int .i64 0, .int .i64 0, .int .i64 0, .bool false] 70)).alloc (.cells #[.int .i64 0, .int .i64 0] 39)) startF := by
  have s1 : (w.alloc (.cells zCells 35)).heap.size = w.heap.size + 1 := by simp
  have s2 : ((w.alloc (.cells zCells 35)).alloc (.cells #[.int .i64 0, .int .i64 0] 39)).heap.size = w.heap.size + 2 := by simp
  have s3 : (((w.alloc (.cells zCells 35)).alloc (.cells #[.int .i64 0, .int .i64 0] 39)).alloc (.cells #[.slice none 0 0, .slice none 0 0, .int .i64 0, .int .i64 0, .int .i64 0, .bool false] 70)).heap.size = w.heap.size + 3 := by simp
  refine ⟨(((Blk.new w _ _).alloc _).alloc _).alloc _, ?_, ?_, ?_, bUp (bUp (bUp (bBox _ _) (bBox _ _)) (bBox _ _)) (bBox _ _)⟩
  · have h := ((Blk.new (w.alloc (.cells zCells 35)) #[.int .i64 0, .int .i64 0] 39).alloc (.cells #[.slice none 0 0, .slice none 0 0, .int .i64 0, .int .i64 0, .int .i64 0, .bool false] 70)).alloc (.cells #[.int .i64 0, .int .i64 0] 39)
    rwa [s1] at h
  · have h := (RdAt.zero ((w.alloc (.cells zCells 35)).alloc (.cells #[.int .i64 0, .int .i64 0] 39))).keep (bBox _ (.cells #[.int .i64 0, .int .i64 0] 39))
    rwa [s2] at h
  · have h := Blk.new (((w.alloc (.cells zCells 35)).alloc (.cells #[.int .i64 0, .int .i64 0] 39)).alloc (.cells #[.slice none 0 0, .slice none 0 0, .int .i64 0, .int .i64 0, .int .i64 0, .bool false] 70)) #[.int .i64 0, .int .i64 0] 39
    rwa [s3] at h

/-- the results written -/
def set7 (wr : World) (N : Nat) (u0 u1 u2 u3 u4 v0 v1 : Value) : World :=
  ((((((wr.setCell ⟨N, 0, none⟩ u0).setCell ⟨N, 1, none⟩ u1).setCell ⟨N, 2, none⟩ u2).setCell ⟨N, 3, none⟩ u3).setCell ⟨N, 4, none⟩ u4).setCell ⟨N + 1, 0, none⟩ v0).setCell ⟨N + 1, 1, none⟩ v1
theorem PInv.fin {w wr : World} {st : StF} (h : PInv w wr st) (u0 u1 u2 u3 u4 v0 v1 : Value) : Below w.heap.size w (set7 wr w.heap.size u0 u1 u2 u3 u4 v0 v1) := by
  have h5 := ((((h.below.setCell (p := ⟨w.heap.size, 0, none⟩) (Nat.le_refl _) u0).setCell (p := ⟨w.heap.size, 1, none⟩) (Nat.le_refl _) u1).setCell (p := ⟨w.heap.size, 2, none⟩) (Nat.le_refl _) u2).setCell (p := ⟨w.heap.size, 3, none⟩) (Nat.le_refl _) u3).setCell (p := ⟨w.heap.size, 4, none⟩) (Nat.le_refl _) u4
  exact (h5.setCell (p := ⟨w.heap.size + 1, 0, none⟩) (Nat.le_succ _) v0).setCell (p := ⟨w.heap.size + 1, 1, none⟩) (Nat.le_succ _) v1
theorem PInv.finK {w wr : World} {st : StF} (h : PInv w wr st) (u0 u1 u2 u3 u4 v0 v1 : Value) {ts : List TypeId} (h1 : 35 ∉ ts) (h2 : 39 ∉ ts) : KeptT ts wr (set7 wr w.heap.size u0 u1 u2 u3 u4 v0 v1) := by
  have c0 := h.b0.put 0 u0
  have c1 := c0.put 1 u1
  have c2 := c1.put 2 u2
  have c3 := c2.put 3 u3
  have hb1 : Blk ((((wr.setCell ⟨w.heap.size, 0, none⟩ u0).setCell ⟨w.heap.size, 1, none⟩ u1).setCell ⟨w.heap.size, 2, none⟩ u2).setCell ⟨w.heap.size, 3, none⟩ u3 |>.setCell ⟨w.heap.size, 4, none⟩ u4) (w.heap.size + 1) #[.int .i64 0, .int .i64 0] 39 := ((((h.b1.far (by show w.heap.size + 1 ≠ w.heap.size; omega) _).far (by show w.heap.size + 1 ≠ w.heap.size; omega) _).far (by show w.heap.size + 1 ≠ w.heap.size; omega) _).far (by show w.heap.size + 1 ≠ w.heap.size; omega) _).far (by show w.heap.size + 1 ≠ w.heap.size; omega) _
  have d0 := hb1.put 0 v0
  exact ((((((KeptT.set h.b0 h1 0 u0).trans (KeptT.set c0 h1 1 u1)).trans (KeptT.set c1 h1 2 u2)).trans (KeptT.set c2 h1 3 u3)).trans (KeptT.set c3 h1 4 u4)).trans (KeptT.set hb1 h2 0 v0)).trans (KeptT.set d0 h2 1 v1)
/-- what ParseFile gives back -/
def FileOut (r : CollD × (Int × Int)) (w : World) (e : Ending) (w' : World) : Prop :=
  ∃ AE cE AG cG, e = .returned (.tuple #[.agg #[.slice AE r.1.entries.length cE, .slice AG r.1.groups.length cG, .int .i64 r.1.base, .int .i64 r.1.second, .int .i64 r.1.third], .agg #[.int .i64 r.2.1, .int .i64 r.2.2]]) ∧ EntsAt w' AE r.1.entries ∧ GroupsAt w' AG r.1.groups ∧ Below w.heap.size w w'
theorem EntsAt.nil {w : World} {A : Option Addr} : EntsAt w A [] := fun h => absurd h (by simp)
theorem GroupsAt.nil {w : World} {A : Option Addr} : GroupsAt w A [] := fun h => absurd h (by simp)

/-- the next line -/
theorem cut_line (rest : List UInt8) (hne : rest ≠ []) (hl : rest.length ≤ 65536) : ∃ d r ok, (∀ w, Env w → Calls Tryz.prog 37 #[.string ⟨rest.toArray⟩, .string ⟨#[10]⟩] w fun e w' => e = .returned (.tuple #[.string ⟨d.toArray⟩, .string ⟨r.toArray⟩, .bool ok]) ∧ Below w.heap.size w w') ∧ linesL rest = d :: linesL r ∧ d.length + r.length ≤ rest.length ∧ r.length < rest.length := by
  have h0 : 0 < rest.length := by cases rest with | nil => exact absurd rfl hne | cons => simp
  cases hc : cutB 10 rest with
  | none => exact ⟨rest, [], false, fun w hE => cutNo hc w hE (by omega), linesL_none rest hc hne, by simp, by simpa using h0⟩
  | some p =>
    obtain ⟨d, r⟩ := p
    obtain ⟨e, _⟩ := cutB_some hc
    exact ⟨d, r, true, fun w hE => cutYes hc w hE (by omega), linesL_cut rest hc, by rw [e]; simp <;> omega, by rw [e]; simp <;> omega⟩
theorem trimR_len (l : List UInt8) (c : UInt8) : (Lib.trimRightB l c).length ≤ l.length := by
  unfold Lib.trimRightB
  rw [List.length_reverse]
  have h := (List.dropWhile_sublist (l := l.reverse) (· == c)).length_le
  rw [List.length_reverse] at h
  exact h
theorem content_len (l : List UInt8) : (contentP l).length ≤ l.length := by
  unfold contentP
  cases hc : cutB 35 l with
  | none => exact Nat.le_refl _
  | some p =>
    obtain ⟨e, _⟩ := cutB_some (a := p.1) (r := p.2) hc
    have h := trimR_len p.1 32
    have h2 : p.1.length ≤ l.length := by rw [e]; simp
    dsimp only
    omega
theorem baseP_same {r r' : RdD} {t : List UInt8} (h : baseP r t = some r') : r'.c.entries = r.c.entries ∧ r'.c.groups = r.c.groups := by
  unfold baseP at h
  split at h
  · cases h
  · split at h
    · injection h with h
      subst h
      exact ⟨rfl, rfl⟩
    · cases h
theorem groupP_same {r r' : RdD} {t : List UInt8} (h : groupP r t = some r') : r'.c.entries = r.c.entries ∧ r'.c.groups.length = r.c.groups.length + 1 := by
  unfold groupP at h
  split at h
  · cases h
  · split at h
    · injection h with h
      subst h
      exact ⟨rfl, by simp⟩
    · cases h
theorem entryP_len {r : RdD} {t : List UInt8} {x : EntryD} (h : entryP r t = some x) (ht : t.length ≤ 65536) : x.els.length ≤ 65536 := by
  unfold entryP at h
  split at h
  · unfold entP at h
    split at h
    · cases h
    · split at h
      · cases h
      · cases hr : readE (Lib.cut t [59, 32]).2.1 with
        | none => rw [hr] at h; cases h
        | some es =>
          rw [hr] at h
          simp at h
          subst h
          have := readE_len _ (Nat.le_refl _) hr
          have h2 := (cut_len t [59, 32]).2
          dsimp only
          omega
  · cases h
end Go.Proofs.YthogkokifiibnaaGreatDoor
