/- FileText of the reference; the law of files -/
import Derived.Test.YthogkokifiibnaaGreatDoorR7
import Derived.Test.YthogkokifiibnaaGreatDoorFw
namespace Go.Proofs.YthogkokifiibnaaGreatDoor
open Go.RowKit Go.Sort

theorem fileT_bad {c : CollD} {n : Int} (h : chkF c = n) (hn : ¬ n = 0) : fileT c = ([], n) := by unfold fileT; rw [h, if_neg hn]
theorem fileT_good {c : CollD} (h : chkF c = 0) : fileT c = (fileP c, 0) := by unfold fileT; rw [if_pos h]
theorem base_line (b s t : Int) : [64, 98, 97, 115, 101, 32] ++ Lib.itoa b ++ [32] ++ Lib.itoa s ++ [32] ++ Lib.itoa t ++ [10] = nl (lineP wBase [b, s, t]) := by simp [nl, lineP, wBase]
theorem group_line (acc nm : List UInt8) (lo hi : Int) : acc ++ [64, 103, 114, 111, 117, 112, 32] ++ nm ++ [32] ++ Lib.itoa lo ++ [32] ++ Lib.itoa hi ++ [10] = acc ++ nl (gLine ⟨nm, lo, hi⟩) := by simp [nl, gLine, lineP, wGroup]
theorem entry_line (acc : List UInt8) (cs : List Int) (ls : List ElemD) : acc ++ codesL cs ++ [59, 32] ++ ls.flatMap oneE ++ [10] = acc ++ nl (eLine ⟨cs, ls⟩) := by simp [nl, eLine]
theorem codesV_ok {cs : List Int} (h : allValid cs = true) : codesV cs = .tuple #[.string ⟨(codesL cs).toArray⟩, .int .i64 0] := by unfold codesV; rw [h]; rfl
theorem codesV_no {cs : List Int} (h : allValid cs = false) : codesV cs = .tuple #[.string ⟨#[]⟩, .int .i64 1] := by unfold codesV; rw [h]; rfl

set_option maxHeartbeats 16000000 in
set_option maxRecDepth 100000 in
theorem rfFileText (es : List EntryD) (gs : List GroupD) (b s t : Int) (AE AG : Option Addr) (cE cG : Nat) (w : World) (hN : EntsAt w AE es) (hG : GroupsAt w AG gs) (hfw : FewC es gs) (hw : WfC ⟨es, gs, b, s, t⟩) :
    Calls Tryz.prog 18 #[.agg #[.slice AE es.length cE, .slice AG gs.length cG, .int .i64 b, .int .i64 s, .int .i64 t]] w fun e w' => e = .returned (.tuple #[.string ⟨(fileT ⟨es, gs, b, s, t⟩).1.toArray⟩, .int .i64 (fileT ⟨es, gs, b, s, t⟩).2]) ∧ Below w.heap.size w w' := by
  have HNg := Lib.hid (fun w' h => rfNegative es gs b s t AE AG cE cG w' h (by have := hfw.g; omega))
  cases hn : negC gs b s t with
  | true =>
    rw [fileT_bad (negC_chk hn) (by decide)]
    rw [hn] at HNg
    have HN := Lib.hid hN
    have HG := Lib.hid hG
    have Hfw := Lib.hid hfw
    have Hw := Lib.hid hw
    have Hn := Lib.hid hn
    clear hN hG hfw hw hn
    go_enter Tryz.func18, Tryz.ntmps18
    go_wp2_with fail
    refine (HNg.out _ (HG.out.keep (bBox w _))).mono ?_
    rintro e w1 ⟨rfl, hb1⟩
    go_wp2_with fail
    go_ret2
    exact ⟨rfl, bUp (bBox w _) hb1⟩
  | false =>
    rw [hn] at HNg
    obtain ⟨h0, hg0⟩ := negC_no hn
    have FM := Lib.hid (fun h => fileT_bad (chkF_m (es := es) h0 hg0 h) (by decide))
    have FV := Lib.hid (fun h1 h => fileT_bad (chkF_v (es := es) h0 hg0 h1 h) (by decide))
    have FE := Lib.hid (fun h1 h2 k d hk hq (hd : ¬ chksE d.els = 0) => fileT_bad (chkF_e (es := es) h0 hg0 h1 h2 (k := k) (d := d) hk hq hd) hd)
    have FO := Lib.hid (fun h1 h2 h3 => (fileT_good (chkF_o (es := es) h0 hg0 h1 h2 h3)).trans (by rw [file_split]))
    dsimp only at FO
    have hbl : nl (bLine ⟨es, gs, b, s, t⟩) = nl (lineP wBase [b, s, t]) := rfl
    rw [hbl] at FO
    generalize fileT ⟨es, gs, b, s, t⟩ = ft at FM FV FE FO
    have hwb := hw.b
    have hws := hw.s
    have hwt := hw.t
    dsimp only at hwb hws hwt
    have hb0 : 0 ≤ b := by omega
    have hs0 : 0 ≤ s := by omega
    have ht0 : 0 ≤ t := by omega
    have m1 := Lib.itoa_length_le b (by omega) (by omega)
    have m2 := Lib.itoa_length_le s (by omega) (by omega)
    have m3 := Lib.itoa_length_le t (by omega) (by omega)
    have hbase := base_line b s t
    have hwg := hw.g
    dsimp only at hwg
    have hge0 : ∀ g ∈ gs, 0 ≤ g.lo ∧ 0 ≤ g.hi := fun g hg => by
      have := List.all_eq_true.1 hg0 g hg
      unfold okG negG at this
      simp at this
      exact this
    have hcd := fun z1 z2 => callsDec (w := z1) z2
    have CD := Lib.hid hcd
    clear hcd
    have kqa1 : (⟨#[64, 98, 97, 115, 101, 32]⟩ : ByteArray) ++ ⟨(Lib.itoa b).toArray⟩ = ⟨([64, 98, 97, 115, 101, 32] ++ Lib.itoa b).toArray⟩ := catE _ (Lib.itoa b)
    have lqa1 : ([64, 98, 97, 115, 101, 32] ++ Lib.itoa b).length ≤ 200 := by simp only [List.length_append, List.length_cons, List.length_nil]; omega
    have kqa2 : (⟨([64, 98, 97, 115, 101, 32] ++ Lib.itoa b).toArray⟩ : ByteArray) ++ ⟨#[32]⟩ = ⟨([64, 98, 97, 115, 101, 32] ++ Lib.itoa b ++ [32]).toArray⟩ := catE _ ([32])
    have lqa2 : ([64, 98, 97, 115, 101, 32] ++ Lib.itoa b ++ [32]).length ≤ 200 := by simp only [List.length_append, List.length_cons, List.length_nil]; omega
    have kqa3 : (⟨([64, 98, 97, 115, 101, 32] ++ Lib.itoa b ++ [32]).toArray⟩ : ByteArray) ++ ⟨(Lib.itoa s).toArray⟩ = ⟨([64, 98, 97, 115, 101, 32] ++ Lib.itoa b ++ [32] ++ Lib.itoa s).toArray⟩ := catE _ (Lib.itoa s)
    have lqa3 : ([64, 98, 97, 115, 101, 32] ++ Lib.itoa b ++ [32] ++ Lib.itoa s).length ≤ 200 := by simp only [List.length_append, List.length_cons, List.length_nil]; omega
    have kqa4 : (⟨([64, 98, 97, 115, 101, 32] ++ Lib.itoa b ++ [32] ++ Lib.itoa s).toArray⟩ : ByteArray) ++ ⟨#[32]⟩ = ⟨([64, 98, 97, 115, 101, 32] ++ Lib.itoa b ++ [32] ++ Lib.itoa s ++ [32]).toArray⟩ := catE _ ([32])
    have lqa4 : ([64, 98, 97, 115, 101, 32] ++ Lib.itoa b ++ [32] ++ Lib.itoa s ++ [32]).length ≤ 200 := by simp only [List.length_append, List.length_cons, List.length_nil]; omega
    have kqa5 : (⟨([64, 98, 97, 115, 101, 32] ++ Lib.itoa b ++ [32] ++ Lib.itoa s ++ [32]).toArray⟩ : ByteArray) ++ ⟨(Lib.itoa t).toArray⟩ = ⟨([64, 98, 97, 115, 101, 32] ++ Lib.itoa b ++ [32] ++ Lib.itoa s ++ [32] ++ Lib.itoa t).toArray⟩ := catE _ (Lib.itoa t)
    have lqa5 : ([64, 98, 97, 115, 101, 32] ++ Lib.itoa b ++ [32] ++ Lib.itoa s ++ [32] ++ Lib.itoa t).length ≤ 200 := by simp only [List.length_append, List.length_cons, List.length_nil]; omega
    have kqa6 : (⟨([64, 98, 97, 115, 101, 32] ++ Lib.itoa b ++ [32] ++ Lib.itoa s ++ [32] ++ Lib.itoa t).toArray⟩ : ByteArray) ++ ⟨#[10]⟩ = ⟨([64, 98, 97, 115, 101, 32] ++ Lib.itoa b ++ [32] ++ Lib.itoa s ++ [32] ++ Lib.itoa t ++ [10]).toArray⟩ := catE _ ([10])
    have lqa6 : ([64, 98, 97, 115, 101, 32] ++ Lib.itoa b ++ [32] ++ Lib.itoa s ++ [32] ++ Lib.itoa t ++ [10]).length ≤ 200 := by simp only [List.length_append, List.length_cons, List.length_nil]; omega
    generalize [64, 98, 97, 115, 101, 32] ++ Lib.itoa b ++ [32] ++ Lib.itoa s ++ [32] ++ Lib.itoa t ++ [10] = qa6 at kqa6 lqa6 hbase
    generalize [64, 98, 97, 115, 101, 32] ++ Lib.itoa b ++ [32] ++ Lib.itoa s ++ [32] ++ Lib.itoa t = qa5 at kqa5 lqa5 kqa6
    generalize [64, 98, 97, 115, 101, 32] ++ Lib.itoa b ++ [32] ++ Lib.itoa s ++ [32] = qa4 at kqa4 lqa4 kqa5
    generalize [64, 98, 97, 115, 101, 32] ++ Lib.itoa b ++ [32] ++ Lib.itoa s = qa3 at kqa3 lqa3 kqa4
    generalize [64, 98, 97, 115, 101, 32] ++ Lib.itoa b ++ [32] = qa2 at kqa2 lqa2 kqa3
    generalize [64, 98, 97, 115, 101, 32] ++ Lib.itoa b = qa1 at kqa1 lqa1 kqa2
    rw [← hbase] at FO
    have HN := Lib.hid hN
    have HG := Lib.hid hG
    have Hfw := Lib.hid hfw
    have Hw := Lib.hid hw
    have Hn := Lib.hid hn
    have H0 := Lib.hid h0
    have Hg0 := Lib.hid hg0
    have Hwg := Lib.hid hwg
    have Hge0 := Lib.hid hge0
    have Hbase := Lib.hid hbase
    have Hbl := Lib.hid hbl
    clear hN hG hfw hw hn h0 hg0 hwg hge0 hbase hbl
    go_enter Tryz.func18, Tryz.ntmps18
    go_wp2_with fail
    refine (HNg.out _ (HG.out.keep (bBox w _))).mono ?_
    rintro e w1 ⟨rfl, hb1⟩
    have hB := (Blk.new w #[.slice AE es.length cE, .slice AG gs.length cG, .int .i64 b, .int .i64 s, .int .i64 t] 35).keep hb1
    have h01 := bUp (bBox w (.cells #[.slice AE es.length cE, .slice AG gs.length cG, .int .i64 b, .int .i64 s, .int .i64 t] 35)) hb1
    have a2 := cell_regrown (show w1.cell? ⟨w.heap.size, 2, none⟩ = some (.int .i64 b) from hB.cell 2)
    have a3 := cell_regrown (show w1.cell? ⟨w.heap.size, 3, none⟩ = some (.int .i64 s) from hB.cell 3)
    have a4 := cell_regrown (show w1.cell? ⟨w.heap.size, 4, none⟩ = some (.int .i64 t) from hB.cell 4)
    have HB := Lib.hid hB
    have H01 := Lib.hid h01
    clear hB h01 hb1
    go_wp2_with fail
    refine wp_region_quiet_below (by kernel_rfl) (by kernel_rfl) ?_
    repeat (go_big_quiet_step (first | (go_at_call 34; exact CD.out _ _ (by assumption) (by assumption) _ _)))
    refine wpQuiet_nil ?_
    rintro _ ⟨⟨dq, osq⟩, rfl⟩
    have hb2 := below_regrown w1 dq osq
    generalize grow (redrawn w1 dq) osq = w2 at hb2 ⊢
    have HB2 := Lib.hid (HB.out.keep hb2)
    have H02 := Lib.hid (bUp H01.out hb2)
    have HN2 := Lib.hid (HN.out.keep H02.out)
    have HG2 := Lib.hid (HG.out.keep H02.out)
    clear hb2 a2 a3 a4 HB H01 HN HG HNg
    go_wp2_with fail
    go_loopw [4, 5] (fun v i wr => ∃ (k : Nat) (acc : List UInt8), k ≤ gs.length ∧ i = .int .i64 k ∧ v = .string ⟨acc.toArray⟩ ∧ acc.length ≤ 200 + 200 * k ∧ Hid (acc = qa6 ++ (gs.take k).flatMap fun g => nl (gLine g)) ∧ Hid ((gs.take k).all okM = true) ∧ Below w2.heap.size w2 wr) (fun _ i _ => gs.length - (intOf i).toNat)
    case atStart => exact ⟨0, qa6, Nat.zero_le _, rfl, rfl, by omega, Lib.hid (by simp), Lib.hid rfl, Below.refl _ _⟩
    case round =>
      obtain ⟨k, acc, hk, rfl, rfl, hal, HA, HK, hbr⟩ := hrel
      have c1 : wr.cell? ⟨w.heap.size, 1, none⟩ = some (.slice AG gs.length cG) := (HB2.out.keep hbr).cell 1
      by_cases hlt : k < gs.length
      · obtain ⟨b1, o1, rfl, h1, p0, p1, p2⟩ := (HG2.out.keep hbr).at_ hlt
        have hki : (k : Int) < gs.length := by omega
        have hbad := fun h => take_bad (p := okM) (groupAt_get hlt) h
        have hgood := fun h => take_good (p := okM) (groupAt_get hlt) HK.out h
        have hsn := flat_snoc (fun g => nl (gLine g)) (groupAt_get hlt)
        have hmn := Hfw.out.n _ (groupAt_mem hlt)
        obtain ⟨hlo1, hhi1⟩ := Hwg.out _ (groupAt_mem hlt)
        obtain ⟨hlo0, hhi0⟩ := Hge0.out _ (groupAt_mem hlt)
        have hk8 : k < 8 := by have := Hfw.out.g; omega
        generalize groupAt gs k = d at p0 p1 p2 hbad hgood hsn hmn hlo1 hhi1 hlo0 hhi0
        obtain ⟨nm, lo, hi⟩ := d
        dsimp only at p0 p1 p2 hmn hlo1 hhi1 hlo0 hhi0
        have HNm := Lib.hid (fun w' => rfName nm w' (by omega))
        have z1 : w.heap.size < wr.heap.size := (HB2.out.keep hbr).lt
        have z2 : w.heap.size ≤ wr.heap.size := by omega
        cases hnm : nameB nm with
        | false =>
          have HR := Lib.hid (FM.out (hbad (by simp [okM, hnm])))
          rw [hnm] at HNm
          have Hnm := Lib.hid hnm
          have Hsn := Lib.hid hsn
          clear hnm hsn
          clear hbad hgood
          go_wp2_with fail
          refine (HNm.out _).mono ?_
          rintro e w3 ⟨rfl, rfl⟩
          go_wp2_with fail
          go_ret2
          exact ⟨by rw [HR.out]; rfl, bUp H02.out (bUp hbr (bBox wr _))⟩
        | true =>
          have HR := Lib.hid (hgood (by simp [okM, hnm]))
          rw [hnm] at HNm
          have HO := Lib.hid (show acc ++ nl (gLine ⟨nm, lo, hi⟩) = qa6 ++ (gs.take (k + 1)).flatMap fun g => nl (gLine g) by rw [hsn, HA.out, List.append_assoc])
          have hgl := group_line acc nm lo hi
          rw [← hgl] at HO
          have n1 := Lib.itoa_length_le lo (by omega) (by omega)
          have n2 := Lib.itoa_length_le hi (by omega) (by omega)
          have hlf : (acc ++ [64, 103, 114, 111, 117, 112, 32] ++ nm ++ [32] ++ Lib.itoa lo ++ [32] ++ Lib.itoa hi ++ [10]).length ≤ 200 + 200 * (k + 1) := by simp only [List.length_append, List.length_cons, List.length_nil]; omega
          clear hgl hsn
          have kqb1 : (⟨(acc).toArray⟩ : ByteArray) ++ ⟨#[64, 103, 114, 111, 117, 112, 32]⟩ = ⟨(acc ++ [64, 103, 114, 111, 117, 112, 32]).toArray⟩ := catE _ ([64, 103, 114, 111, 117, 112, 32])
          have lqb1 : (acc ++ [64, 103, 114, 111, 117, 112, 32]).length ≤ 3000 := by simp only [List.length_append, List.length_cons, List.length_nil]; omega
          have kqb2 : (⟨(acc ++ [64, 103, 114, 111, 117, 112, 32]).toArray⟩ : ByteArray) ++ ⟨(nm).toArray⟩ = ⟨(acc ++ [64, 103, 114, 111, 117, 112, 32] ++ nm).toArray⟩ := catE _ (nm)
          have lqb2 : (acc ++ [64, 103, 114, 111, 117, 112, 32] ++ nm).length ≤ 3000 := by simp only [List.length_append, List.length_cons, List.length_nil]; omega
          have kqb3 : (⟨(acc ++ [64, 103, 114, 111, 117, 112, 32] ++ nm).toArray⟩ : ByteArray) ++ ⟨#[32]⟩ = ⟨(acc ++ [64, 103, 114, 111, 117, 112, 32] ++ nm ++ [32]).toArray⟩ := catE _ ([32])
          have lqb3 : (acc ++ [64, 103, 114, 111, 117, 112, 32] ++ nm ++ [32]).length ≤ 3000 := by simp only [List.length_append, List.length_cons, List.length_nil]; omega
          have kqb4 : (⟨(acc ++ [64, 103, 114, 111, 117, 112, 32] ++ nm ++ [32]).toArray⟩ : ByteArray) ++ ⟨(Lib.itoa lo).toArray⟩ = ⟨(acc ++ [64, 103, 114, 111, 117, 112, 32] ++ nm ++ [32] ++ Lib.itoa lo).toArray⟩ := catE _ (Lib.itoa lo)
          have lqb4 : (acc ++ [64, 103, 114, 111, 117, 112, 32] ++ nm ++ [32] ++ Lib.itoa lo).length ≤ 3000 := by simp only [List.length_append, List.length_cons, List.length_nil]; omega
          have kqb5 : (⟨(acc ++ [64, 103, 114, 111, 117, 112, 32] ++ nm ++ [32] ++ Lib.itoa lo).toArray⟩ : ByteArray) ++ ⟨#[32]⟩ = ⟨(acc ++ [64, 103, 114, 111, 117, 112, 32] ++ nm ++ [32] ++ Lib.itoa lo ++ [32]).toArray⟩ := catE _ ([32])
          have lqb5 : (acc ++ [64, 103, 114, 111, 117, 112, 32] ++ nm ++ [32] ++ Lib.itoa lo ++ [32]).length ≤ 3000 := by simp only [List.length_append, List.length_cons, List.length_nil]; omega
          have kqb6 : (⟨(acc ++ [64, 103, 114, 111, 117, 112, 32] ++ nm ++ [32] ++ Lib.itoa lo ++ [32]).toArray⟩ : ByteArray) ++ ⟨(Lib.itoa hi).toArray⟩ = ⟨(acc ++ [64, 103, 114, 111, 117, 112, 32] ++ nm ++ [32] ++ Lib.itoa lo ++ [32] ++ Lib.itoa hi).toArray⟩ := catE _ (Lib.itoa hi)
          have lqb6 : (acc ++ [64, 103, 114, 111, 117, 112, 32] ++ nm ++ [32] ++ Lib.itoa lo ++ [32] ++ Lib.itoa hi).length ≤ 3000 := by simp only [List.length_append, List.length_cons, List.length_nil]; omega
          have kqb7 : (⟨(acc ++ [64, 103, 114, 111, 117, 112, 32] ++ nm ++ [32] ++ Lib.itoa lo ++ [32] ++ Lib.itoa hi).toArray⟩ : ByteArray) ++ ⟨#[10]⟩ = ⟨(acc ++ [64, 103, 114, 111, 117, 112, 32] ++ nm ++ [32] ++ Lib.itoa lo ++ [32] ++ Lib.itoa hi ++ [10]).toArray⟩ := catE _ ([10])
          have lqb7 : (acc ++ [64, 103, 114, 111, 117, 112, 32] ++ nm ++ [32] ++ Lib.itoa lo ++ [32] ++ Lib.itoa hi ++ [10]).length ≤ 3000 := by simp only [List.length_append, List.length_cons, List.length_nil]; omega
          generalize acc ++ [64, 103, 114, 111, 117, 112, 32] ++ nm ++ [32] ++ Lib.itoa lo ++ [32] ++ Lib.itoa hi ++ [10] = qb7 at kqb7 lqb7 HO hlf
          generalize acc ++ [64, 103, 114, 111, 117, 112, 32] ++ nm ++ [32] ++ Lib.itoa lo ++ [32] ++ Lib.itoa hi = qb6 at kqb6 lqb6 kqb7
          generalize acc ++ [64, 103, 114, 111, 117, 112, 32] ++ nm ++ [32] ++ Lib.itoa lo ++ [32] = qb5 at kqb5 lqb5 kqb6
          generalize acc ++ [64, 103, 114, 111, 117, 112, 32] ++ nm ++ [32] ++ Lib.itoa lo = qb4 at kqb4 lqb4 kqb5
          generalize acc ++ [64, 103, 114, 111, 117, 112, 32] ++ nm ++ [32] = qb3 at kqb3 lqb3 kqb4
          generalize acc ++ [64, 103, 114, 111, 117, 112, 32] ++ nm = qb2 at kqb2 lqb2 kqb3
          generalize acc ++ [64, 103, 114, 111, 117, 112, 32] = qb1 at kqb1 lqb1 kqb2
          have Hnm := Lib.hid hnm
          clear hnm
          clear hbad hgood
          go_wp2_with fail
          refine (HNm.out _).mono ?_
          rintro e w3 ⟨rfl, rfl⟩
          have hB3 := Blk.new wr #[.string ⟨nm.toArray⟩, .int .i64 lo, .int .i64 hi] 47
          have hb3 := bUp hbr (bBox wr (.cells #[.string ⟨nm.toArray⟩, .int .i64 lo, .int .i64 hi] 47))
          have hz3 : wr.heap.size = wr.heap.size := rfl
          generalize wr.alloc (.cells #[.string ⟨nm.toArray⟩, .int .i64 lo, .int .i64 hi] 47) = w3 at hB3 hb3 ⊢
          clear p0 p1 p2 c1 hz3
          have r0 := cell_regrown (show w3.cell? ⟨wr.heap.size, 0, none⟩ = some (.string ⟨nm.toArray⟩) from hB3.cell 0)
          have r1 := cell_regrown (show w3.cell? ⟨wr.heap.size, 1, none⟩ = some (.int .i64 lo) from hB3.cell 1)
          have r2 := cell_regrown (show w3.cell? ⟨wr.heap.size, 2, none⟩ = some (.int .i64 hi) from hB3.cell 2)
          clear hB3
          go_wp2_with fail
          refine wp_region_quiet_below (by kernel_rfl) (by kernel_rfl) ?_
          repeat (go_big_quiet_step (first | (go_at_call 34; exact CD.out _ _ (by assumption) (by assumption) _ _)))
          refine wpQuiet_nil ?_
          rintro _ ⟨⟨dq, osq⟩, rfl⟩
          have hb4 := below_regrown w3 dq osq
          generalize grow (redrawn w3 dq) osq = w4 at hb4 ⊢
          clear r0 r1 r2
          go_wp2_with fail
          go_roundw
          case rel => exact ⟨k + 1, qb7, by omega, by go_num, rfl, hlf, HO, HR, bUp hb3 hb4⟩
          case measure => simp [intOf]; omega
      · obtain rfl : k = gs.length := by omega
        have hki : ¬ (gs.length : Int) < gs.length := by omega
        have hA1 := HK.out
        rw [List.take_length] at hA1
        have hacc := HA.out
        rw [List.take_length] at hacc
        have hal2 : acc.length ≤ 1800 := by have := Hfw.out.g; omega
        have HFV := Lib.hid (fun h => FV.out hA1 h)
        have HFE := Lib.hid (fun h2 k d hk hq hd => FE.out hA1 h2 k d hk hq hd)
        have HFO := Lib.hid (fun h2 h3 => FO.out hA1 h2 h3)
        rw [← hacc] at HFO
        clear hacc HA HK hal FM FV FE FO hA1
        have c0 : wr.cell? ⟨w.heap.size, 0, none⟩ = some (.slice AE es.length cE) := (HB2.out.keep hbr).cell 0
        have HNr := Lib.hid (HN2.out.keep hbr)
        have hes12 : es.length ≤ 12 := Hfw.out.e
        go_wp2_with fail
        clear c1
        go_loop [7] (fun i => ∃ k : Nat, k ≤ es.length ∧ i = .int .i64 k ∧ Hid ((es.take k).all okV = true)) (fun i => es.length - (intOf i).toNat)
        case atStart => exact ⟨0, Nat.zero_le _, rfl, Lib.hid rfl⟩
        case round =>
          obtain ⟨k, hk, rfl, HK⟩ := hrel
          by_cases hlt : k < es.length
          · obtain ⟨b1, o1, C1, c1, L1, c2, rfl, h1, p0, hI, p1, _⟩ := HNr.out.at_ hlt
            have hki : (k : Int) < es.length := by omega
            have hbad := fun h => HFV.out (take_bad (entAt_get hlt) h)
            have hgood := fun h => take_good (p := okV) (entAt_get hlt) HK.out h
            have hmc := Hfw.out.c _ (entAt_mem hlt)
            generalize entAt es k = d at p0 p1 hI hbad hgood hmc
            obtain ⟨cs, ls⟩ := d
            dsimp only at p0 p1 hI hmc
            have HCo := Lib.hid (rfCodes cs C1 c1 wr hI (by omega))
            clear hI
            cases hv : allValid cs with
            | false =>
              have HR := Lib.hid (hbad hv)
              rw [codesV_no hv] at HCo
              have Hv := Lib.hid hv
              clear hv
              clear hbad hgood
              go_wp2_with fail
              refine HCo.out.mono ?_
              rintro e w3 ⟨rfl, rfl⟩
              go_wp2_with fail
              go_ret2
              exact ⟨by rw [HR.out]; rfl, bUp H02.out hbr⟩
            | true =>
              have HR := Lib.hid (hgood hv)
              rw [codesV_ok hv] at HCo
              generalize codesL cs = cl at HCo
              have Hv := Lib.hid hv
              clear hv
              clear hbad hgood
              go_wp2_with fail
              refine HCo.out.mono ?_
              rintro e w3 ⟨rfl, rfl⟩
              go_wp2_with fail
              go_round
              case rel => exact ⟨k + 1, by omega, by go_num, HR⟩
              case measure => simp [intOf]; omega
          · obtain rfl : k = es.length := by omega
            have hki : ¬ (es.length : Int) < es.length := by omega
            have hA2 := HK.out
            rw [List.take_length] at hA2
            have HF2 := Lib.hid (fun k d hk hq hd => HFE.out hA2 k d hk hq hd)
            have HF3 := Lib.hid (fun h3 => HFO.out hA2 h3)
            have HA2 := Lib.hid hA2
            clear hA2
            clear HK HFV HFE HFO
            have Hbr := Lib.hid hbr
            clear hbr
            obtain ⟨w5, rfl⟩ : ∃ x, x = wr := ⟨wr, rfl⟩
            go_wp2_with fail
            clear c0
            go_loopw [4, 10] (fun v i wq => ∃ (k : Nat) (ac : List UInt8), k ≤ es.length ∧ i = .int .i64 k ∧ v = .string ⟨ac.toArray⟩ ∧ ac.length ≤ 1800 + 500 * k ∧ Hid (ac = acc ++ (es.take k).flatMap fun e => nl (eLine e)) ∧ Hid ((es.take k).all okE = true) ∧ Below w5.heap.size w5 wq) (fun _ i _ => es.length - (intOf i).toNat)
            case atStart => exact ⟨0, acc, Nat.zero_le _, rfl, rfl, by omega, Lib.hid (by simp), Lib.hid rfl, Below.refl _ _⟩
            case round =>
              obtain ⟨k, ac, hk, rfl, rfl, hal, HA, HK, hbq⟩ := hrel
              have hBq := HB2.out.keep (bUp Hbr.out hbq)
              have c0 : wr.cell? ⟨w.heap.size, 0, none⟩ = some (.slice AE es.length cE) := hBq.cell 0
              by_cases hlt : k < es.length
              · obtain ⟨b1, o1, C1, c1, L1, c2, rfl, h1, p0, hI, p1, hL⟩ := (HNr.out.keep hbq).at_ hlt
                have hki : (k : Int) < es.length := by omega
                have hk12 : k < 12 := by have := Hfw.out.e; omega
                have hbad := fun h => HF2.out k _ (entAt_get hlt) HK.out h
                have hgood := fun h => take_good (p := okE) (entAt_get hlt) HK.out h
                have hmc := Hfw.out.c _ (entAt_mem hlt)
                have hml := Hfw.out.l _ (entAt_mem hlt)
                have hval : allValid (entAt es k).codes = true := List.all_eq_true.1 HA2.out _ (entAt_mem hlt)
                have hsn := flat_snoc (fun e => nl (eLine e)) (entAt_get hlt)
                generalize entAt es k = d at p0 p1 hI hL hbad hgood hmc hml hval hsn
                obtain ⟨cs, ls⟩ := d
                dsimp only at p0 p1 hI hL hmc hml hval hbad
                have HCo := Lib.hid (rfCodes cs C1 c1 wr hI (by omega))
                rw [codesV_ok hval] at HCo
                have HTx := Lib.hid (rfEText ls L1 c2 wr hL (by omega))
                have hlc := codesL_le cs
                have hlt2 := flatE_length ls
                clear hI hL
                by_cases hz : chksE ls = 0
                · have htx : textE ls = (ls.flatMap oneE, 0) := by rw [textE_of, if_pos hz]
                  rw [htx] at HTx
                  dsimp only at HTx
                  have HR := Lib.hid (hgood (by simp [okE, hz]))
                  have HO := Lib.hid (show ac ++ nl (eLine ⟨cs, ls⟩) = acc ++ (es.take (k + 1)).flatMap fun e => nl (eLine e) by rw [hsn, HA.out, List.append_assoc])
                  have hgl := entry_line ac cs ls
                  rw [← hgl] at HO
                  have hlc2 : (codesL cs).length ≤ 112 := by omega
                  have hlt3 : (ls.flatMap oneE).length ≤ 272 := by omega
                  clear hgl hsn
                  generalize codesL cs = cl at HCo HO hlc hlc2
                  generalize ls.flatMap oneE = tx at HTx HO hlt2 hlt3 htx
                  have hlf : (ac ++ cl ++ [59, 32] ++ tx ++ [10]).length ≤ 1800 + 500 * (k + 1) := by simp only [List.length_append, List.length_cons, List.length_nil]; omega
                  have kqc1 : (⟨(ac).toArray⟩ : ByteArray) ++ ⟨(cl).toArray⟩ = ⟨(ac ++ cl).toArray⟩ := catE _ (cl)
                  have lqc1 : (ac ++ cl).length ≤ 9000 := by simp only [List.length_append]; omega
                  have kqc2 : (⟨(ac ++ cl).toArray⟩ : ByteArray) ++ ⟨#[59, 32]⟩ = ⟨(ac ++ cl ++ [59, 32]).toArray⟩ := catE _ ([59, 32])
                  have lqc2 : (ac ++ cl ++ [59, 32]).length ≤ 9000 := by simp only [List.length_append, List.length_cons, List.length_nil]; omega
                  have kqc3 : (⟨(ac ++ cl ++ [59, 32]).toArray⟩ : ByteArray) ++ ⟨(tx).toArray⟩ = ⟨(ac ++ cl ++ [59, 32] ++ tx).toArray⟩ := catE _ (tx)
                  have lqc3 : (ac ++ cl ++ [59, 32] ++ tx).length ≤ 9000 := by simp only [List.length_append, List.length_cons, List.length_nil]; omega
                  have kqc4 : (⟨(ac ++ cl ++ [59, 32] ++ tx).toArray⟩ : ByteArray) ++ ⟨#[10]⟩ = ⟨(ac ++ cl ++ [59, 32] ++ tx ++ [10]).toArray⟩ := catE _ ([10])
                  have lqc4 : (ac ++ cl ++ [59, 32] ++ tx ++ [10]).length ≤ 9000 := by simp only [List.length_append, List.length_cons, List.length_nil]; omega
                  generalize ac ++ cl ++ [59, 32] ++ tx ++ [10] = qc4 at kqc4 lqc4 HO hlf
                  generalize ac ++ cl ++ [59, 32] ++ tx = qc3 at kqc3 lqc3 kqc4
                  generalize ac ++ cl ++ [59, 32] = qc2 at kqc2 lqc2 kqc3
                  generalize ac ++ cl = qc1 at kqc1 lqc1 kqc2
                  have Hz := Lib.hid hz
                  have Htx := Lib.hid htx
                  have Hval := Lib.hid hval
                  have Hlt2 := Lib.hid hlt2
                  have Hlc := Lib.hid hlc
                  clear hz htx hval hlt2 hlc
                  clear hbad hgood
                  go_wp2_with fail
                  refine HCo.out.mono ?_
                  rintro e w3 ⟨rfl, rfl⟩
                  go_wp2_with fail
                  refine HTx.out.mono ?_
                  rintro e w4 ⟨rfl, hb4⟩
                  go_wp2_with fail
                  go_roundw
                  case rel => exact ⟨k + 1, qc4, by omega, by go_num, rfl, hlf, HO, HR, bUp hbq hb4⟩
                  case measure => simp [intOf]; omega
                · have htx : textE ls = ([], chksE ls) := by rw [textE_of, if_neg hz]
                  rw [htx] at HTx
                  dsimp only at HTx
                  have HR := Lib.hid (hbad hz)
                  have hne2 : (chksE ls != 0) = true := by simp [hz]
                  generalize chksE ls = ce at HTx HR hne2 htx hz
                  generalize codesL cs = cl at HCo hlc
                  have Hz := Lib.hid hz
                  have Htx := Lib.hid htx
                  have Hval := Lib.hid hval
                  have Hsn := Lib.hid hsn
                  have Hlt2 := Lib.hid hlt2
                  clear hz htx hval hsn hlt2
                  clear hbad hgood
                  go_wp2_with fail
                  refine HCo.out.mono ?_
                  rintro e w3 ⟨rfl, rfl⟩
                  go_wp2_with fail
                  refine HTx.out.mono ?_
                  rintro e w4 ⟨rfl, hb4⟩
                  go_wp2_with fail
                  go_ret2
                  exact ⟨by rw [HR.out]; rfl, bUp H02.out (bUp Hbr.out (bUp hbq hb4))⟩
              · obtain rfl : k = es.length := by omega
                have hki : ¬ (es.length : Int) < es.length := by omega
                have hA3 := HK.out
                rw [List.take_length] at hA3
                have hfin := HA.out
                rw [List.take_length] at hfin
                have HR := Lib.hid (HF3.out hA3)
                rw [← hfin] at HR
                have HA3 := Lib.hid hA3
                have Hfin := Lib.hid hfin
                clear hA3 hfin
                clear HF2 HF3 HA HK
                go_wp2_with fail
                go_ret2
                exact ⟨by rw [HR.out]; rfl, bUp H02.out (bUp Hbr.out hbq)⟩

set_option maxHeartbeats 4000000 in
set_option maxRecDepth 100000 in
theorem lawEFiles (es : List EntryD) (gs : List GroupD) (b s t : Int) (AE AG : Option Addr) (cE cG : Nat) (w : World) (hN : EntsAt w AE es) (hG : GroupsAt w AG gs) (hne : es.length ≤ 9223372036854775807) (hng : gs.length ≤ 9223372036854775807) (hcl : ∀ e ∈ es, e.codes.length ≤ 9223372036854775807) (hll : ∀ e ∈ es, e.els.length ≤ 9223372036854775807) (hml : ∀ g ∈ gs, g.name.length ≤ 9223372036854775807) (hw : WfC ⟨es, gs, b, s, t⟩) (hE : EnvF w) :
    Calls Tryz.prog 5 #[.agg #[.slice AE es.length cE, .slice AG gs.length cG, .int .i64 b, .int .i64 s, .int .i64 t]] w fun e w' => e = .returned (.bool true) ∧ Below w.heap.size w w' := by
  have hFw := fun w' h1 h2 => rfFew es gs b s t AE AG cE cG w' h1 h2 hne hng hcl hll hml
  cases hf : fewC es gs with
  | false =>
    rw [hf] at hFw
    have HFw := Lib.hid hFw
    have HN := Lib.hid hN
    have HG := Lib.hid hG
    have Hcl := Lib.hid hcl
    have Hll := Lib.hid hll
    have Hml := Lib.hid hml
    have Hw := Lib.hid hw
    have HE := Lib.hid hE
    have Hf := Lib.hid hf
    clear hFw hN hG hcl hll hml hw hE hf
    go_enter Tryz.func5, Tryz.ntmps5
    go_wp2_with fail
    refine (HFw.out _ (HN.out.keep (bBox w _)) (HG.out.keep (bBox w _))).mono ?_
    rintro e w1 ⟨rfl, hb1⟩
    go_wp2_with fail
    refine (elAlive _ (HE.out.keep (bUp (bBox w _) hb1))).mono ?_
    rintro e w2 ⟨rfl, hb2⟩
    go_wp2_with fail
    go_ret
    exact ⟨rfl, bUp (bUp (bBox w _) hb1) hb2⟩
  | true =>
    rw [hf] at hFw
    have hfw := fewC_yes hf
    have hFT := fun w' h1 h2 h3 => elFileText es gs b s t AE AG cE cG w' h1 h2 h3 (by have := hfw.e; omega) (by have := hfw.g; omega) (fun e he => by have := hfw.c e he; omega) (fun e he => by have := hfw.l e he; omega) hml hw
    have hRT := fun w' h1 h2 => rfFileText es gs b s t AE AG cE cG w' h1 h2 hfw hw
    have hlen : (fileT ⟨es, gs, b, s, t⟩).1.length ≤ 10000 := by
      by_cases hc : chkF ⟨es, gs, b, s, t⟩ = 0
      · rw [fileT_good hc]
        exact file_short hfw (chkF_ok hc) hw
      · rw [fileT_bad rfl hc]
        simp
    generalize fileT ⟨es, gs, b, s, t⟩ = ft at hFT hRT hlen
    obtain ⟨tx, te⟩ := ft
    dsimp only at hFT hRT hlen
    have q1 : (tx == tx) = true := by simp
    have q2 : (te == te) = true := by simp
    have HFw := Lib.hid hFw
    have HFT := Lib.hid hFT
    have HRT := Lib.hid hRT
    have HN := Lib.hid hN
    have HG := Lib.hid hG
    have Hcl := Lib.hid hcl
    have Hll := Lib.hid hll
    have Hml := Lib.hid hml
    have Hw := Lib.hid hw
    have HE := Lib.hid hE
    have Hf := Lib.hid hf
    have Hfw := Lib.hid hfw
    clear hFw hFT hRT hN hG hcl hll hml hw hE hf hfw
    go_enter Tryz.func5, Tryz.ntmps5
    go_wp2_with fail
    refine (HFw.out _ (HN.out.keep (bBox w _)) (HG.out.keep (bBox w _))).mono ?_
    rintro e w1 ⟨rfl, hb1⟩
    have hB := (Blk.new w #[.slice AE es.length cE, .slice AG gs.length cG, .int .i64 b, .int .i64 s, .int .i64 t] 35).keep hb1
    have h01 := bUp (bBox w (.cells #[.slice AE es.length cE, .slice AG gs.length cG, .int .i64 b, .int .i64 s, .int .i64 t] 35)) hb1
    have HB := Lib.hid hB
    have H01 := Lib.hid h01
    have a0 : w1.cell? ⟨w.heap.size, 0, none⟩ = some (.slice AE es.length cE) := hB.cell 0
    have a1 : w1.cell? ⟨w.heap.size, 1, none⟩ = some (.slice AG gs.length cG) := hB.cell 1
    have a2 : w1.cell? ⟨w.heap.size, 2, none⟩ = some (.int .i64 b) := hB.cell 2
    have a3 : w1.cell? ⟨w.heap.size, 3, none⟩ = some (.int .i64 s) := hB.cell 3
    have a4 : w1.cell? ⟨w.heap.size, 4, none⟩ = some (.int .i64 t) := hB.cell 4
    clear hB h01 hb1
    go_wp2_with fail
    refine (HFT.out _ (HN.out.keep H01.out) (HG.out.keep H01.out) (HE.out.keep H01.out)).mono ?_
    rintro e w2 ⟨rfl, hb2⟩
    have hB2 := HB.out.keep hb2
    have H02 := Lib.hid (bUp H01.out hb2)
    clear hb2 a0 a1 a2 a3 a4
    have a0 : w2.cell? ⟨w.heap.size, 0, none⟩ = some (.slice AE es.length cE) := hB2.cell 0
    have a1 : w2.cell? ⟨w.heap.size, 1, none⟩ = some (.slice AG gs.length cG) := hB2.cell 1
    have a2 : w2.cell? ⟨w.heap.size, 2, none⟩ = some (.int .i64 b) := hB2.cell 2
    have a3 : w2.cell? ⟨w.heap.size, 3, none⟩ = some (.int .i64 s) := hB2.cell 3
    have a4 : w2.cell? ⟨w.heap.size, 4, none⟩ = some (.int .i64 t) := hB2.cell 4
    clear hB2
    go_wp2_with fail
    refine (HRT.out _ (HN.out.keep H02.out) (HG.out.keep H02.out)).mono ?_
    rintro e w3 ⟨rfl, hb3⟩
    have hw3 := bUp H02.out hb3
    clear hb3 a0 a1 a2 a3 a4
    go_wp2_with fail
    refine (elAlive _ (HE.out.keep hw3)).mono ?_
    rintro e w4 ⟨rfl, hb4⟩
    go_wp2_with fail
    go_ret
    exact ⟨rfl, bUp hw3 hb4⟩
end Go.Proofs.YthogkokifiibnaaGreatDoor
