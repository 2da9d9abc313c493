/- reader.group -/
import Derived.Test.YthogkokifiibnaaGreatDoorA7
namespace Go.Proofs.YthogkokifiibnaaGreatDoor
open Go.RowKit Go.Sort

theorem stepG {ops : Array Oper} {o : Oper} {a : Act} {K : Act → World → Prop} {Q : Exit → Act → World → Prop} {E : Prop} {W : World} (hgd : o.guard = none) (s x : Operand) (ho : o.op = .call { callee := .builtin .append, args := #[s, x], argTypes := #[33, 33] })
    (base : Nat) {v : Value} {gs : List GroupD} (hs : a.eval s = v) (h : OwnG W base v gs) (g : GroupD) (hx : a.eval x = .slice (some ⟨W.heap.size, 0, none⟩) 1 1) (hl : gs.length + 1 ≤ 1000000) (hb : base ≤ W.heap.size)
    (hK : ∀ v' w', Hid (OwnG w' base v' (gs ++ [g])) → Hid (KeptT [3, 45, 50, 70, 39] W w') → (∀ w0, Below base w0 W → Below base w0 w') → K (a.put o.dst v') w') : if Region.wanted o (yielded ops a.tmps) = true then Oper.wp Tryz.prog o a (W.alloc (.cells #[.string ⟨g.name.toArray⟩, .int .i64 g.lo, .int .i64 g.hi] 47)) K Q else E := by
  rw [if_pos (by simp [Region.wanted, hgd])]
  obtain ⟨i0, hi, hz0, hz1, hz2⟩ := info_parts infoGroup
  have hk := h.keep (bBox W (.cells #[.string ⟨g.name.toArray⟩, .int .i64 g.lo, .int .i64 g.hi] 47))
  have hcell : ∀ j u, (groupCells g)[j]? = some u → (W.alloc (.cells #[.string ⟨g.name.toArray⟩, .int .i64 g.lo, .int .i64 g.hi] 47)).cell? ((⟨W.heap.size, 0, none⟩ : Addr).add j) = some u := by
    intro j u hu
    rw [Go.WideShapes.add_plain, (Blk.new W _ _).cell]
    simpa [groupCells] using hu
  refine wp_append_own _ s x 33 ho base 47 i0 _ 3 32 Tryz.underlying33 hi hz0 hz1 hz2 rfl (by decide) v gs.length (rowG gs) hs hk ⟨W.heap.size, 0, none⟩ 1 1 (groupCells g) hx rfl hcell
    (fun u hu => by simp only [groupCells, List.mem_cons, List.not_mem_nil, or_false] at hu; rcases hu with rfl | rfl | rfl <;> rfl) (by unfold maxLen; omega) (by omega) (by simp; omega) ?_
  intro v' w' hown' hg _
  refine hK v' w' (Lib.hid ?_) (Lib.hid ?_) (fun w0 h0 => ?_)
  · unfold OwnG
    rw [List.length_append, rowG_snoc]
    exact hown'
  · refine (KeptT.of_below (bBox W _)).trans (KeptT.grown hg (fun k e => ?_))
    obtain ⟨_, cur, hc⟩ := hk.row k e
    exact ⟨cur, _, _, hc, by decide⟩
  · exact (h0.alloc hb _).grown hg (by simp; omega) (fun k e => (hk.row k e).1)

set_option maxHeartbeats 8000000 in
set_option maxRecDepth 100000 in
theorem elGroup (r : RdD) (b : Nat) (l : List UInt8) (w : World) (hR : RdAt w b r) (hE : EnvF w) (hl : l.length ≤ 65536) (hgl : r.c.groups.length ≤ 100000) :
    Calls Tryz.prog 40 #[.pointer (some ⟨b, 0, none⟩), .string ⟨l.toArray⟩] w (RdOut b (groupP r l) r w) := by
  have HS := Lib.hid (csSplit 32 l w hE.env (by omega))
  have hple := splitL_piece_le 32 l
  have hpl : (splitL 32 l).length ≤ 65537 := by rw [splitL_length]; have := List.count_le_length (a := (32 : UInt8)) (l := l); omega
  have HP := Lib.hid (show groupP r l = groupQ r (splitL 32 l) from rfl)
  have hblt := hR.lt
  generalize splitL 32 l = ps at HP HS hple hpl
  have HE := Lib.hid hE
  have Hple := Lib.hid hple
  have HR := Lib.hid hR
  clear hE hple hR
  go_enter Tryz.func40, Tryz.ntmps40
  go_wp2_with fail
  refine HS.out.mono ?_
  rintro e w1 ⟨rfl, rfl⟩
  have hB := Blk.new w (strCellsOf ps) 9
  have hw1 : Below w.heap.size w (w.alloc (.cells (strCellsOf ps) 9)) := bBox _ _
  change Blk (w.alloc (.cells (ps.map fun p => Value.string ⟨p.toArray⟩).toArray 9)) w.heap.size (strCellsOf ps) 9 at hB
  change Below w.heap.size w (w.alloc (.cells (ps.map fun p => Value.string ⟨p.toArray⟩).toArray 9)) at hw1
  generalize w.alloc (.cells (ps.map fun p => Value.string ⟨p.toArray⟩).toArray 9) = w1 at hB hw1 ⊢
  have HR1 := Lib.hid (HR.out.keep hw1)
  have HE1 := Lib.hid (HE.out.keep hw1)
  obtain ⟨AE, cE, AG, cG, k0, k1, k2, k3, k4, k5, kf, _⟩ := HR1.out.cells
  clear k1 k2 k3 k4 kf
  have hb1 := hw1.mono (Nat.le_of_lt hblt)
  cases hst : r.started with
  | false =>
    rw [hst] at k5
    have HN := Lib.hid (show groupP r l = none by rw [HP.out, groupQ, hst]; rfl)
    have HB := Lib.hid hB
    have Hst := Lib.hid hst
    clear hB hst
    go_wp2_with fail
    go_ret
    unfold RdOut
    rw [HN.out]
    exact ⟨rfl, HR1.out, hb1, KeptT.of_below hw1⟩
  | true =>
    rw [hst] at k5
    by_cases hen : 0 < r.c.entries.length
    · have HN := Lib.hid (show groupP r l = none by rw [HP.out, groupQ, hst, decide_eq_true hen]; rfl)
      have HB := Lib.hid hB
      have Hst := Lib.hid hst
      clear hB hst
      go_wp2_with fail
      go_ret
      unfold RdOut
      rw [HN.out]
      exact ⟨rfl, HR1.out, hb1, KeptT.of_below hw1⟩
    · by_cases h4 : ps.length = 4
      · match ps, h4 with
        | [p0, p1, p2, p3], _ =>
          have e0 : w1.cell? ⟨w.heap.size, 0, none⟩ = some (.string ⟨p0.toArray⟩) := piece_cell hB (k := 0) (by simp)
          have e1 : w1.cell? ⟨w.heap.size, 1, none⟩ = some (.string ⟨p1.toArray⟩) := piece_cell hB (k := 1) (by simp)
          by_cases hp0 : p0 = wGroup
          · subst hp0
            have HSt := Lib.hid (strs_drop hB 2)
            have HNm := Lib.hid (fun w' => elName p1 w' (by have := Hple.out p1 (by simp); omega))
            have HNu := Lib.hid (elNums [p2, p3] (some ⟨w.heap.size, 2, none⟩) 2 w1 (strs_drop hB 2) HE1.out (by simp) (fun p hp => by have := Hple.out p (by simp at hp ⊢; right; right; exact hp); omega))
            have hsl := slice4 w.heap.size 2 (by omega)
            unfold NumsOut at HNu
            have e0 : w1.cell? ⟨w.heap.size, 0, none⟩ = some (.string ⟨#[64, 103, 114, 111, 117, 112]⟩) := e0
            cases hnm : nameB p1 with
            | false =>
              rw [hnm] at HNm
              have HN := Lib.hid (show groupP r l = none by rw [HP.out, groupQ, hst]; simp [piece, hnm])
              have HB := Lib.hid hB
              have Hst := Lib.hid hst
              have Hnm := Lib.hid hnm
              clear hB hst hnm
              go_wp2_with fail
              refine (HNm.out _).mono ?_
              rintro e w2 ⟨rfl, rfl⟩
              go_wp2_with fail
              go_ret
              unfold RdOut
              rw [HN.out]
              exact ⟨rfl, HR1.out, hb1, KeptT.of_below hw1⟩
            | true =>
              rw [hnm] at HNm
              cases hn : numsP [p2, p3] with
              | none =>
                rw [hn] at HNu
                have HN := Lib.hid (show groupP r l = none by rw [HP.out, groupQ, hst]; simp [piece, hnm, hn])
                have HB := Lib.hid hB
                have Hst := Lib.hid hst
                have Hn := Lib.hid hn
                have Hnm := Lib.hid hnm
                clear hB hst hn hnm
                go_wp2_with fail
                refine (HNm.out _).mono ?_
                rintro e w2 ⟨rfl, rfl⟩
                go_wp2_with fail
                refine HNu.out.mono ?_
                rintro e w2 ⟨rfl, hb2⟩
                go_wp2_with fail
                go_ret
                unfold RdOut
                rw [HN.out]
                exact ⟨rfl, HR1.out.keep hb2, hb1.trans (hb2.mono (by have := hw1.size; omega)), KeptT.of_below (bUp hw1 hb2)⟩
              | some ns =>
                rw [hn] at HNu
                have hnl := numsP_length _ hn
                match ns, hnl with
                | [n0, n1], _ =>
                  have HN := Lib.hid (show groupP r l = some ⟨⟨r.c.entries, r.c.groups ++ [⟨p1, n0, n1⟩], r.c.base, r.c.second, r.c.third⟩, r.started⟩ by rw [HP.out, groupQ, hst, decide_eq_false hen]; simp [piece, hnm, hn, nth])
                  have HB := Lib.hid hB
                  have Hst := Lib.hid hst
                  have Hn := Lib.hid hn
                  have Hnm := Lib.hid hnm
                  clear hB hst hn hnm
                  go_wp2_with fail
                  refine (HNm.out _).mono ?_
                  rintro e w2 ⟨rfl, rfl⟩
                  go_wp2_with fail
                  refine HNu.out.mono ?_
                  rintro e w2 ⟨A2, c2, rfl, hI2, hb2⟩
                  obtain ⟨b2, rfl, hge2, hlt2, hc2⟩ := hI2.at0 (by simp)
                  have i0 : w2.cell? ⟨b2, 0, none⟩ = some (.int .i64 n0) := hc2 0 (by simp)
                  have i1 : w2.cell? ⟨b2, 1, none⟩ = some (.int .i64 n1) := hc2 1 (by simp)
                  have f1 := cell_keep hb2 e1
                  have HR2 := Lib.hid (HR1.out.keep hb2)
                  obtain ⟨AE2, cE2, AG2, cG2, j0, j1, j2, j3, j4, j5, jf, hON, hOG, hbl⟩ := HR2.out.cells
                  have HON := Lib.hid hON
                  have HOG := Lib.hid hOG
                  have HBl := Lib.hid hbl
                  have hb02 := hb1.trans (hb2.mono (by have := hw1.size; omega))
                  have hsz2 := hb02.size
                  clear hc2 hI2 hbl hON hOG e0 e1 j0 j2 j3 j4 j5 k0 k5
                  have hbw : b < w2.heap.size := HBl.out.lt
                  have hww : w.heap.size < w2.heap.size := by have h1 := HB.out.lt; have h2 := hb2.size; omega
                  have hgl2 : r.c.groups.length + 1 ≤ 1000000 := by omega
                  have hbz : b ≤ w2.drew.heap.size := by have h := HBl.out.lt; exact Nat.le_of_lt h
                  go_wp2_with fail
                  go_region_law (refine stepG rfl (.tmp 54) (.tmp 65) rfl b rfl (HOG.out.keep (Below.refl _ _).drew) ⟨p1, n0, n1⟩ rfl hgl2 hbz ?_; intro v3 w3 HO3 HK3 hb3; have HB3 := Lib.hid (HK3.out b _ _ _ (HBl.out.keep (Below.refl _ _).drew) (by simp)); have t1 : w3.cell? ⟨b, 1, none⟩ = some (.slice AG2 r.c.groups.length cG2) := Lib.cell_of_heap HB3.out 1; have t2 : w3.frozen? ⟨b, 1, none⟩ = false := Lib.frozen_of_heap HB3.out 1; obtain ⟨A3, c3, rfl⟩ := HO3.out.form)
                  all_goals
                    go_wp2_with fail
                    go_ret
                    unfold RdOut
                    rw [HN.out]
                    have hB3 : Blk w3 b _ _ := HB3.out
                    have hO3 := HO3.out
                    rw [show (r.c.groups ++ [(⟨p1, n0, n1⟩ : GroupD)]).length = r.c.groups.length + 1 by simp] at hO3
                    exact ⟨rfl, ⟨_, _, hB3.put 1 _, ((HON.out.keep (Below.refl _ _).drew).keptT (HK3.out.mono (by simp))).keptT (KeptT.set hB3 (by decide) 1 _), hO3.keptT (KeptT.set hB3 (by decide) 1 _)⟩, (hb3 w (hb02.drew)).setCell (p := ⟨b, 1, none⟩) (Nat.le_refl _) _, (((KeptT.of_below (bUp hw1 hb2)).trans (KeptT.of_below (Below.refl _ _).drew)).trans (HK3.out.mono (by simp))).trans (KeptT.set hB3 (by decide) 1 _)⟩
          · have HN := Lib.hid (show groupP r l = none by rw [HP.out, groupQ, hst]; simp [piece, hp0])
            have hq : (p0 == [64, 103, 114, 111, 117, 112]) = false := by simp; exact hp0
            have HB := Lib.hid hB
            have Hst := Lib.hid hst
            have Hp0 := Lib.hid hp0
            clear hB hst hp0
            go_wp2_with fail
            go_ret
            unfold RdOut
            rw [HN.out]
            exact ⟨rfl, HR1.out, hb1, KeptT.of_below hw1⟩
      · have HN := Lib.hid (show groupP r l = none by rw [HP.out, groupQ, hst]; simp [h4])
        have hq : ((ps.length : Int) != 4) = true := by simp; omega
        have HB := Lib.hid hB
        have Hst := Lib.hid hst
        have H4 := Lib.hid h4
        clear hB hst h4
        go_wp2_with fail
        go_ret
        unfold RdOut
        rw [HN.out]
        exact ⟨rfl, HR1.out, hb1, KeptT.of_below hw1⟩
end Go.Proofs.YthogkokifiibnaaGreatDoor
