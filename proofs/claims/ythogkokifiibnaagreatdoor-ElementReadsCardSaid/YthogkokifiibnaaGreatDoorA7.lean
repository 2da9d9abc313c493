/- reader.base -/
import Derived.Test.YthogkokifiibnaaGreatDoorA6
namespace Go.Proofs.YthogkokifiibnaaGreatDoor
open Go.RowKit Go.Sort

theorem RdAt.set {w : World} {b : Nat} {r r' : RdD} {i : Nat} {u : Value} (h : RdAt w b r) (he : r'.c.entries = r.c.entries) (hg : r'.c.groups = r.c.groups) (hc : ∀ vE vG, (rdCells r vE vG).setIfInBounds i u = rdCells r' vE vG) : RdAt (w.setCell ⟨b, i, none⟩ u) b r' := by
  obtain ⟨vE, vG, h1, h2, h3⟩ := h
  refine ⟨vE, vG, by rw [← hc]; exact h1.put i u, ?_, ?_⟩
  · rw [he]
    exact h2.keptT (KeptT.set h1 (by decide) i u)
  · rw [hg]
    exact h3.keptT (KeptT.set h1 (by decide) i u)
theorem RdAt.cells {w : World} {b : Nat} {r : RdD} (h : RdAt w b r) : ∃ AE cE AG cG, w.cell? ⟨b, 0, none⟩ = some (.slice AE r.c.entries.length cE) ∧ w.cell? ⟨b, 1, none⟩ = some (.slice AG r.c.groups.length cG) ∧ w.cell? ⟨b, 2, none⟩ = some (.int .i64 r.c.base) ∧ w.cell? ⟨b, 3, none⟩ = some (.int .i64 r.c.second) ∧ w.cell? ⟨b, 4, none⟩ = some (.int .i64 r.c.third) ∧ w.cell? ⟨b, 5, none⟩ = some (.bool r.started) ∧
    (∀ i, w.frozen? ⟨b, i, none⟩ = false) ∧ OwnN w b (.slice AE r.c.entries.length cE) r.c.entries ∧ OwnG w b (.slice AG r.c.groups.length cG) r.c.groups ∧ Blk w b (rdCells r (.slice AE r.c.entries.length cE) (.slice AG r.c.groups.length cG)) 70 := by
  obtain ⟨vE, vG, h1, h2, h3⟩ := h
  obtain ⟨AE, cE, rfl⟩ := h2.form
  obtain ⟨AG, cG, rfl⟩ := h3.form
  exact ⟨AE, cE, AG, cG, h1.cell 0, h1.cell 1, h1.cell 2, h1.cell 3, h1.cell 4, h1.cell 5, fun i => h1.frozen i, h2, h3, h1⟩
def RdAt.cs (w : World) (b : Nat) : Array Value := match w.heap[b]? with | some (.cells cs _ _) => cs | _ => #[]
theorem RdAt.blk {w : World} {b : Nat} {r : RdD} (h : RdAt w b r) : Blk w b (RdAt.cs w b) 70 := by
  obtain ⟨vE, vG, h1, _, _⟩ := h
  have e : RdAt.cs w b = rdCells r vE vG := by unfold RdAt.cs; rw [show w.heap[b]? = _ from h1]
  rw [e]
  exact h1
def RdOut (b : Nat) (ro : Option RdD) (r0 : RdD) (w : World) (e : Ending) (w' : World) : Prop :=
  match ro with
  | some r' => e = .returned (.bool true) ∧ RdAt w' b r' ∧ Below b w w' ∧ KeptT [39] w w'
  | none => e = .returned (.bool false) ∧ RdAt w' b r0 ∧ Below b w w' ∧ KeptT [39] w w'

/-- the words behind the first -/
theorem strs_drop {w : World} {g : Nat} {ps : List (List UInt8)} (h : Blk w g (strCellsOf ps) 9) (j : Nat) : StrsAt w (some ⟨g, j, none⟩) (ps.drop j) := by
  intro _
  refine ⟨g, j, rfl, h.lt, fun i hi => ?_⟩
  have hi' : j + i < ps.length := by simp at hi; omega
  rw [piece_cell h hi']
  simp [piece]
theorem slice4 (g j : Nat) (hj : j < 4) (w : World) : (Instr.slice 74 (.slice (some ⟨g, 0, none⟩) 4 4) (some (.int .i64 j)) none none).run Tryz.prog w = .ok (.slice (some ⟨g, j, none⟩) (4 - j) (4 - j)) w := by
  obtain rfl | rfl | rfl | rfl : j = 0 ∨ j = 1 ∨ j = 2 ∨ j = 3 := by omega
  all_goals kernel_rfl

theorem OwnI.at0 {w : World} {base : Nat} {A : Option Addr} {c : Nat} {zs : List Int} (h : OwnI w base (.slice A zs.length c) zs) (hz : 0 < zs.length) : ∃ g, A = some ⟨g, 0, none⟩ ∧ base ≤ g ∧ g < w.heap.size ∧ ∀ j, j < zs.length → w.cell? ⟨g, j, none⟩ = some (.int .i64 (nth zs j)) := by
  obtain ⟨g, cap, hv, hb, hlt⟩ := World.ownsRow.form h hz
  have hA : A = some ⟨g, 0, none⟩ := by injection hv
  subst hA
  refine ⟨g, rfl, hb, hlt, fun j hj => ?_⟩
  have := World.ownsRow.cells h (g := g) rfl j (.int .i64 (nth zs j)) (by simp [intVals, nth, hj])
  rwa [Go.WideShapes.add_plain, Nat.zero_add] at this
def baseQ (r : RdD) (ps : List (List UInt8)) : Option RdD :=
  if r.started || !decide (ps.length = 4) || !decide (piece ps 0 = wBase) then none
  else match numsP (ps.drop 1) with
    | some ns => some ⟨⟨r.c.entries, r.c.groups, nth ns 0, nth ns 1, nth ns 2⟩, true⟩
    | none => none
def groupQ (r : RdD) (ps : List (List UInt8)) : Option RdD :=
  if !r.started || decide (0 < r.c.entries.length) || !decide (ps.length = 4) || !decide (piece ps 0 = wGroup) || !nameB (piece ps 1) then none
  else match numsP (ps.drop 2) with
    | some ns => some ⟨⟨r.c.entries, r.c.groups ++ [⟨piece ps 1, nth ns 0, nth ns 1⟩], r.c.base, r.c.second, r.c.third⟩, r.started⟩
    | none => none

set_option maxHeartbeats 8000000 in
set_option maxRecDepth 100000 in
theorem elBase (r : RdD) (b : Nat) (l : List UInt8) (w : World) (hR : RdAt w b r) (hE : EnvF w) (hl : l.length ≤ 65536) :
    Calls Tryz.prog 39 #[.pointer (some ⟨b, 0, none⟩), .string ⟨l.toArray⟩] w (RdOut b (baseP r l) r w) := by
  have HS := Lib.hid (csSplit 32 l w hE.env (by omega))
  have hple := splitL_piece_le 32 l
  have hpl : (splitL 32 l).length ≤ 65537 := by rw [splitL_length]; have := List.count_le_length (a := (32 : UInt8)) (l := l); omega
  have HP := Lib.hid (show baseP r l = baseQ r (splitL 32 l) from rfl)
  have hblt := hR.lt
  generalize splitL 32 l = ps at HP HS hple hpl
  have HE := Lib.hid hE
  have Hple := Lib.hid hple
  have HR := Lib.hid hR
  clear hE hple hR
  go_enter Tryz.func39, Tryz.ntmps39
  go_wp2_with fail
  refine HS.out.mono ?_
  rintro e w1 ⟨rfl, rfl⟩
  have hB := Blk.new w (strCellsOf ps) 9
  have hw1 : Below w.heap.size w (w.alloc (.cells (strCellsOf ps) 9)) := bBox _ _
  change Blk (w.alloc (.cells (ps.map fun p => Value.string ⟨p.toArray⟩).toArray 9)) w.heap.size (strCellsOf ps) 9 at hB
  change Below w.heap.size w (w.alloc (.cells (ps.map fun p => Value.string ⟨p.toArray⟩).toArray 9)) at hw1
  generalize w.alloc (.cells (ps.map fun p => Value.string ⟨p.toArray⟩).toArray 9) = w1 at hB hw1 ⊢
  have HR1 := Lib.hid (HR.out.keep hw1)
  have HE1 := Lib.hid (HE.out.keep hw1)
  obtain ⟨AE, cE, AG, cG, k0, k1, k2, k3, k4, k5, kf, _⟩ := HR1.out.cells
  clear k0 k1 k2 k3 k4 kf
  have hb1 := hw1.mono (Nat.le_of_lt hblt)
  cases hst : r.started with
  | true =>
    rw [hst] at k5
    have HN := Lib.hid (show baseP r l = none by rw [HP.out, baseQ, hst]; rfl)
    have HB := Lib.hid hB
    have Hst := Lib.hid hst
    clear hB hst
    go_wp2_with fail
    go_ret
    unfold RdOut
    rw [HN.out]
    exact ⟨rfl, HR1.out, hb1, KeptT.of_below hw1⟩
  | false =>
    rw [hst] at k5
    by_cases h4 : ps.length = 4
    · match ps, h4 with
      | [p0, p1, p2, p3], _ =>
        have e0 : w1.cell? ⟨w.heap.size, 0, none⟩ = some (.string ⟨p0.toArray⟩) := piece_cell hB (k := 0) (by simp)
        by_cases hp0 : p0 = wBase
        · subst hp0
          have HSt := Lib.hid (strs_drop hB 1)
          have HNu := Lib.hid (elNums [p1, p2, p3] (some ⟨w.heap.size, 1, none⟩) 3 w1 (strs_drop hB 1) HE1.out (by simp) (fun p hp => by have := Hple.out p (by simp at hp ⊢; right; exact hp); omega))
          have hsl := slice4 w.heap.size 1 (by omega)
          unfold NumsOut at HNu
          have e0 : w1.cell? ⟨w.heap.size, 0, none⟩ = some (.string ⟨#[64, 98, 97, 115, 101]⟩) := e0
          cases hn : numsP [p1, p2, p3] with
          | none =>
            rw [hn] at HNu
            have HN := Lib.hid (show baseP r l = none by rw [HP.out, baseQ, hst]; simp [piece, hn])
            have HB := Lib.hid hB
            have Hst := Lib.hid hst
            have Hn := Lib.hid hn
            clear hB hst hn
            go_wp2_with fail
            refine HNu.out.mono ?_
            rintro e w2 ⟨rfl, hb2⟩
            go_wp2_with fail
            go_ret
            unfold RdOut
            rw [HN.out]
            exact ⟨rfl, HR1.out.keep hb2, hb1.trans (hb2.mono (by have := hw1.size; omega)), KeptT.of_below (bUp hw1 hb2)⟩
          | some ns =>
            rw [hn] at HNu
            have hnl := numsP_length _ hn
            match ns, hnl with
            | [n0, n1, n2], _ =>
              have HN := Lib.hid (show baseP r l = some ⟨⟨r.c.entries, r.c.groups, n0, n1, n2⟩, true⟩ by rw [HP.out, baseQ, hst]; simp [piece, hn, nth])
              have HB := Lib.hid hB
              have Hst := Lib.hid hst
              have Hn := Lib.hid hn
              clear hB hst hn
              go_wp2_with fail
              refine HNu.out.mono ?_
              rintro e w2 ⟨A2, c2, rfl, hI2, hb2⟩
              obtain ⟨b2, rfl, hge2, hlt2, hc2⟩ := hI2.at0 (by simp)
              have i0 : w2.cell? ⟨b2, 0, none⟩ = some (.int .i64 n0) := hc2 0 (by simp)
              have i1 : w2.cell? ⟨b2, 1, none⟩ = some (.int .i64 n1) := hc2 1 (by simp)
              have i2 : w2.cell? ⟨b2, 2, none⟩ = some (.int .i64 n2) := hc2 2 (by simp)
              have HR2 := Lib.hid (HR1.out.keep hb2)
              obtain ⟨AE2, cE2, AG2, cG2, j0, j1, j2, j3, j4, j5, jf, _, _, hbl⟩ := HR2.out.cells
              have hne : b ≠ b2 := by have := hw1.size; omega
              have hne' : b2 ≠ b := fun e => hne e.symm
              have hb02 := hb1.trans (hb2.mono (by have := hw1.size; omega))
              clear hc2 hI2 hbl
              go_wp2_with fail
              go_region
              go_wp2_with fail
              go_ret
              unfold RdOut
              rw [HN.out]
              have HR3 := RdAt.set (r' := ⟨r.c, true⟩) (i := 5) (u := .bool true) HR2.out rfl rfl (fun _ _ => rfl)
              have HR4 := HR3.keep (Below.refl _ _).drew
              have HR5 := RdAt.set (r' := ⟨⟨r.c.entries, r.c.groups, n0, r.c.second, r.c.third⟩, true⟩) (i := 2) (u := .int .i64 n0) HR4 rfl rfl (fun _ _ => rfl)
              have HR6 := RdAt.set (r' := ⟨⟨r.c.entries, r.c.groups, n0, n1, r.c.third⟩, true⟩) (i := 3) (u := .int .i64 n1) HR5 rfl rfl (fun _ _ => rfl)
              have HR7 := RdAt.set (r' := ⟨⟨r.c.entries, r.c.groups, n0, n1, n2⟩, true⟩) (i := 4) (u := .int .i64 n2) HR6 rfl rfl (fun _ _ => rfl)
              exact ⟨rfl, HR7, (((((hb02.setCell (p := ⟨b, 5, none⟩) (Nat.le_refl _) _).drew).setCell (p := ⟨b, 2, none⟩) (Nat.le_refl _) _).setCell (p := ⟨b, 3, none⟩) (Nat.le_refl _) _).setCell (p := ⟨b, 4, none⟩) (Nat.le_refl _) _), (((((KeptT.of_below (bUp hw1 hb2)).trans (KeptT.set HR2.out.blk (by decide) 5 _)).trans (KeptT.of_below (Below.refl _ _).drew)).trans (KeptT.set HR4.blk (by decide) 2 _)).trans (KeptT.set HR5.blk (by decide) 3 _)).trans (KeptT.set HR6.blk (by decide) 4 _)⟩
        · have HN := Lib.hid (show baseP r l = none by rw [HP.out, baseQ, hst]; simp [piece, hp0])
          have hq : (p0 == [64, 98, 97, 115, 101]) = false := by simp; exact hp0
          have HB := Lib.hid hB
          have Hst := Lib.hid hst
          have Hp0 := Lib.hid hp0
          clear hB hst hp0
          go_wp2_with fail
          go_ret
          unfold RdOut
          rw [HN.out]
          exact ⟨rfl, HR1.out, hb1, KeptT.of_below hw1⟩
    · have HN := Lib.hid (show baseP r l = none by rw [HP.out, baseQ, hst]; simp [h4])
      have hq : ((ps.length : Int) != 4) = true := by simp; omega
      have HB := Lib.hid hB
      have Hst := Lib.hid hst
      have H4 := Lib.hid h4
      clear hB hst h4
      go_wp2_with fail
      go_ret
      unfold RdOut
      rw [HN.out]
      exact ⟨rfl, HR1.out, hb1, KeptT.of_below hw1⟩
end Go.Proofs.YthogkokifiibnaaGreatDoor
