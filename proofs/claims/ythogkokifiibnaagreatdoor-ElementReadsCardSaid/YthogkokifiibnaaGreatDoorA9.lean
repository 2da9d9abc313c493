/- reader.entry The first error of a collation, step by step. Plain. checkFile -/
import Derived.Test.YthogkokifiibnaaGreatDoorA7
import Derived.Test.YthogkokifiibnaaGreatDoorA6
namespace Go.Proofs.YthogkokifiibnaaGreatDoor
open Go.RowKit Go.Sort

/-- strings.Cut at two bytes -/
theorem cutSemi (l : List UInt8) (w : World) (hE : Env w) (hl : l.length < 4294967281) :
    Calls Tryz.prog 37 #[.string ⟨l.toArray⟩, .string ⟨#[59, 32]⟩] w fun e w' => e = .returned (.tuple #[.string ⟨(Lib.cut l [59, 32]).1.toArray⟩, .string ⟨(Lib.cut l [59, 32]).2.1.toArray⟩, .bool (Lib.cut l [59, 32]).2.2]) ∧ Below w.heap.size w w' := by
  obtain ⟨m, hm⟩ := hE.mx
  refine (Tryz.strings_Cut ⟨l.toArray⟩ ⟨#[59, 32]⟩ m w hl hm).mono ?_
  rintro e w' ⟨rfl, n, rfl⟩
  exact ⟨rfl, below_drewN n⟩
theorem cut_len (l s : List UInt8) : (Lib.cut l s).1.length ≤ l.length ∧ (Lib.cut l s).2.1.length ≤ l.length := by
  unfold Lib.cut
  split
  · simp
    omega
  · simp
/-- what entry gives back -/
def EntOut (b : Nat) (eo : Option EntryD) (r0 : RdD) (w : World) (e : Ending) (w' : World) : Prop :=
  match eo with
  | some x => e = .returned (.bool true) ∧ RdAt w' b (addN r0 x) ∧ Below b w w' ∧ KeptT [39] w w'
  | none => e = .returned (.bool false) ∧ RdAt w' b r0 ∧ Below b w w' ∧ KeptT [39] w w'

set_option maxHeartbeats 8000000 in
set_option maxRecDepth 100000 in
theorem elEntry (r : RdD) (b : Nat) (l : List UInt8) (w : World) (hR : RdAt w b r) (hE : EnvF w) (hl : l.length ≤ 65536) (hel : r.c.entries.length ≤ 100000) :
    Calls Tryz.prog 41 #[.pointer (some ⟨b, 0, none⟩), .string ⟨l.toArray⟩] w (EntOut b (entryP r l) r w) := by
  have HC := Lib.hid (cutSemi l w hE.env (by omega))
  have hcl := cut_len l [59, 32]
  have hP : entryP r l = if r.started then (if (Lib.cut l [59, 32]).2.2 = false then none else if (parseCodesR (Lib.cut l [59, 32]).1).2 ≠ 0 then none else (readE (Lib.cut l [59, 32]).2.1).map fun es => ⟨(parseCodesR (Lib.cut l [59, 32]).1).1, es⟩) else none := rfl
  generalize (Lib.cut l [59, 32]).1 = lf at HC hcl hP
  generalize (Lib.cut l [59, 32]).2.1 = rt at HC hcl hP
  generalize (Lib.cut l [59, 32]).2.2 = ok at HC hP
  obtain ⟨hcl1, hcl2⟩ := hcl
  have HP := Lib.hid hP
  clear hP
  have hblt := hR.lt
  have HE := Lib.hid hE
  have HR := Lib.hid hR
  clear hE hR
  go_enter Tryz.func41, Tryz.ntmps41
  go_wp2_with fail
  refine HC.out.mono ?_
  rintro e w1 ⟨rfl, hw1⟩
  have HR1 := Lib.hid (HR.out.keep hw1)
  have HE1 := Lib.hid (HE.out.keep hw1)
  obtain ⟨AE, cE, AG, cG, k0, k1, k2, k3, k4, k5, kf, _⟩ := HR1.out.cells
  clear k0 k1 k2 k3 k4 kf
  have hb1 := hw1.mono (Nat.le_of_lt hblt)
  have hsz1 := hw1.size
  cases hst : r.started with
  | false =>
    rw [hst] at k5
    have HN := Lib.hid (show entryP r l = none by rw [HP.out, hst]; rfl)
    have Hst := Lib.hid hst
    clear hst
    go_wp2_with fail
    go_ret
    unfold EntOut
    rw [HN.out]
    exact ⟨rfl, HR1.out, hb1, KeptT.of_below hw1⟩
  | true =>
    rw [hst] at k5
    cases ok with
    | false =>
      have HN := Lib.hid (show entryP r l = none by rw [HP.out, hst]; rfl)
      have Hst := Lib.hid hst
      clear hst
      go_wp2_with fail
      go_ret
      unfold EntOut
      rw [HN.out]
      exact ⟨rfl, HR1.out, hb1, KeptT.of_below hw1⟩
    | true =>
      have HPC := Lib.hid (esParseCodes lf w1 HE1.out.env (by omega))
      unfold IntsErr at HPC
      by_cases hc : (parseCodesR lf).2 = 0
      · have HRd := Lib.hid (fun w' => elRead rt w' (by omega))
        unfold ReadOut at HRd
        cases hr : readE rt with
        | none =>
          rw [hr] at HRd
          have HN := Lib.hid (show entryP r l = none by rw [HP.out, hst, hr]; simp)
          rw [hc] at HPC
          generalize (parseCodesR lf).1 = cs at HPC
          have Hst := Lib.hid hst
          have Hc := Lib.hid hc
          have Hr := Lib.hid hr
          clear hst hc hr
          go_wp2_with fail
          refine HPC.out.mono ?_
          rintro e w2 ⟨A2, c2, rfl, hO2, hb2⟩
          go_wp2_with fail
          refine (HRd.out _).mono ?_
          rintro e w3 ⟨rfl, hb3⟩
          go_wp2_with fail
          go_ret
          unfold EntOut
          rw [HN.out]
          exact ⟨rfl, (HR1.out.keep hb2).keep hb3, hb1.trans ((bUp hb2 hb3).mono (by omega)), KeptT.of_below (bUp hw1 (bUp hb2 hb3))⟩
        | some es =>
          rw [hr] at HRd
          have hlen := readE_len rt.length (Nat.le_refl _) hr
          have HN := Lib.hid (show entryP r l = some ⟨(parseCodesR lf).1, es⟩ by rw [HP.out, hst, hr]; simp [hc])
          rw [hc] at HPC
          generalize (parseCodesR lf).1 = cs at HPC HN
          have Hst := Lib.hid hst
          have Hc := Lib.hid hc
          have Hr := Lib.hid hr
          have Hlen := Lib.hid hlen
          clear hst hc hr hlen
          go_wp2_with fail
          refine HPC.out.mono ?_
          rintro e w2 ⟨A2, c2, rfl, hO2, hb2⟩
          have HO2 := Lib.hid hO2
          clear hO2
          go_wp2_with fail
          refine (HRd.out _).mono ?_
          rintro e w3 ⟨⟨A3, c3, rfl, hO3⟩, hb3⟩
          have HO3 := Lib.hid hO3
          clear hO3
          have HR3 := Lib.hid ((HR1.out.keep hb2).keep hb3)
          obtain ⟨AE2, cE2, AG2, cG2, j0, j1, j2, j3, j4, j5, jf, hON, hOG, hbl⟩ := HR3.out.cells
          have HON := Lib.hid hON
          have HOG := Lib.hid hOG
          have HBl := Lib.hid hbl
          have hb03 := hb1.trans ((bUp hb2 hb3).mono (by omega))
          have hbw : b ≤ w3.heap.size := Nat.le_of_lt hbl.lt
          clear hbl hON hOG j1 j2 j3 j4 j5 jf k5
          go_wp2_with (at_builtin; refine wpN rfl _ _ rfl b rfl HON.out ⟨cs, es⟩ (CdB.of_own (HO2.out.keep hb3)) (ElB.of_own HO3.out) rfl ?hl6 ?hb6 ?_)
          case hl6 => omega
          case hb6 => exact hbw
          intro v6 w6 HO6 HK6 hb6
          have hB6 : Blk w6 b _ _ := HK6.out b _ _ _ HBl.out (by simp)
          have t1 : w6.cell? ⟨b, 0, none⟩ = some (.slice AE2 r.c.entries.length cE2) := hB6.cell 0
          have t2 : w6.frozen? ⟨b, 0, none⟩ = false := hB6.frozen 0
          obtain ⟨A6, c6, rfl⟩ := HO6.out.form
          have HB6 := Lib.hid hB6
          clear hB6
          go_wp2_with fail
          go_ret
          unfold EntOut
          rw [HN.out]
          have hO6 := HO6.out
          rw [show (r.c.entries ++ [(⟨cs, es⟩ : EntryD)]).length = r.c.entries.length + 1 by simp] at hO6
          exact ⟨rfl, ⟨_, _, HB6.out.put 0 _, hO6.keptT (KeptT.set HB6.out (by decide) 0 _), (HOG.out.keptT (HK6.out.mono (by simp))).keptT (KeptT.set HB6.out (by decide) 0 _)⟩, (hb6 w hb03).setCell (p := ⟨b, 0, none⟩) (Nat.le_refl _) _, ((KeptT.of_below (bUp hw1 (bUp hb2 hb3))).trans (HK6.out.mono (by simp))).trans (KeptT.set HB6.out (by decide) 0 _)⟩
      · have HN := Lib.hid (show entryP r l = none by rw [HP.out, hst]; simp [hc])
        have hne : ((parseCodesR lf).2 != 0) = true := by simp [hc]
        generalize (parseCodesR lf).2 = ce at HPC hne
        generalize (parseCodesR lf).1 = cs at HPC
        have Hst := Lib.hid hst
        have Hc := Lib.hid hc
        clear hst hc
        go_wp2_with fail
        refine HPC.out.mono ?_
        rintro e w2 ⟨A2, c2, rfl, hO2, hb2⟩
        go_wp2_with fail
        go_ret
        unfold EntOut
        rw [HN.out]
        exact ⟨rfl, HR1.out.keep hb2, hb1.trans (hb2.mono (by omega)), KeptT.of_below (bUp hw1 hb2)⟩
end Go.Proofs.YthogkokifiibnaaGreatDoor
namespace Go.Proofs.YthogkokifiibnaaGreatDoor
open Go.RowKit Go.Sort

theorem take_bad {α : Type} {p : α → Bool} {l : List α} {k : Nat} {d : α} (h : l[k]? = some d) (hd : p d = false) : l.all p = false := by
  rw [← Bool.not_eq_true]
  intro h'
  have := List.all_eq_true.1 h' d (List.mem_of_getElem? h)
  rw [hd] at this
  cases this
theorem take_good {α : Type} {p : α → Bool} {l : List α} {k : Nat} {d : α} (h : l[k]? = some d) (hk : (l.take k).all p = true) (hd : p d = true) : (l.take (k + 1)).all p = true := by
  rw [List.take_add_one, h, List.all_append, hk]
  simp [hd]
def okG (g : GroupD) : Bool := !negG g
def okM (g : GroupD) : Bool := nameB g.name
def okV (e : EntryD) : Bool := allValid e.codes
def okE (e : EntryD) : Bool := chksE e.els == 0
theorem any_not {α : Type} {p q : α → Bool} {l : List α} (h : ∀ x, q x = !p x) : l.any q = !l.all p := by
  induction l with
  | nil => rfl
  | cons a r ih => simp [h, ih, List.any_cons, List.all_cons, Bool.not_and]
theorem chkF_eq (es : List EntryD) (gs : List GroupD) (b s t : Int) : chkF ⟨es, gs, b, s, t⟩ = if b < 0 ∨ s < 0 ∨ t < 0 then 1 else if gs.all okG = false then 1 else if gs.all okM = false then 6 else if es.all okV = false then 1 else match es.find? (fun e => chksE e.els != 0) with | some e => chksE e.els | none => 0 := by
  unfold chkF
  dsimp only
  rw [any_not (p := okG) (q := negG) (fun x => by simp [okG]), any_not (p := okM) (q := fun g => !nameB g.name) (fun _ => rfl), any_not (p := okV) (q := fun e => !allValid e.codes) (fun _ => rfl)]
  simp only [Bool.not_eq_true']
  rfl
theorem chkF_neg {es : List EntryD} {gs : List GroupD} {b s t : Int} (h : b < 0 ∨ s < 0 ∨ t < 0) : chkF ⟨es, gs, b, s, t⟩ = 1 := by rw [chkF_eq, if_pos h]
theorem chkF_g {es : List EntryD} {gs : List GroupD} {b s t : Int} (h : gs.all okG = false) : chkF ⟨es, gs, b, s, t⟩ = 1 := by rw [chkF_eq, if_pos h]; split <;> rfl
theorem chkF_m {es : List EntryD} {gs : List GroupD} {b s t : Int} (h0 : ¬ (b < 0 ∨ s < 0 ∨ t < 0)) (h1 : gs.all okG = true) (h : gs.all okM = false) : chkF ⟨es, gs, b, s, t⟩ = 6 := by rw [chkF_eq, if_neg h0, if_neg (by simp [h1]), if_pos h]
theorem chkF_v {es : List EntryD} {gs : List GroupD} {b s t : Int} (h0 : ¬ (b < 0 ∨ s < 0 ∨ t < 0)) (h1 : gs.all okG = true) (h2 : gs.all okM = true) (h : es.all okV = false) : chkF ⟨es, gs, b, s, t⟩ = 1 := by rw [chkF_eq, if_neg h0, if_neg (by simp [h1]), if_neg (by simp [h2]), if_pos h]
theorem chkF_e {es : List EntryD} {gs : List GroupD} {b s t : Int} (h0 : ¬ (b < 0 ∨ s < 0 ∨ t < 0)) (h1 : gs.all okG = true) (h2 : gs.all okM = true) (h3 : es.all okV = true) {k : Nat} {d : EntryD} (h : es[k]? = some d) (hk : (es.take k).all okE = true) (hd : ¬ chksE d.els = 0) : chkF ⟨es, gs, b, s, t⟩ = chksE d.els := by
  rw [chkF_eq, if_neg h0, if_neg (by simp [h1]), if_neg (by simp [h2]), if_neg (by simp [h3])]
  have hlt : k < es.length := (List.getElem?_eq_some_iff.1 h).1
  have e : es = es.take k ++ d :: es.drop (k + 1) := by
    have := List.take_append_drop k es
    rw [List.drop_eq_getElem_cons hlt, (List.getElem?_eq_some_iff.1 h).2] at this
    exact this.symm
  have hf : es.find? (fun e => chksE e.els != 0) = some d := by
    rw [e, List.find?_append, List.find?_eq_none.2 (fun x hx => by have := List.all_eq_true.1 hk x hx; unfold okE at this; simp at this; simp [this]), List.find?_cons, show (chksE d.els != 0) = true by simp [hd]]
    rfl
  rw [hf]
theorem chkF_o {es : List EntryD} {gs : List GroupD} {b s t : Int} (h0 : ¬ (b < 0 ∨ s < 0 ∨ t < 0)) (h1 : gs.all okG = true) (h2 : gs.all okM = true) (h3 : es.all okV = true) (h4 : es.all okE = true) : chkF ⟨es, gs, b, s, t⟩ = 0 := by
  rw [chkF_eq, if_neg h0, if_neg (by simp [h1]), if_neg (by simp [h2]), if_neg (by simp [h3]), List.find?_eq_none.2 (fun x hx => by have := List.all_eq_true.1 h4 x hx; unfold okE at this; simp at this; simp [this])]
end Go.Proofs.YthogkokifiibnaaGreatDoor
namespace Go.Proofs.YthogkokifiibnaaGreatDoor
open Go.RowKit Go.Sort

set_option maxHeartbeats 16000000 in
set_option maxRecDepth 100000 in
theorem elCheckFile (es : List EntryD) (gs : List GroupD) (b s t : Int) (AE AG : Option Addr) (cE cG : Nat) (w : World) (hN : EntsAt w AE es) (hG : GroupsAt w AG gs) (hne : es.length ≤ 100000) (hng : gs.length ≤ 100000) (hcl : ∀ e ∈ es, e.codes.length ≤ 100000) (hll : ∀ e ∈ es, e.els.length ≤ 100000) (hml : ∀ g ∈ gs, g.name.length ≤ 9223372036854775807) :
    Calls Tryz.prog 30 #[.agg #[.slice AE es.length cE, .slice AG gs.length cG, .int .i64 b, .int .i64 s, .int .i64 t]] w fun e w' => e = .returned (.int .i64 (chkF ⟨es, gs, b, s, t⟩)) ∧ Below w.heap.size w w' := by
  by_cases hneg : b < 0 ∨ s < 0 ∨ t < 0
  · have HR := Lib.hid (chkF_neg (es := es) (gs := gs) hneg)
    have HN := Lib.hid hN
    have HG := Lib.hid hG
    have Hcl := Lib.hid hcl
    have Hll := Lib.hid hll
    have Hml := Lib.hid hml
    clear hN hG hcl hll hml
    by_cases h1 : b < 0
    · have d1 : decide (b < 0) = true := decide_eq_true h1
      have Hneg := Lib.hid hneg
      have H1 := Lib.hid h1
      clear hneg h1
      go_enter Tryz.func30, Tryz.ntmps30
      go_wp2_with fail
      go_ret
      exact ⟨by rw [HR.out]; rfl, bBox w _⟩
    · have d1 : decide (b < 0) = false := decide_eq_false h1
      by_cases h2 : s < 0
      · have d2 : decide (s < 0) = true := decide_eq_true h2
        have Hneg := Lib.hid hneg
        have H1 := Lib.hid h1
        have H2 := Lib.hid h2
        clear hneg h1 h2
        go_enter Tryz.func30, Tryz.ntmps30
        go_wp2_with fail
        go_ret
        exact ⟨by rw [HR.out]; rfl, bBox w _⟩
      · have d2 : decide (s < 0) = false := decide_eq_false h2
        have d3 : decide (t < 0) = true := decide_eq_true (by omega)
        have Hneg := Lib.hid hneg
        have H1 := Lib.hid h1
        have H2 := Lib.hid h2
        clear hneg h1 h2
        go_enter Tryz.func30, Tryz.ntmps30
        go_wp2_with fail
        go_ret
        exact ⟨by rw [HR.out]; rfl, bBox w _⟩
  · have d1 : decide (b < 0) = false := decide_eq_false (by omega)
    have d2 : decide (s < 0) = false := decide_eq_false (by omega)
    have d3 : decide (t < 0) = false := decide_eq_false (by omega)
    have HF1 := Lib.hid (fun h => chkF_g (es := es) (gs := gs) (b := b) (s := s) (t := t) h)
    have HF2 := Lib.hid (fun h1 h => chkF_m (es := es) (gs := gs) (b := b) (s := s) (t := t) hneg h1 h)
    have HF3 := Lib.hid (fun h1 h2 h => chkF_v (es := es) (gs := gs) (b := b) (s := s) (t := t) hneg h1 h2 h)
    have HF4 := Lib.hid (fun h1 h2 h3 k d h hk hd => chkF_e (es := es) (gs := gs) (b := b) (s := s) (t := t) hneg h1 h2 h3 (k := k) (d := d) h hk hd)
    have HF5 := Lib.hid (fun h1 h2 h3 h4 => chkF_o (es := es) (gs := gs) (b := b) (s := s) (t := t) hneg h1 h2 h3 h4)
    generalize chkF ⟨es, gs, b, s, t⟩ = cf at HF1 HF2 HF3 HF4 HF5
    have Hneg := Lib.hid hneg
    have HN := Lib.hid hN
    have HG := Lib.hid hG
    have Hcl := Lib.hid hcl
    have Hll := Lib.hid hll
    have Hml := Lib.hid hml
    clear hneg hN hG hcl hll hml
    go_enter Tryz.func30, Tryz.ntmps30
    go_wp2_with fail
    have hB := Blk.new w #[.slice AE es.length cE, .slice AG gs.length cG, .int .i64 b, .int .i64 s, .int .i64 t] 35
    have hw1 := bBox w (.cells #[.slice AE es.length cE, .slice AG gs.length cG, .int .i64 b, .int .i64 s, .int .i64 t] 35)
    generalize w.alloc (.cells #[.slice AE es.length cE, .slice AG gs.length cG, .int .i64 b, .int .i64 s, .int .i64 t] 35) = w1 at hB hw1 ⊢
    have HN1 := Lib.hid (HN.out.keep hw1)
    have HG1 := Lib.hid (HG.out.keep hw1)
    have HB := Lib.hid hB
    clear hB
    clear HN HG
    go_loopw [30] (fun i wr => ∃ k : Nat, k ≤ gs.length ∧ i = .int .i64 k ∧ Hid ((gs.take k).all okG = true) ∧ Below w1.heap.size w1 wr) (fun i _ => gs.length - (intOf i).toNat)
    case atStart => exact ⟨0, Nat.zero_le _, rfl, Lib.hid rfl, Below.refl _ _⟩
    case round =>
      obtain ⟨k, hk, rfl, HK, hbr⟩ := hrel
      by_cases hlt : k < gs.length
      · obtain ⟨b1, o1, rfl, h1, p0, p1, p2⟩ := (HG1.out.keep hbr).at_ hlt
        have hki : (k : Int) < gs.length := by omega
        have hbad := fun h => HF1.out (take_bad (groupAt_get hlt) h)
        have hgood := fun h => take_good (groupAt_get hlt) HK.out h
        generalize groupAt gs k = d at p0 p1 p2 hbad hgood
        obtain ⟨nm, lo, hi⟩ := d
        dsimp only at p0 p1 p2
        by_cases hlo : lo < 0
        · have e1 : decide (lo < 0) = true := decide_eq_true hlo
          have HR := Lib.hid (hbad (by simp [okG, negG, hlo]))
          clear hbad hgood
          have Hlo := Lib.hid hlo
          clear hlo
          go_wp2_with fail
          go_ret
          exact ⟨by rw [HR.out]; rfl, bUp hw1 (bUp hbr (bBox wr _))⟩
        · have e1 : decide (lo < 0) = false := decide_eq_false hlo
          by_cases hhi : hi < 0
          · have e2 : decide (hi < 0) = true := decide_eq_true hhi
            have HR := Lib.hid (hbad (by simp [okG, negG, hhi]))
            clear hbad hgood
            have Hlo := Lib.hid hlo
            have Hhi := Lib.hid hhi
            clear hlo hhi
            go_wp2_with fail
            go_ret
            exact ⟨by rw [HR.out]; rfl, bUp hw1 (bUp hbr (bBox wr _))⟩
          · have e2 : decide (hi < 0) = false := decide_eq_false hhi
            have HR := Lib.hid (hgood (by simp [okG, negG]; omega))
            clear hbad hgood
            have Hlo := Lib.hid hlo
            have Hhi := Lib.hid hhi
            clear hlo hhi
            go_wp2_with fail
            go_roundw
            case rel => exact ⟨k + 1, by omega, by go_num, HR, bUp hbr (bBox wr _)⟩
            case measure => simp [intOf]; omega
      · obtain rfl : k = gs.length := by omega
        have hki : ¬ (gs.length : Int) < gs.length := by omega
        have hA1 := HK.out
        rw [List.take_length] at hA1
        have q1 : wr.cell? ⟨w.heap.size, 1, none⟩ = some (.slice AG gs.length cG) := (HB.out.keep hbr).cell 1
        have HA1 := Lib.hid hA1
        clear hA1
        clear HF1 HK
        go_wp2_with fail
        clear q1
        go_loopw [46] (fun i wr => ∃ k : Nat, k ≤ gs.length ∧ i = .int .i64 k ∧ Hid ((gs.take k).all okM = true) ∧ Below w1.heap.size w1 wr) (fun i _ => gs.length - (intOf i).toNat)
        case atStart => exact ⟨0, Nat.zero_le _, rfl, Lib.hid rfl, hbr⟩
        case round =>
          clear hbr
          obtain ⟨k, hk, rfl, HK, hbr⟩ := hrel
          by_cases hlt : k < gs.length
          · obtain ⟨b1, o1, rfl, h1, p0, p1, p2⟩ := (HG1.out.keep hbr).at_ hlt
            have hki : (k : Int) < gs.length := by omega
            have hbad := fun h => HF2.out HA1.out (take_bad (groupAt_get hlt) h)
            have hgood := fun h => take_good (groupAt_get hlt) HK.out h
            have hmm := Hml.out _ (groupAt_mem hlt)
            generalize groupAt gs k = d at p0 p1 p2 hbad hgood hmm
            obtain ⟨nm, lo, hi⟩ := d
            dsimp only at p0 p1 p2 hmm
            have HNm := Lib.hid (fun w' => elName nm w' hmm)
            cases hnm : nameB nm with
            | false =>
              have HR := Lib.hid (hbad (by simp [okM, hnm]))
              rw [hnm] at HNm
              clear hbad hgood
              have Hnm := Lib.hid hnm
              have Hmm := Lib.hid hmm
              clear hnm hmm
              go_wp2_with fail
              refine (HNm.out _).mono ?_
              rintro e w2 ⟨rfl, rfl⟩
              go_wp2_with fail
              go_ret
              exact ⟨by rw [HR.out]; rfl, bUp hw1 (bUp hbr (bBox wr _))⟩
            | true =>
              have HR := Lib.hid (hgood (by simp [okM, hnm]))
              rw [hnm] at HNm
              clear hbad hgood
              have Hnm := Lib.hid hnm
              have Hmm := Lib.hid hmm
              clear hnm hmm
              go_wp2_with fail
              refine (HNm.out _).mono ?_
              rintro e w2 ⟨rfl, rfl⟩
              go_wp2_with fail
              go_roundw
              case rel => exact ⟨k + 1, by omega, by go_num, HR, bUp hbr (bBox wr _)⟩
              case measure => simp [intOf]; omega
          · obtain rfl : k = gs.length := by omega
            have hki : ¬ (gs.length : Int) < gs.length := by omega
            have hA2 := HK.out
            rw [List.take_length] at hA2
            have q1 : wr.cell? ⟨w.heap.size, 0, none⟩ = some (.slice AE es.length cE) := (HB.out.keep hbr).cell 0
            have HA2 := Lib.hid hA2
            clear hA2
            clear HF2 HK
            go_wp2_with fail
            clear q1
            go_loopw [58] (fun i wr => ∃ k : Nat, k ≤ es.length ∧ i = .int .i64 k ∧ Hid ((es.take k).all okV = true) ∧ Below w1.heap.size w1 wr) (fun i _ => es.length - (intOf i).toNat)
            case atStart => exact ⟨0, Nat.zero_le _, rfl, Lib.hid rfl, hbr⟩
            case round =>
              clear hbr
              obtain ⟨k, hk, rfl, HK, hbr⟩ := hrel
              by_cases hlt : k < es.length
              · obtain ⟨b1, o1, C1, c1, L1, c2, rfl, h1, p0, hI, p1, _⟩ := (HN1.out.keep hbr).at_ hlt
                have hki : (k : Int) < es.length := by omega
                have hbad := fun h => HF3.out HA1.out HA2.out (take_bad (entAt_get hlt) h)
                have hgood := fun h => take_good (entAt_get hlt) HK.out h
                have hmm := Hcl.out _ (entAt_mem hlt)
                generalize entAt es k = d at p0 p1 hI hbad hgood hmm
                obtain ⟨cs, ls⟩ := d
                dsimp only at p0 p1 hI hmm
                have HB2 := Lib.hid hbad
                have HG2 := Lib.hid hgood
                have HI := Lib.hid hI
                clear hbad hgood hI
                go_wp2_with fail
                have hI2 := HI.out.keep (bBox wr (.cells #[.slice C1 cs.length c1, .slice L1 ls.length c2] 50))
                have hb2 := bUp hbr (bBox wr (.cells #[.slice C1 cs.length c1, .slice L1 ls.length c2] 50))
                generalize wr.alloc (.cells #[.slice C1 cs.length c1, .slice L1 ls.length c2] 50) = w2 at hI2 hb2 ⊢
                have HI2 := Lib.hid hI2
                clear hI2
                go_loop [65] (fun i => ∃ m : Nat, m ≤ cs.length ∧ i = .int .i64 m ∧ Hid (allValid cs = allValid (cs.drop m))) (fun i => cs.length - (intOf i).toNat)
                case atStart => exact ⟨0, Nat.zero_le _, rfl, Lib.hid rfl⟩
                case round =>
                  obtain ⟨m, hm, rfl, HEV⟩ := hrel
                  by_cases hlt2 : m < cs.length
                  · obtain ⟨b3, o3, rfl, h3, hc3⟩ := HI2.out.at_ (k := m) hlt2
                    have hE := HEV.out
                    rw [drop_nth hlt2, allValid_cons] at hE
                    have hmi : (m : Int) < cs.length := by omega
                    generalize nth cs m = z at hc3 hE
                    have HV := Lib.hid (fun w' => cpValid z w')
                    cases hv : validB z
                    · rw [hv, Bool.false_and] at hE
                      rw [hv] at HV
                      have HR := Lib.hid (HB2.out hE)
                      have HE := Lib.hid hE
                      have Hv := Lib.hid hv
                      clear hE hv
                      go_wp2_with fail
                      refine (HV.out _).mono ?_
                      rintro e w' ⟨rfl, rfl⟩
                      go_wp2_with fail
                      go_ret
                      exact ⟨by rw [HR.out]; rfl, bUp hw1 hb2⟩
                    · rw [hv, Bool.true_and] at hE
                      rw [hv] at HV
                      have HE := Lib.hid hE
                      have Hv := Lib.hid hv
                      clear hE hv
                      go_wp2_with fail
                      refine (HV.out _).mono ?_
                      rintro e w' ⟨rfl, rfl⟩
                      go_wp2_with fail
                      go_round
                      case rel => exact ⟨m + 1, by omega, by go_num, HE⟩
                      case measure => simp [intOf]; omega
                  · have hE' : allValid cs = true := by rw [HEV.out, List.drop_of_length_le (by omega)]; rfl
                    have HR := Lib.hid (HG2.out hE')
                    obtain rfl : m = cs.length := by omega
                    have hmi : ¬ (cs.length : Int) < cs.length := by omega
                    have HE' := Lib.hid hE'
                    clear hE'
                    go_wp2_with fail
                    go_roundw
                    case rel => exact ⟨k + 1, by omega, by go_num, HR, hb2⟩
                    case measure => simp [intOf]; omega
              · obtain rfl : k = es.length := by omega
                have hki : ¬ (es.length : Int) < es.length := by omega
                have hA3 := HK.out
                rw [List.take_length] at hA3
                have q1 : wr.cell? ⟨w.heap.size, 0, none⟩ = some (.slice AE es.length cE) := (HB.out.keep hbr).cell 0
                have HA3 := Lib.hid hA3
                clear hA3
                clear HF3 HK
                go_wp2_with fail
                clear q1
                go_loopw [77] (fun i wr => ∃ k : Nat, k ≤ es.length ∧ i = .int .i64 k ∧ Hid ((es.take k).all okE = true) ∧ Below w1.heap.size w1 wr) (fun i _ => es.length - (intOf i).toNat)
                case atStart => exact ⟨0, Nat.zero_le _, rfl, Lib.hid rfl, hbr⟩
                case round =>
                  clear hbr
                  obtain ⟨k, hk, rfl, HK, hbr⟩ := hrel
                  by_cases hlt : k < es.length
                  · obtain ⟨b1, o1, C1, c1, L1, c2, rfl, h1, p0, _, p1, hL⟩ := (HN1.out.keep hbr).at_ hlt
                    have hki : (k : Int) < es.length := by omega
                    have hbad := fun h => HF4.out HA1.out HA2.out HA3.out k _ (entAt_get hlt) HK.out h
                    have hgood := fun h => take_good (entAt_get hlt) HK.out h
                    have hmm := Hll.out _ (entAt_mem hlt)
                    generalize entAt es k = d at p0 p1 hL hbad hgood hmm
                    obtain ⟨cs, ls⟩ := d
                    dsimp only at p0 p1 hL hmm hbad
                    have HCk := Lib.hid (fun w' h => elChecks ls L1 c2 w' h (by omega))
                    have HL := Lib.hid hL
                    by_cases hz : chksE ls = 0
                    · have HR := Lib.hid (hgood (by simp [okE, hz]))
                      rw [hz] at HCk
                      clear hbad hgood hL
                      have Hz := Lib.hid hz
                      clear hz
                      go_wp2_with fail
                      refine (HCk.out _ (HL.out.keep (bBox wr _))).mono ?_
                      rintro e w2 ⟨rfl, hb2⟩
                      go_wp2_with fail
                      go_roundw
                      case rel => exact ⟨k + 1, by omega, by go_num, HR, bUp hbr (bUp (bBox wr _) hb2)⟩
                      case measure => simp [intOf]; omega
                    · have HR := Lib.hid (hbad hz)
                      have hne2 : (chksE ls != 0) = true := by simp [hz]
                      clear hbad hgood hL
                      generalize chksE ls = ce at HCk HR hne2
                      have Hz := Lib.hid hz
                      clear hz
                      go_wp2_with fail
                      refine (HCk.out _ (HL.out.keep (bBox wr _))).mono ?_
                      rintro e w2 ⟨rfl, hb2⟩
                      go_wp2_with fail
                      go_ret
                      exact ⟨by rw [HR.out]; rfl, bUp hw1 (bUp hbr (bUp (bBox wr _) hb2))⟩
                  · obtain rfl : k = es.length := by omega
                    have hki : ¬ (es.length : Int) < es.length := by omega
                    have hA4 := HK.out
                    rw [List.take_length] at hA4
                    have HR := Lib.hid (HF5.out HA1.out HA2.out HA3.out hA4)
                    have HA4 := Lib.hid hA4
                    clear hA4
                    go_wp2_with fail
                    go_ret
                    exact ⟨by rw [HR.out]; rfl, bUp hw1 hbr⟩
end Go.Proofs.YthogkokifiibnaaGreatDoor
