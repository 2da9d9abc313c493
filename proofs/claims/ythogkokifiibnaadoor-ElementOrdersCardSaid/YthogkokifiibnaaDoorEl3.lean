/- Check of the reference; check of a list -/
import Derived.Test.YthogkokifiibnaaDoorEl2
namespace Go.Proofs.YthogkokifiibnaaDoor
open Go.RowKit Go.Sort

theorem rfWeight (n : Int) (w : World) : Calls Tryd.prog 22 #[.int .i64 n] w fun e w' => e = .returned (.bool (inW n)) ∧ w = w' := by
  by_cases h1 : 0 ≤ n <;> by_cases h2 : n ≤ 65535
  all_goals
    go_enter Tryd.func22, Tryd.ntmps22
    go_wp2
    go_ret
    exact ⟨by simp [inW, h1, h2], rfl⟩

set_option maxHeartbeats 8000000 in
set_option maxRecDepth 100000 in
theorem rfECheck (d : ElemD) (w : World) :
    Calls Tryd.prog 13 #[.agg #[.int .i64 d.p, .int .i64 d.s, .int .i64 d.t, .bool d.v]] w fun e w' => e = .returned (.int .i64 (chkE d)) ∧ Below w.heap.size w w' := by
  have H1 := Lib.hid (fun h => chkE_one (d := d) h)
  have H2 := Lib.hid (fun h1 h2 h3 => chkE_two (d := d) h1 h2 h3)
  have HB := Lib.hid (show badE d = ((d.p != 0 && (d.s == 0 || d.t == 0)) || (d.s != 0 && d.t == 0) || (d.v && d.p == 0)) from rfl)
  generalize chkE d = ce at H1 H2
  generalize badE d = be at H2 HB
  obtain ⟨p, s, t, v⟩ := d
  dsimp only at H1 H2 HB ⊢
  have W1 := Lib.hid (fun w' => rfWeight p w')
  have W2 := Lib.hid (fun w' => rfWeight s w')
  have W3 := Lib.hid (fun w' => rfWeight t w')
  go_enter Tryd.func13, Tryd.ntmps13
  cases h1 : inW p with
  | false =>
    obtain rfl : ce = 1 := H1.out (.inl h1)
    rw [h1] at W1
    go_wp2_with fail
    refine (W1.out _).mono ?_
    rintro e w1 ⟨rfl, rfl⟩
    go_wp2_with fail
    go_ret
    exact ⟨rfl, bBox w _⟩
  | true =>
    rw [h1] at W1
    cases h2 : inW s with
    | false =>
      obtain rfl : ce = 1 := H1.out (.inr (.inl h2))
      rw [h2] at W2
      go_wp2_with fail
      refine (W1.out _).mono ?_
      rintro e w1 ⟨rfl, rfl⟩
      go_wp2_with fail
      refine (W2.out _).mono ?_
      rintro e w1 ⟨rfl, rfl⟩
      go_wp2_with fail
      go_ret
      exact ⟨rfl, bBox w _⟩
    | true =>
      rw [h2] at W2
      cases h3 : inW t with
      | false =>
        obtain rfl : ce = 1 := H1.out (.inr (.inr h3))
        rw [h3] at W3
        go_wp2_with fail
        refine (W1.out _).mono ?_
        rintro e w1 ⟨rfl, rfl⟩
        go_wp2_with fail
        refine (W2.out _).mono ?_
        rintro e w1 ⟨rfl, rfl⟩
        go_wp2_with fail
        refine (W3.out _).mono ?_
        rintro e w1 ⟨rfl, rfl⟩
        go_wp2_with fail
        go_ret
        exact ⟨rfl, bBox w _⟩
      | true =>
        rw [h3] at W3
        have hr := H2.out h1 h2 h3
        have Hr := Lib.hid (show ce = if ((p != 0 && (s == 0 || t == 0)) || (s != 0 && t == 0) || (v && p == 0)) = true then 11 else 0 by rw [hr, HB.out])
        clear H1 H2 HB hr h1 h2 h3
        cases hp : (p == 0) <;> cases hs : (s == 0) <;> cases ht : (t == 0) <;> cases v
        all_goals
          have p1 := bneOf hp
          have s1 := bneOf hs
          simp only [Bool.not_true, Bool.not_false] at p1 s1
          have h := Hr.out
          rw [p1, s1, hp, hs, ht] at h
          have Hc := Lib.hid h
          clear h Hr
          go_wp2_with fail
          refine (W1.out _).mono ?_
          rintro e w1 ⟨rfl, rfl⟩
          go_wp2_with fail
          refine (W2.out _).mono ?_
          rintro e w1 ⟨rfl, rfl⟩
          go_wp2_with fail
          refine (W3.out _).mono ?_
          rintro e w1 ⟨rfl, rfl⟩
          go_wp2_with fail
          go_ret
          exact ⟨by rw [Hc.out]; rfl, bBox w _⟩

set_option maxHeartbeats 8000000 in
set_option maxRecDepth 100000 in
theorem elChecks (ls : List ElemD) (A : Option Addr) (cp : Nat) (w : World) (hA : ElemsAt w A ls) (hl : ls.length ≤ 1000000) :
    Calls Tryd.prog 17 #[.slice A ls.length cp] w fun e w' => e = .returned (.int .i64 (chksE ls)) ∧ Below w.heap.size w w' := by
  have HA := Lib.hid hA
  clear hA
  go_enter Tryd.func17, Tryd.ntmps17
  go_wp2_with fail
  go_loopw [8] (fun i wr => ∃ k : Nat, k ≤ ls.length ∧ i = .int .i64 k ∧ Hid ((ls.take k).all (fun d => chkE d == 0) = true) ∧ Below w.heap.size w wr) (fun i _ => ls.length - (intOf i).toNat)
  case atStart => exact ⟨0, Nat.zero_le _, rfl, Lib.hid rfl, Below.refl _ _⟩
  case round =>
    obtain ⟨k, hk, rfl, HK, hbr⟩ := hrel
    by_cases hlt : k < ls.length
    · obtain ⟨b1, o1, rfl, h1, p0, p1, p2, p3⟩ := (HA.out.keep hbr).at_ hlt
      have hbad := fun h => (chks_bad (elemAt_get hlt) HK.out h).1
      have hgood := fun h => chk_step (elemAt_get hlt) HK.out h
      generalize elemAt ls k = d at p0 p1 p2 p3 hbad hgood
      have HC := Lib.hid (fun w' => elCheck d w')
      have hki : (k : Int) < ls.length := by omega
      by_cases hc : chkE d = 0
      · have Hg := Lib.hid (hgood hc)
        rw [hc] at HC
        obtain ⟨p, s, t, v⟩ := d
        dsimp only at p0 p1 p2 p3 HC
        have Hc := Lib.hid hc
        clear hc
        clear hbad hgood
        go_wp2_with fail
        refine (HC.out _).mono ?_
        rintro e w2 ⟨rfl, hb2⟩
        go_wp2_with fail
        go_roundw
        case rel => exact ⟨k + 1, by omega, by go_num, Hg, hbr.trans ((bUp (bBox wr _) hb2).mono hbr.size)⟩
        case measure => simp [intOf]; omega
      · have Hg := Lib.hid (hbad hc)
        have hne : (chkE d != 0) = true := by simp [hc]
        generalize chkE d = ce at HC Hg hne
        obtain ⟨p, s, t, v⟩ := d
        dsimp only at p0 p1 p2 p3 HC
        have Hc := Lib.hid hc
        clear hc
        clear hbad hgood
        go_wp2_with fail
        refine (HC.out _).mono ?_
        rintro e w2 ⟨rfl, hb2⟩
        go_wp2_with fail
        go_ret
        exact ⟨by rw [Hg.out]; rfl, hbr.trans ((bUp (bBox wr _) hb2).mono hbr.size)⟩
    · obtain rfl : k = ls.length := by omega
      have hki : ¬ (ls.length : Int) < ls.length := by omega
      have Hg := Lib.hid (chks_good (by have := HK.out; rwa [List.take_length] at this)).1
      go_wp2_with fail
      go_ret
      exact ⟨by rw [Hg.out]; rfl, hbr⟩
end Go.Proofs.YthogkokifiibnaaDoor
