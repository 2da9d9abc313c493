/- Check of an element, of the program and of the reference; check of a list -/
import Derived.Test.YthogkokifiibnaaDoorElP1
namespace Go.Proofs.YthogkokifiibnaaDoor
open Go.RowKit Go.Sort

theorem inW_yes {n : Int} (h : inW n = true) : decide (n < 0) = false ∧ decide ((65535 : Int) < n) = false := by
  unfold inW at h
  simp only [Bool.and_eq_true, decide_eq_true_eq] at h
  exact ⟨decide_eq_false (by omega), decide_eq_false (by omega)⟩
theorem inW_no {n : Int} (h : inW n = false) : decide (n < 0) = true ∨ (decide (n < 0) = false ∧ decide ((65535 : Int) < n) = true) := by
  unfold inW at h
  by_cases h0 : n < 0
  · exact .inl (decide_eq_true h0)
  · refine .inr ⟨decide_eq_false h0, decide_eq_true ?_⟩
    simp at h
    omega
theorem chkE_one {d : ElemD} (h : inW d.p = false ∨ inW d.s = false ∨ inW d.t = false) : chkE d = 1 := by
  unfold chkE
  rcases h with h | h | h <;> rw [h] <;> simp
theorem chkE_two {d : ElemD} (h1 : inW d.p = true) (h2 : inW d.s = true) (h3 : inW d.t = true) : chkE d = if badE d then 11 else 0 := by
  unfold chkE
  rw [h1, h2, h3]
  rfl
def wAt (d : ElemD) (k : Nat) : Int := match k with | 0 => d.p | 1 => d.s | _ => d.t

theorem bneOf {x : Int} {b : Bool} (h : (x == 0) = b) : (x != 0) = !b := by subst h; rfl
theorem arr3 (p s t : Int) (v : Bool) (k : Nat) (hk : k < 3) (w : World) : (Instr.index 64 (.agg #[.int .i64 p, .int .i64 s, .int .i64 t]) (.int .i64 k)).run Tryd.prog w = .ok (.int .i64 (wAt ⟨p, s, t, v⟩ k)) w := by
  obtain rfl | rfl | rfl : k = 0 ∨ k = 1 ∨ k = 2 := by omega
  all_goals kernel_rfl

set_option maxHeartbeats 8000000 in
set_option maxRecDepth 100000 in
theorem elCheck (d : ElemD) (w : World) :
    Calls Tryd.prog 12 #[.agg #[.int .i64 d.p, .int .i64 d.s, .int .i64 d.t, .bool d.v]] w fun e w' => e = .returned (.int .i64 (chkE d)) ∧ Below w.heap.size w w' := by
  have H1 := Lib.hid (fun h => chkE_one (d := d) h)
  have H2 := Lib.hid (fun h1 h2 h3 => chkE_two (d := d) h1 h2 h3)
  have HB := Lib.hid (show badE d = ((d.p != 0 && (d.s == 0 || d.t == 0)) || (d.s != 0 && d.t == 0) || (d.v && d.p == 0)) from rfl)
  generalize chkE d = ce at H1 H2
  generalize badE d = be at H2 HB
  obtain ⟨p, s, t, v⟩ := d
  dsimp only at H1 H2 HB ⊢
  go_enter Tryd.func12, Tryd.ntmps12
  go_wp2_with fail
  go_loop [12] (fun i => ∃ k : Nat, k ≤ 3 ∧ i = .int .i64 k ∧ Hid (∀ j, j < k → inW (wAt ⟨p, s, t, v⟩ j) = true)) (fun i => 3 - (intOf i).toNat)
  case atStart => exact ⟨0, by omega, rfl, Lib.hid (fun j hj => by omega)⟩
  case round =>
    obtain ⟨k, hk, rfl, HK⟩ := hrel
    by_cases h3 : k < 3
    · have hx := arr3 p s t v k h3
      have hk3 : (k : Int) < 3 := by omega
      cases hin : inW (wAt ⟨p, s, t, v⟩ k) with
      | true =>
        have hn : Hid (∀ j, j < k + 1 → inW (wAt ⟨p, s, t, v⟩ j) = true) := Lib.hid (fun j hj => by
          by_cases hjk : j < k
          · exact HK.out j hjk
          · obtain rfl : j = k := by omega
            exact hin)
        obtain ⟨i1, i2⟩ := inW_yes hin
        generalize wAt ⟨p, s, t, v⟩ k = x at hx i1 i2 hin
        have Hin := Lib.hid hin
        clear hin
        go_wp2_with fail
        go_round
        case rel => exact ⟨k + 1, by omega, by go_num, hn⟩
        case measure => simp [intOf]; omega
      | false =>
        have hr : ce = 1 := H1.out (by
          obtain rfl | rfl | rfl : k = 0 ∨ k = 1 ∨ k = 2 := by omega
          · exact .inl hin
          · exact .inr (.inl hin)
          · exact .inr (.inr hin))
        subst hr
        generalize wAt ⟨p, s, t, v⟩ k = x at hx hin
        rcases inW_no hin with i1 | ⟨i1, i2⟩
        · have Hin := Lib.hid hin
          clear hin
          go_wp2_with fail
          go_ret
          exact ⟨rfl, bBox w _⟩
        · have Hin := Lib.hid hin
          clear hin
          go_wp2_with fail
          go_ret
          exact ⟨rfl, bBox w _⟩
    · obtain rfl : k = 3 := by omega
      have hr : ce = if be = true then 11 else 0 := H2.out (HK.out 0 (by omega)) (HK.out 1 (by omega)) (HK.out 2 (by omega))
      have Hr := Lib.hid (show ce = if ((p != 0 && (s == 0 || t == 0)) || (s != 0 && t == 0) || (v && p == 0)) = true then 11 else 0 by rw [hr, HB.out])
      clear H1 H2 HB hr
      cases hp : (p == 0) <;> cases hs : (s == 0) <;> cases ht : (t == 0) <;> cases v
      all_goals
        have p1 := bneOf hp
        have s1 := bneOf hs
        simp only [Bool.not_true, Bool.not_false] at p1 s1
        have h := Hr.out
        rw [p1, s1, hp, hs, ht] at h
        have Hc := Lib.hid h
        clear h Hr
        go_wp2_with fail
        go_ret
        exact ⟨by rw [Hc.out]; rfl, bBox w _⟩
end Go.Proofs.YthogkokifiibnaaDoor
