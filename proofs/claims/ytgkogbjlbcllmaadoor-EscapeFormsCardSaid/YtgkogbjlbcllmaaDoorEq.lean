/- ref01.Compare and Equal on ints -/
import Derived.Test.YtgkogbjlbcllmaaDoorProg
import Derived.Test.YtgkogbjlbcllmaaDoorBase
import Derived.BigQuiet
import Derived.Deep.QuietTactic
namespace Go.Proofs.YtgkogbjlbcllmaaDoor
open Go.RowKit Go.Sort

def cmpL : List Int → List Int → Int
  | [], [] => 0
  | [], _ :: _ => -1
  | _ :: _, [] => 1
  | a :: r, b :: s => if a < b then -1 else if b < a then 1 else cmpL r s
theorem cmpL_refl : ∀ l, cmpL l l = 0
  | [] => rfl
  | a :: r => by simp [cmpL, cmpL_refl r]
theorem cmpL_eq : ∀ {a b : List Int}, cmpL a b = 0 → a = b
  | [], [], _ => rfl
  | [], _ :: _, h => by simp [cmpL] at h
  | _ :: _, [], h => by simp [cmpL] at h
  | a :: r, b :: s, h => by
    unfold cmpL at h
    split at h
    · cases h
    · split at h
      · cases h
      · have h1 := cmpL_eq h
        have h2 : a = b := by omega
        rw [h1, h2]
theorem cmp_lt {xs ys : List Int} {k : Nat} (h1 : k < xs.length) (h2 : k < ys.length) (h : nth xs k < nth ys k) : cmpL (xs.drop k) (ys.drop k) = -1 := by
  rw [drop_nth h1, drop_nth h2, cmpL, if_pos h]
theorem cmp_gt {xs ys : List Int} {k : Nat} (h1 : k < xs.length) (h2 : k < ys.length) (h : nth ys k < nth xs k) : cmpL (xs.drop k) (ys.drop k) = 1 := by
  rw [drop_nth h1, drop_nth h2, cmpL, if_neg (by omega), if_pos h]
theorem cmp_same {xs ys : List Int} {k : Nat} (h1 : k < xs.length) (h2 : k < ys.length) (h3 : ¬ nth xs k < nth ys k) (h4 : ¬ nth ys k < nth xs k) : cmpL (xs.drop k) (ys.drop k) = cmpL (xs.drop (k + 1)) (ys.drop (k + 1)) := by
  rw [drop_nth h1, drop_nth h2, cmpL, if_neg h3, if_neg h4]
theorem cmp_end {xs ys : List Int} {k : Nat} (hk1 : k ≤ xs.length) (hk2 : k ≤ ys.length) (h : ¬ (k < xs.length ∧ k < ys.length)) : cmpL (xs.drop k) (ys.drop k) = if xs.length < ys.length then -1 else if ys.length < xs.length then 1 else 0 := by
  by_cases h1 : k < xs.length
  · have h2 : ys.length = k := by omega
    rw [drop_nth h1, List.drop_of_length_le (l := ys) (by omega), cmpL, if_neg (by omega), if_pos (by omega)]
  · rw [List.drop_of_length_le (l := xs) (by omega)]
    by_cases h2 : k < ys.length
    · rw [drop_nth h2, cmpL, if_pos (by omega)]
    · rw [List.drop_of_length_le (l := ys) (by omega), cmpL, if_neg (by omega), if_neg (by omega)]

set_option maxHeartbeats 1000000 in
set_option maxRecDepth 100000 in
theorem rfCompare (xs ys : List Int) (A B : Option Addr) (c1 c2 : Nat) (w : World) (hA : IntsAt w A xs) (hB : IntsAt w B ys) (hx : xs.length ≤ 1000000000) (_hy : ys.length ≤ 1000000000) :
    Calls Tryd.prog 33 #[.slice A xs.length c1, .slice B ys.length c2] w fun e w' => e = .returned (.int .i64 (cmpL xs ys)) ∧ Below w.heap.size w w' := by
  have HA := Lib.hid hA
  have HB := Lib.hid hB
  clear hA hB
  go_enter Tryd.func33, Tryd.ntmps33
  go_wp2_with fail
  go_loopw [5] (fun i wr => ∃ k : Nat, k ≤ xs.length ∧ k ≤ ys.length ∧ i = .int .i64 k ∧ Hid (cmpL xs ys = cmpL (xs.drop k) (ys.drop k)) ∧ Below w.heap.size w wr) (fun i _ => xs.length - (intOf i).toNat)
  case atStart => exact ⟨0, Nat.zero_le _, Nat.zero_le _, rfl, rfl, Below.refl _ _⟩
  case round =>
    obtain ⟨k, hk1, hk2, rfl, HC, hbr⟩ := hrel
    by_cases h1 : k < xs.length
    · by_cases h2 : k < ys.length
      · obtain ⟨b, off, rfl, _, hc⟩ := (HA.out.keep hbr).at_ h1
        obtain ⟨b', off', rfl, _, hc'⟩ := (HB.out.keep hbr).at_ h2
        have k0 := cell_regrown hc
        have k1 := cell_regrown hc'
        have t1 : decide (k < xs.length) = true := by simpa using h1
        have t2 : decide (k < ys.length) = true := by simpa using h2
        have i1 : (k : Int) < xs.length := by omega
        have i2 : (k : Int) < ys.length := by omega
        by_cases hlt : nth xs k < nth ys k
        · have q1 : decide (nth xs k < nth ys k) = true := by simpa using hlt
          have HE := Lib.hid (HC.out.trans (cmp_lt h1 h2 hlt))
          go_wp2_with fail
          refine wp_region_quiet_below (by kernel_rfl) (by kernel_rfl) ?_
          repeat (go_big_quiet_step (fail))
          refine wpQuiet_nil ?_
          rintro _ ⟨⟨dq, osq⟩, rfl⟩
          have hb2 := below_regrown wr dq osq
          generalize grow (redrawn wr dq) osq = w2 at hb2 ⊢
          go_wp2_with fail
          go_ret
          exact ⟨ret_int HE.out.symm, bUp hbr hb2⟩
        · have q1 : decide (nth xs k < nth ys k) = false := by simpa using hlt
          by_cases hgt : nth ys k < nth xs k
          · have q2 : decide (nth ys k < nth xs k) = true := by simpa using hgt
            have HE := Lib.hid (HC.out.trans (cmp_gt h1 h2 hgt))
            go_wp2_with fail
            refine wp_region_quiet_below (by kernel_rfl) (by kernel_rfl) ?_
            repeat (go_big_quiet_step (fail))
            refine wpQuiet_nil ?_
            rintro _ ⟨⟨dq, osq⟩, rfl⟩
            have hb2 := below_regrown wr dq osq
            generalize grow (redrawn wr dq) osq = w2 at hb2 ⊢
            have k2 := cell_regrown (cell_keep hb2 hc)
            have k3 := cell_regrown (cell_keep hb2 hc')
            go_wp2_with fail
            refine wp_region_quiet_below (by kernel_rfl) (by kernel_rfl) ?_
            repeat (go_big_quiet_step (fail))
            refine wpQuiet_nil ?_
            rintro _ ⟨⟨dq, osq⟩, rfl⟩
            have hb3 := below_regrown w2 dq osq
            generalize grow (redrawn w2 dq) osq = w3 at hb3 ⊢
            go_wp2_with fail
            go_ret
            exact ⟨ret_int HE.out.symm, bUp (bUp hbr hb2) hb3⟩
          · have q2 : decide (nth ys k < nth xs k) = false := by simpa using hgt
            have HE := Lib.hid (HC.out.trans (cmp_same h1 h2 hlt hgt))
            go_wp2_with fail
            refine wp_region_quiet_below (by kernel_rfl) (by kernel_rfl) ?_
            repeat (go_big_quiet_step (fail))
            refine wpQuiet_nil ?_
            rintro _ ⟨⟨dq, osq⟩, rfl⟩
            have hb2 := below_regrown wr dq osq
            generalize grow (redrawn wr dq) osq = w2 at hb2 ⊢
            have k2 := cell_regrown (cell_keep hb2 hc)
            have k3 := cell_regrown (cell_keep hb2 hc')
            go_wp2_with fail
            refine wp_region_quiet_below (by kernel_rfl) (by kernel_rfl) ?_
            repeat (go_big_quiet_step (fail))
            refine wpQuiet_nil ?_
            rintro _ ⟨⟨dq, osq⟩, rfl⟩
            have hb3 := below_regrown w2 dq osq
            generalize grow (redrawn w2 dq) osq = w3 at hb3 ⊢
            go_wp2_with fail
            go_roundw
            case rel => exact ⟨k + 1, by omega, by omega, by go_num, HE, bUp (bUp hbr hb2) hb3⟩
            case measure => simp [intOf]; omega
      · have t1 : decide (k < xs.length) = true := by simpa using h1
        have t2 : decide (k < ys.length) = false := by simpa using h2
        have t3 : ¬ xs.length < ys.length := by omega
        have t4 : ys.length < xs.length := by omega
        have HE := Lib.hid (HC.out.trans (cmp_end hk1 hk2 (fun h => h2 h.2)))
        go_wp2_with fail
        go_ret
        exact ⟨ret_int (by rw [HE.out, if_neg t3, if_pos t4]), hbr⟩
    · have t1 : decide (k < xs.length) = false := by simpa using h1
      have HE := Lib.hid (HC.out.trans (cmp_end hk1 hk2 (fun h => h1 h.1)))
      have t4 : ¬ ys.length < xs.length := by omega
      by_cases t3 : xs.length < ys.length
      · go_wp2_with fail
        go_ret
        exact ⟨ret_int (by rw [HE.out, if_pos t3]), hbr⟩
      · go_wp2_with fail
        go_ret
        exact ⟨ret_int (by rw [HE.out, if_neg t3, if_neg t4]), hbr⟩

theorem rfEqual (xs ys : List Int) (A B : Option Addr) (c1 c2 : Nat) (w : World) (hA : IntsAt w A xs) (hB : IntsAt w B ys) (hx : xs.length ≤ 1000000000) (hy : ys.length ≤ 1000000000) :
    Calls Tryd.prog 17 #[.slice A xs.length c1, .slice B ys.length c2] w fun e w' => e = .returned (.bool (decide (xs = ys))) ∧ Below w.heap.size w w' := by
  have HA := Lib.hid hA
  have HB := Lib.hid hB
  clear hA hB
  go_enter Tryd.func17, Tryd.ntmps17
  go_wp2_with fail
  refine (rfCompare xs ys A B c1 c2 _ HA.out HB.out hx hy).mono ?_
  rintro e w1 ⟨rfl, hb1⟩
  go_wp2_with fail
  go_ret
  refine ⟨ret_bool ?_, hb1⟩
  by_cases h : xs = ys
  · subst h; simp [cmpL_refl]
  · have : ¬ cmpL xs ys = 0 := fun e => h (cmpL_eq e)
    simp [h, this]
end Go.Proofs.YtgkogbjlbcllmaaDoor
