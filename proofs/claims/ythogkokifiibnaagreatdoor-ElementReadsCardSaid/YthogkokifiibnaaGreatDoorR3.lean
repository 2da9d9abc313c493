/- The reference: hex, form, Parse of elements -/
import Derived.Test.YthogkokifiibnaaGreatDoorR2
namespace Go.Proofs.YthogkokifiibnaaGreatDoor
open Go.RowKit Go.Sort

/-- the number behind the digits before k have been tried -/
def stepH (n : Int) (x : Int) (k : Nat) : Int := if 0 ≤ x ∧ x < k then 16 * n + x else n
theorem stepH_hit {n x : Int} {k : Nat} (h : x = k) : stepH n x k = n ∧ stepH n x (k + 1) = 16 * n + k := by
  subst h
  unfold stepH
  exact ⟨if_neg (by omega), if_pos (by omega)⟩
theorem stepH_miss {n x : Int} {k : Nat} (h : ¬ x = k) : stepH n x (k + 1) = stepH n x k := by
  unfold stepH
  by_cases h2 : 0 ≤ x ∧ x < k
  · rw [if_pos h2, if_pos (by omega)]
  · rw [if_neg h2, if_neg (by omega)]
theorem stepH_end {n x : Int} (hx : x ≤ 15) : stepH n x 16 = if 0 ≤ x then 16 * n + x else n := by
  unfold stepH
  by_cases h : 0 ≤ x
  · rw [if_pos h, if_pos (by omega)]
  · rw [if_neg h, if_neg (by omega)]
theorem stepH_rng {n x : Int} {k m : Nat} (h0 : 0 ≤ n) (hx : x ≤ 15) (h1 : n < 16 ^ m) : 0 ≤ stepH n x k ∧ stepH n x k < 16 ^ (m + 1) := by
  have hp : (16 : Int) ^ (m + 1) = 16 ^ m * 16 := Int.pow_succ _ _
  unfold stepH
  split <;> omega
theorem hexC_eq {k : Nat} (hk : k < 16) {b : Nat} : hexC k = b ↔ hexVal (b : Int) = k := by
  constructor
  · intro h
    exact hexVal_hit hk (by rw [h])
  · intro h
    have h1 := hexVal_is (b : Int)
    have h2 := hexC_is k
    omega
theorem hexR_at {l : List UInt8} {i : Nat} {n : Int} (h : i < l.length) : hexR (l.drop i) n = hexR (l.drop (i + 1)) (if 0 ≤ hexVal (btN l i : Int) then 16 * n + hexVal (btN l i : Int) else n) := by
  rw [bytes_drop h, hexR, btN_get h]
theorem hexR_rng : ∀ (l : List UInt8) (n : Int) (m : Nat), 0 ≤ n → n < 16 ^ m → 0 ≤ hexR l n ∧ hexR l n < 16 ^ (m + l.length)
  | [], n, m, h0, h1 => ⟨h0, h1⟩
  | b :: r, n, m, h0, h1 => by
    have hv := hexVal_le (b.toNat : Int)
    have hp : (16 : Int) ^ (m + 1) = 16 ^ m * 16 := Int.pow_succ _ _
    rw [hexR]
    have ih := hexR_rng r (if 0 ≤ hexVal (b.toNat : Int) then 16 * n + hexVal (b.toNat : Int) else n) (m + 1) (by split <;> omega) (by split <;> omega)
    rw [List.length_cons, show m + (r.length + 1) = m + 1 + r.length by omega]
    exact ih
theorem hexR_four {l : List UInt8} (h : l.length = 4) : inW (hexR l 0) = true := by
  have := hexR_rng l 0 0 (by omega) (by decide)
  rw [h] at this
  have e : (16 : Int) ^ (0 + 4) = 65536 := by decide
  rw [e] at this
  unfold inW
  simp
  omega

set_option maxHeartbeats 4000000 in
set_option maxRecDepth 100000 in
theorem rfHexV (l : List UInt8) (w : World) (hl : l.length ≤ 4) :
    Calls Tryz.prog 49 #[.string ⟨l.toArray⟩] w fun e w' => e = .returned (.int .i64 (hexR l 0)) ∧ Below w.heap.size w w' := by
  go_enter Tryz.func49, Tryz.ntmps49
  go_wp2_with fail
  go_loopw [3, 4] (fun n i wr => ∃ (j : Nat) (x : Int), j ≤ l.length ∧ i = .int .i64 j ∧ n = .int .i64 x ∧ 0 ≤ x ∧ x < 16 ^ j ∧ Hid (hexR l 0 = hexR (l.drop j) x) ∧ Below w.heap.size w wr) (fun _ i _ => l.length - (intOf i).toNat)
  case atStart => exact ⟨0, 0, Nat.zero_le _, rfl, rfl, by omega, by decide, Lib.hid rfl, Below.refl _ _⟩
  case round =>
    obtain ⟨j, x, hj, rfl, rfl, hx0, hx1, HX, hbr⟩ := hrel
    by_cases hlt : j < l.length
    · have hji : (j : Int) < l.length := by omega
      have hbt := btN_lt l j
      have hst := hexR_at (n := x) hlt
      have hv := hexVal_le (btN l j : Int)
      have hpow : (16 : Int) ^ j ≤ 4096 := by
        obtain rfl | rfl | rfl | rfl : j = 0 ∨ j = 1 ∨ j = 2 ∨ j = 3 := by omega
        all_goals decide
      have HEq := Lib.hid (fun k (hk : k < 16) => hexC_eq hk (b := btN l j))
      generalize hexVal (btN l j : Int) = y at hst hv HEq
      have Hst := Lib.hid hst
      clear hst
      go_wp2_with fail
      go_loopw [3, 5] (fun n k wr => ∃ (q : Nat), q ≤ 16 ∧ k = .int .i64 q ∧ n = .int .i64 (stepH x y q) ∧ Below w.heap.size w wr) (fun _ k _ => 16 - (intOf k).toNat)
      case atStart => exact ⟨0, by omega, rfl, by unfold stepH; rw [if_neg (by omega)], hbr⟩
      case round =>
        clear hbr
        obtain ⟨q, hq, rfl, rfl, hbr⟩ := hrel
        by_cases hq16 : q < 16
        · have hqi : (q : Int) < 16 := by omega
          have hdi := digIdx q hq16
          have hr := stepH_rng (k := q) hx0 hv.2 hx1
          have hp2 : (16 : Int) ^ (j + 1) = 16 ^ j * 16 := Int.pow_succ _ _
          by_cases hy : y = q
          · have hs := stepH_hit (n := x) hy
            have he : ((hexC q : Int) == (btN l j : Int)) = true := by simp; have := (HEq.out q hq16).2 hy; omega
            rw [hs.1] at hr
            have hs1 := hs.1
            have HS2 := Lib.hid hs.2
            rw [hs1]
            generalize hexC q = hc at hdi he
            clear hs hs1
            have hxb : x ≤ 4096 := by omega
            have Hy := Lib.hid hy
            have Hp2 := Lib.hid hp2
            have Hr := Lib.hid hr
            have Hx1 := Lib.hid hx1
            have Hpow := Lib.hid hpow
            clear hy hp2 hr hx1 hpow
            go_wp2_with fail
            go_region
            all_goals
              go_wp2_with fail
              go_roundw
              case rel => exact ⟨q + 1, by omega, by go_num, by rw [HS2.out], hbr.drew⟩
              case measure => simp [intOf]; omega
          · have hs := stepH_miss (n := x) hy
            have he : ((hexC q : Int) == (btN l j : Int)) = false := by
              simp
              intro h
              exact hy ((HEq.out q hq16).1 (by omega))
            have HS2 := Lib.hid hs
            generalize hexC q = hc at hdi he
            generalize stepH x y q = sq at hr HS2 ⊢
            clear hs
            have Hy := Lib.hid hy
            have Hp2 := Lib.hid hp2
            have Hr := Lib.hid hr
            have Hx1 := Lib.hid hx1
            have Hpow := Lib.hid hpow
            clear hy hp2 hr hx1 hpow
            go_wp2_with fail
            go_region
            all_goals
              go_wp2_with fail
              go_roundw
              case rel => exact ⟨q + 1, by omega, by go_num, by rw [HS2.out], hbr.drew⟩
              case measure => simp [intOf]; omega
        · obtain rfl : q = 16 := by omega
          have hqi : ¬ ((16 : Nat) : Int) < 16 := by omega
          have he := stepH_end (n := x) hv.2
          have hr := stepH_rng (k := 16) hx0 hv.2 hx1
          have HX2 := Lib.hid (show hexR l 0 = hexR (l.drop (j + 1)) (stepH x y 16) by rw [HX.out, Hst.out, he])
          generalize stepH x y 16 = sq at hr HX2 ⊢
          have He := Lib.hid he
          have Hr := Lib.hid hr
          have Hx1 := Lib.hid hx1
          have Hpow := Lib.hid hpow
          clear he hr hx1 hpow
          go_wp2_with fail
          go_roundw
          case rel => exact ⟨j + 1, sq, by omega, by go_num, rfl, Hr.out.1, Hr.out.2, HX2, hbr⟩
          case measure => simp [intOf]; omega
    · obtain rfl : j = l.length := by omega
      have hji : ¬ (l.length : Int) < l.length := by omega
      have HR := Lib.hid (show hexR l 0 = x by rw [HX.out, List.drop_eq_nil_of_le (Nat.le_refl _)]; rfl)
      have Hx1 := Lib.hid hx1
      clear hx1
      go_wp2_with fail
      go_ret
      exact ⟨by rw [HR.out]; rfl, hbr⟩
end Go.Proofs.YthogkokifiibnaaGreatDoor
