/- codepoint.Parse and Parse of the reference -/
import Derived.Test.YthogkokifiibnaaDoorCp4
namespace Go.Proofs.YthogkokifiibnaaDoor
open Go.RowKit Go.Sort

def numL : List UInt8 → Int → Option Int
  | [], acc => some acc
  | b :: r, acc => if hexVal (b.toNat : Int) < 0 then none else numL r (acc * 16 + hexVal (b.toNat : Int))
/-- the code point whose Hex is l -/
def parseCp (l : List UInt8) : Option Int :=
  if l.length < 4 ∨ 6 < l.length then none else
  match numL l 0 with
  | none => none
  | some c => if hexL c = l then some c else none
def parseV (l : List UInt8) : Value := .tuple #[.int .i64 ((parseCp l).getD 0), .int .i64 (if (parseCp l).isSome then 0 else 3)]

theorem numL_bad {l : List UInt8} {k : Nat} {acc : Int} (hk : k < l.length) (h : hexVal (btN l k) < 0) : numL (l.drop k) acc = none := by
  rw [bytes_drop hk]; rw [btN_get hk] at h; simp [numL, h]
theorem numL_good {l : List UInt8} {k : Nat} {acc : Int} (hk : k < l.length) (h : ¬ hexVal (btN l k) < 0) : numL (l.drop k) acc = numL (l.drop (k + 1)) (acc * 16 + hexVal (btN l k)) := by
  rw [bytes_drop hk]; rw [btN_get hk] at *; simp [numL, h]

theorem parseV_len {l : List UInt8} (h : l.length < 4 ∨ 6 < l.length) : parseV l = .tuple #[.int .i64 0, .int .i64 3] := by simp [parseV, parseCp, h]
theorem parseV_num {l : List UInt8} (h : numL l 0 = none) : parseV l = .tuple #[.int .i64 0, .int .i64 3] := by simp [parseV, parseCp, h]
theorem parseV_hex {l : List UInt8} {c : Int} (h : numL l 0 = some c) (hh : ¬ hexL c = l) : parseV l = .tuple #[.int .i64 0, .int .i64 3] := by simp [parseV, parseCp, h, hh]
theorem parseV_ok {l : List UInt8} {c : Int} (h1 : ¬ (l.length < 4 ∨ 6 < l.length)) (h : numL l 0 = some c) (hh : hexL c = l) : parseV l = .tuple #[.int .i64 c, .int .i64 0] := by simp [parseV, parseCp, h, hh, h1]

set_option maxRecDepth 100000 in
theorem cpParse (l : List UInt8) (w : World) (hD : Dig w) (hs : l.length ≤ 9223372036854775807) :
    Calls Tryd.prog 57 #[.string ⟨l.toArray⟩] w fun e w' => e = .returned (parseV l) ∧ Below w.heap.size w w' := by
  have HD := Lib.hid hD
  clear hD
  by_cases h4 : l.length < 4
  · have H := Lib.hid (parseV_len (.inl (by omega)))
    have h4' : decide ((l.length : Int) < 4) = true := by simp; omega
    go_enter Tryd.func57, Tryd.ntmps57
    go_wp2
    go_ret2
    exact ⟨ret_eq H.out, Below.refl _ _⟩
  have h4' : decide ((l.length : Int) < 4) = false := by simp; omega
  by_cases h6 : 6 < l.length
  · have H := Lib.hid (parseV_len (.inr (by omega)))
    have h6' : decide ((6 : Int) < l.length) = true := by simp; omega
    go_enter Tryd.func57, Tryd.ntmps57
    go_wp2
    go_ret2
    exact ⟨ret_eq H.out, Below.refl _ _⟩
  have h6' : decide ((6 : Int) < l.length) = false := by simp; omega
  go_enter Tryd.func57, Tryd.ntmps57
  go_wp2
  go_loop [4, 17] (fun x i => ∃ (k : Nat) (c : Nat), k ≤ l.length ∧ i = .int .i64 k ∧ x = .int .i64 c ∧ c < 16 ^ k ∧ Hid (numL l 0 = numL (l.drop k) c)) (fun _ i => l.length - (intOf i).toNat)
  case atStart => exact ⟨0, 0, by omega, rfl, rfl, by simp, rfl⟩
  case round =>
    obtain ⟨k, c, hk, rfl, rfl, hc, HB⟩ := hrel
    by_cases hlt : k < l.length
    · have hc2 : c < 1048576 := Nat.lt_of_lt_of_le hc (Nat.pow_le_pow_right (by omega) (show k ≤ 5 by omega))
      have Hc := Lib.hid hc
      clear hc
      by_cases hv : hexVal (btN l k) < 0
      · have H := Lib.hid (parseV_num (by rw [HB.out, numL_bad hlt hv]))
        go_wp2_with (go_at_call 73; refine (cpValue _ _ HD.out).mono ?_; rintro e w' ⟨rfl, rfl⟩)
        go_ret2
        exact ⟨ret_eq H.out, Below.refl _ _⟩
      · have hvl := hexVal_le (btN l k)
        go_wp2_with (go_at_call 73; refine (cpValue _ _ HD.out).mono ?_; rintro e w' ⟨rfl, rfl⟩)
        obtain ⟨d, hd⟩ := Int.eq_ofNat_of_zero_le (show 0 ≤ hexVal (btN l k) by omega)
        go_round
        case rel =>
          refine ⟨k + 1, c * 16 + d, by omega, by go_num, by rw [hd]; rfl, ?_, Lib.hid ?_⟩
          · have := Hc.out; rw [Nat.pow_succ]; omega
          · rw [HB.out, numL_good hlt (by omega), hd]; rfl
        case measure => simp [intOf]; omega
    · have HB' : Hid (numL l 0 = some (c : Int)) := Lib.hid (by rw [HB.out, List.drop_of_length_le (by omega)]; rfl)
      have hc2 : c < 16777216 := Nat.lt_of_lt_of_le hc (Nat.pow_le_pow_right (by omega) (show k ≤ 6 by omega))
      clear HB
      have Hc := Lib.hid hc
      clear hc
      by_cases hh : hexL c = l
      · have H := Lib.hid (parseV_ok (by omega) HB'.out hh)
        go_wp2_with fail
        refine (cpHex _ _ HD.out).mono ?_
        rintro e w1 ⟨rfl, hb1⟩
        have hhs : (hexL c == l) = true := by simp [hh]
        have Hh := Lib.hid hh
        clear hh
        go_wp2_with fail
        go_ret2
        exact ⟨ret_eq H.out, hb1⟩
      · have H := Lib.hid (parseV_hex HB'.out hh)
        go_wp2_with fail
        refine (cpHex _ _ HD.out).mono ?_
        rintro e w1 ⟨rfl, hb1⟩
        have hhs : (hexL c == l) = false := by simpa using hh
        have Hh := Lib.hid hh
        clear hh
        go_wp2_with fail
        go_ret2
        exact ⟨ret_eq H.out, hb1⟩
end Go.Proofs.YthogkokifiibnaaDoor
