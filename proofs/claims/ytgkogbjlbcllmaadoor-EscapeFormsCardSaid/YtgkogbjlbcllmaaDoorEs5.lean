/- escape: digit, escaped -/
import Derived.Test.YtgkogbjlbcllmaaDoorEs2
namespace Go.Proofs.YtgkogbjlbcllmaaDoor
open Go.RowKit Go.Sort

def digV (b : Int) : Int := if 48 ≤ b ∧ b ≤ 57 then b - 48 else if 65 ≤ b ∧ b ≤ 70 then b - 55 else if 97 ≤ b ∧ b ≤ 102 then b - 87 else -1
theorem digV_is (b : Int) : (48 ≤ b ∧ b ≤ 57 ∧ digV b = b - 48) ∨ (65 ≤ b ∧ b ≤ 70 ∧ digV b = b - 55) ∨ (97 ≤ b ∧ b ≤ 102 ∧ digV b = b - 87) ∨ ((b < 48 ∨ 57 < b) ∧ (b < 65 ∨ 70 < b) ∧ (b < 97 ∨ 102 < b) ∧ digV b = -1) := by
  unfold digV; split
  · omega
  · split
    · omega
    · split <;> omega
theorem digV_le (b : Int) : -1 ≤ digV b ∧ digV b ≤ 15 := by have := digV_is b; omega

set_option maxHeartbeats 1000000 in
set_option maxRecDepth 100000 in
theorem esDigit (b : Int) (h0 : 0 ≤ b) (h1 : b ≤ 255) (w : World) :
    Calls Tryd.prog 45 #[.int .u8 b] w fun e w' => e = .returned (.int .i64 (digV b)) ∧ w = w' := by
  have HV := Lib.hid (digV_is b)
  rcases (show b < 48 ∨ (48 ≤ b ∧ b ≤ 57) ∨ (57 < b ∧ b < 65) ∨ (65 ≤ b ∧ b ≤ 70) ∨ (70 < b ∧ b < 97) ∨ (97 ≤ b ∧ b ≤ 102) ∨ 102 < b by omega) with h | ⟨h, h'⟩ | ⟨h, h'⟩ | ⟨h, h'⟩ | ⟨h, h'⟩ | ⟨h, h'⟩ | h
  all_goals
    go_enter Tryd.func45, Tryd.ntmps45
    go_wp2_with fail
    go_ret
    exact ⟨ret_int (by have := HV.out; omega), rfl⟩

theorem valid_range {x : Int} (h : validB x = true) : 0 ≤ x ∧ x ≤ 1114111 := of_decide_eq_true h
/-- the digits of an escape, i of them read, c their number -/
def escHex : List UInt8 → Nat → Int → Int × Int × Bool
  | [], i, _ => (0, ((i + 3 : Nat) : Int), false)
  | b :: r, i, c => if b.toNat = 125 ∧ 0 < i then (c, ((i + 4 : Nat) : Int), true) else if digV b.toNat < 0 ∨ i = 6 then (0, 0, false)
    else if validB (c * 16 + digV b.toNat) = false then (0, 0, false) else escHex r (i + 1) (c * 16 + digV b.toNat)
/-- the escape at the beginning of s -/
def escR (s : List UInt8) : Int × Int × Bool :=
  if s.length = 1 ∨ s = [92, 117] then (0, (s.length : Int), false) else if btN s 1 = 34 ∨ btN s 1 = 92 then ((btN s 1 : Int), 2, true)
  else if Lib.hasPrefix s [92, 117, 123] = false then (0, 0, false) else escHex (s.drop 3) 0 0
def escV (r : Int × Int × Bool) : Value := .tuple #[.int .i64 r.1, .int .i64 r.2.1, .bool r.2.2]
theorem escHex_step {l : List UInt8} {k : Nat} {c : Int} (hk : k < l.length) (i : Nat) : escHex (l.drop k) i c = if btN l k = 125 ∧ 0 < i then (c, ((i + 4 : Nat) : Int), true) else if digV (btN l k) < 0 ∨ i = 6 then (0, 0, false)
    else if validB (c * 16 + digV (btN l k)) = false then (0, 0, false) else escHex (l.drop (k + 1)) (i + 1) (c * 16 + digV (btN l k)) := by
  rw [bytes_drop hk, escHex, btN_get hk]

set_option maxHeartbeats 2000000 in
set_option maxRecDepth 100000 in
theorem esEscaped (l : List UInt8) (w : World) (h1 : 1 ≤ l.length) (h2 : l.length ≤ 9223372036854775000) :
    Calls Tryd.prog 34 #[.string ⟨l.toArray⟩] w fun e w' => e = .returned (escV (escR l)) ∧ w = w' := by
  by_cases hl1 : l.length = 1
  · have HR := Lib.hid (show escR l = (0, (l.length : Int), false) by simp [escR, hl1])
    have q : ((l.length : Int) == 1) = true := by simp; omega
    have Hl1 := Lib.hid hl1
    clear hl1
    go_enter Tryd.func34, Tryd.ntmps34
    go_wp2_with fail
    go_ret3
    exact ⟨by rw [HR.out]; rfl, rfl⟩
  have q1 : ((l.length : Int) == 1) = false := by simp; omega
  by_cases hu : l = [92, 117]
  · subst hu
    clear q1 hl1
    go_enter Tryd.func34, Tryd.ntmps34
    go_wp2_with fail
    go_ret3
    exact ⟨rfl, rfl⟩
  have q2 : (l == [92, 117]) = false := by simpa using hu
  have hor : ¬ (l.length = 1 ∨ l = [92, 117]) := by rintro (h | h); exact hl1 h; exact hu h
  have hi : (1 : Int) < l.length := by omega
  have hb := btN_lt l 1
  by_cases h34 : btN l 1 = 34 ∨ btN l 1 = 92
  · have HR := Lib.hid (show escR l = ((btN l 1 : Int), 2, true) by rw [escR, if_neg hor, if_pos h34])
    rcases h34 with h34 | h34
    · have q3 : ((btN l 1 : Int) == 34) = true := by simp; omega
      have H34 := Lib.hid h34
      have Hu := Lib.hid hu
      have Hl1 := Lib.hid hl1
      have Hor := Lib.hid hor
      clear h34 hu hl1 hor
      go_enter Tryd.func34, Tryd.ntmps34
      go_wp2_with fail
      go_ret3
      exact ⟨by rw [HR.out]; rfl, rfl⟩
    · have q3 : ((btN l 1 : Int) == 34) = false := by simp; omega
      have q4 : ((btN l 1 : Int) == 92) = true := by simp; omega
      have H34 := Lib.hid h34
      have Hu := Lib.hid hu
      have Hl1 := Lib.hid hl1
      have Hor := Lib.hid hor
      clear h34 hu hl1 hor
      go_enter Tryd.func34, Tryd.ntmps34
      go_wp2_with fail
      go_ret3
      exact ⟨by rw [HR.out]; rfl, rfl⟩
  have q3 : ((btN l 1 : Int) == 34) = false := by simp; omega
  have q4 : ((btN l 1 : Int) == 92) = false := by simp; omega
  have HP := Lib.hid (fun w => Tryd.strings_HasPrefix ⟨l.toArray⟩ ⟨#[92, 117, 123]⟩ w)
  cases hp : Lib.hasPrefix l [92, 117, 123]
  · have HR := Lib.hid (show escR l = (0, 0, false) by rw [escR, if_neg hor, if_neg h34, if_pos hp])
    have H34 := Lib.hid h34
    have Hu := Lib.hid hu
    have Hl1 := Lib.hid hl1
    have Hor := Lib.hid hor
    have Hp := Lib.hid hp
    clear h34 hu hl1 hor hp
    go_enter Tryd.func34, Tryd.ntmps34
    go_wp2_with fail
    refine (HP.out _).mono ?_
    rintro e w' ⟨rfl, rfl⟩
    rw [show Lib.hasPrefix (⟨l.toArray⟩ : ByteArray).data.toList (⟨#[92, 117, 123]⟩ : ByteArray).data.toList = false from Hp.out]
    go_wp2_with fail
    go_ret3
    exact ⟨by rw [HR.out]; rfl, rfl⟩
  · have HR := Lib.hid (show escR l = escHex (l.drop 3) 0 0 by rw [escR, if_neg hor, if_neg h34, if_neg (by rw [hp]; simp)])
    have hl3 : 3 ≤ l.length := by
      unfold Lib.hasPrefix at hp
      have := (List.isPrefixOf_iff_prefix.1 hp).length_le
      simpa using this
    have H34 := Lib.hid h34
    have Hu := Lib.hid hu
    have Hl1 := Lib.hid hl1
    have Hor := Lib.hid hor
    have Hp := Lib.hid hp
    clear h34 hu hl1 hor hp
    go_enter Tryd.func34, Tryd.ntmps34
    go_wp2_with fail
    refine (HP.out _).mono ?_
    rintro e w' ⟨rfl, rfl⟩
    rw [show Lib.hasPrefix (⟨l.toArray⟩ : ByteArray).data.toList (⟨#[92, 117, 123]⟩ : ByteArray).data.toList = true from Hp.out]
    go_wp2_with fail
    go_loop [5, 6] (fun c i => ∃ (k : Nat) (x : Int), k ≤ 6 ∧ k + 3 ≤ l.length ∧ 0 ≤ x ∧ x ≤ 1114111 ∧ i = .int .i64 ((k : Int) + 3) ∧ c = .int .i64 x ∧ Hid (escR l = escHex (l.drop (k + 3)) k x)) (fun _ i => l.length - (intOf i).toNat)
    case atStart => exact ⟨0, 0, by omega, hl3, by omega, by omega, rfl, rfl, HR⟩
    case round =>
      obtain ⟨k, x, hk6, hk3, hx0, hx1, rfl, rfl, HE⟩ := hrel
      by_cases hlt : k + 3 < l.length
      · have hbk := btN_lt l (k + 3)
        have hki : (k : Int) + 3 < l.length := by omega
        have hst := escHex_step (c := x) hlt k
        have hdv := digV_le (btN l (k + 3))
        by_cases hc : btN l (k + 3) = 125 ∧ 0 < k
        · rw [if_pos hc] at hst
          have HF := Lib.hid (HE.out.trans hst)
          have p1 : ((btN l (k + 3) : Int) == 125) = true := by simp; omega
          have p2 : decide ((3 : Int) < (k : Int) + 3) = true := by simp; omega
          have p3 : 0 < k := hc.2
          clear hst hc HE hdv
          go_wp2_with fail
          go_ret3
          exact ⟨by rw [HF.out]; rfl, rfl⟩
        rw [if_neg hc] at hst
        by_cases hd : digV (btN l (k + 3)) < 0 ∨ k = 6
        · rw [if_pos hd] at hst
          have HF := Lib.hid (HE.out.trans hst)
          clear hst HE
          by_cases hc1 : btN l (k + 3) = 125
          · have p1 : ((btN l (k + 3) : Int) == 125) = true := by simp; omega
            have p2 : decide ((3 : Int) < (k : Int) + 3) = false := by simp; omega
            have p3 : ¬ 0 < k := fun h => hc ⟨hc1, h⟩
            have p4 : digV (btN l (k + 3)) < 0 := by rw [hc1]; decide
            have Hc1 := Lib.hid hc1
            have Hc := Lib.hid hc
            have Hd := Lib.hid hd
            clear hc1 hc hd
            go_wp2_with (go_at_call 45; refine (esDigit _ (by omega) (by omega) _).mono ?_; rintro e w' ⟨rfl, rfl⟩)
            go_ret3
            exact ⟨by rw [HF.out]; rfl, rfl⟩
          · have p1 : ((btN l (k + 3) : Int) == 125) = false := by simp; omega
            by_cases p4 : digV (btN l (k + 3)) < 0
            · have Hc1 := Lib.hid hc1
              have Hc := Lib.hid hc
              have Hd := Lib.hid hd
              clear hc1 hc hd
              go_wp2_with (go_at_call 45; refine (esDigit _ (by omega) (by omega) _).mono ?_; rintro e w' ⟨rfl, rfl⟩)
              go_ret3
              exact ⟨by rw [HF.out]; rfl, rfl⟩
            · have hk : k = 6 := hd.resolve_left p4
              have p6 : (((k : Int) + 3 - 3) == 6) = true := by simp; omega
              have p7 : ((k : Int) == 6) = true := by simp; omega
              have Hc1 := Lib.hid hc1
              have Hc := Lib.hid hc
              have Hd := Lib.hid hd
              have Hk := Lib.hid hk
              clear hc1 hc hd hk
              go_wp2_with (go_at_call 45; refine (esDigit _ (by omega) (by omega) _).mono ?_; rintro e w' ⟨rfl, rfl⟩)
              go_ret3
              exact ⟨by rw [HF.out]; rfl, rfl⟩
        rw [if_neg hd] at hst
        have p1 : ((btN l (k + 3) : Int) == 125) = false := by
          simp
          intro e
          have e' : btN l (k + 3) = 125 := by omega
          exact hd (.inl (by rw [e']; decide))
        have p4 : ¬ digV (btN l (k + 3)) < 0 := fun h => hd (.inl h)
        have p5 : k ≠ 6 := fun h => hd (.inr h)
        have p6 : (((k : Int) + 3 - 3) == 6) = false := by simp; omega
        have p7 : ((k : Int) == 6) = false := by simp; omega
        clear hd hc
        cases hv : validB (x * 16 + digV (btN l (k + 3)))
        · rw [if_pos hv] at hst
          have HF := Lib.hid (HE.out.trans hst)
          have Hv := Lib.hid hv
          have P5 := Lib.hid p5
          clear hv p5
          clear hst HE
          go_wp2_with (first | (go_at_call 45; refine (esDigit _ (by omega) (by omega) _).mono ?_; rintro e w' ⟨rfl, rfl⟩) | (go_at_call 37; refine (cpValid _ _).mono ?_; rintro e w' ⟨rfl, rfl⟩; rw [Hv.out]))
          go_ret3
          exact ⟨by rw [HF.out]; rfl, rfl⟩
        · rw [if_neg (by rw [hv]; simp)] at hst
          have HF := Lib.hid (HE.out.trans hst)
          have hvr := valid_range hv
          have hk5 : k + 1 ≤ 6 := by omega
          have Hv := Lib.hid hv
          have P5 := Lib.hid p5
          clear hv p5
          clear hst HE
          go_wp2_with (first | (go_at_call 45; refine (esDigit _ (by omega) (by omega) _).mono ?_; rintro e w' ⟨rfl, rfl⟩) | (go_at_call 37; refine (cpValid _ _).mono ?_; rintro e w' ⟨rfl, rfl⟩; rw [Hv.out]))
          go_round
          case rel => exact ⟨k + 1, _, hk5, by omega, hvr.1, hvr.2, by go_num, rfl, by rw [show k + 1 + 3 = k + 3 + 1 by omega]; exact HF⟩
          case measure => simp [intOf]; omega
      · have HE' := Lib.hid (show escR l = (0, (l.length : Int), false) by rw [HE.out, List.drop_of_length_le (by omega), escHex]; congr 2; omega)
        go_wp2_with fail
        go_ret3
        exact ⟨by rw [HE'.out]; rfl, rfl⟩
end Go.Proofs.YtgkogbjlbcllmaaDoor
