/- isName -/
import Derived.Test.YthogkokifiibnaaDoorEl8
namespace Go.Proofs.YthogkokifiibnaaDoor
open Go.RowKit Go.Sort

def wordZ (x : Int) : Bool := (decide (65 ≤ x) && decide (x ≤ 90)) || (decide (97 ≤ x) && decide (x ≤ 122)) || (decide (48 ≤ x) && decide (x ≤ 57)) || x == 95
/-- a name: 1 to 32 letters, digits and _ -/
def nameB (l : List UInt8) : Bool := l.all (fun b => wordZ b.toNat) && (l != []) && decide (l.length ≤ 32)
theorem name_bad {l : List UInt8} {k : Nat} (h : k < l.length) (hw : wordZ (btN l k) = false) : nameB l = false := by
  have : l.all (fun b => wordZ b.toNat) = false := by
    rw [← Bool.not_eq_true]
    intro h'
    have := List.all_eq_true.1 h' _ (List.getElem_mem h)
    rw [show btN l k = l[k].toNat by simp [btN, h]] at hw
    rw [hw] at this
    cases this
  unfold nameB
  rw [this]
  rfl
theorem name_step {l : List UInt8} {k : Nat} (h : k < l.length) (hp : (l.take k).all (fun b => wordZ b.toNat) = true) (hw : wordZ (btN l k) = true) : (l.take (k + 1)).all (fun b => wordZ b.toNat) = true := by
  rw [show btN l k = l[k].toNat by simp [btN, h]] at hw
  rw [List.take_add_one, List.all_append, hp]
  simp [h, hw]

set_option maxHeartbeats 8000000 in
set_option maxRecDepth 100000 in
theorem elName (l : List UInt8) (w : World) (hl : l.length ≤ 9223372036854775807) :
    Calls Tryd.prog 33 #[.string ⟨l.toArray⟩] w fun e w' => e = .returned (.bool (nameB l)) ∧ w = w' := by
  go_enter Tryd.func33, Tryd.ntmps33
  go_wp2_with fail
  go_loop [7] (fun i => ∃ k : Nat, k ≤ l.length ∧ i = .int .i64 k ∧ Hid ((l.take k).all (fun b => wordZ b.toNat) = true)) (fun i => l.length - (intOf i).toNat)
  case atStart => exact ⟨0, Nat.zero_le _, rfl, Lib.hid rfl⟩
  case round =>
    obtain ⟨k, hk, rfl, HK⟩ := hrel
    by_cases hlt : k < l.length
    · have hbt := btN_lt l k
      have hki : (k : Int) < l.length := by omega
      have HB := Lib.hid (fun h => name_bad hlt h)
      have HG := Lib.hid (fun h => name_step hlt HK.out h)
      have hx : ∃ x : Int, (btN l k : Int) = x := ⟨_, rfl⟩
      obtain ⟨x, hx⟩ := hx
      rw [hx] at HB HG
      have hr : (x < 48) ∨ (48 ≤ x ∧ x ≤ 57) ∨ (58 ≤ x ∧ x ≤ 64) ∨ (65 ≤ x ∧ x ≤ 90) ∨ (91 ≤ x ∧ x ≤ 94) ∨ (x = 95) ∨ (x = 96) ∨ (97 ≤ x ∧ x ≤ 122) ∨ (122 < x) := by omega
      rcases hr with hr | hr | hr | hr | hr | hr | hr | hr | hr
      · have c0 : decide ((65 : Int) ≤ x) = false := decide_eq_false (by omega)
        have c1 : decide (x ≤ (90 : Int)) = true := decide_eq_true (by omega)
        have c2 : decide ((97 : Int) ≤ x) = false := decide_eq_false (by omega)
        have c3 : decide (x ≤ (122 : Int)) = true := decide_eq_true (by omega)
        have c4 : decide ((48 : Int) ≤ x) = false := decide_eq_false (by omega)
        have c5 : decide (x ≤ (57 : Int)) = true := decide_eq_true (by omega)
        have c6 : (x == 95) = false := by simp; omega
        have hw : wordZ x = false := by unfold wordZ; rw [c0, c1, c2, c3, c4, c5, c6]; rfl
        have Hn := Lib.hid (HB.out hw)
        have Hr := Lib.hid hr
        have Hw := Lib.hid hw
        clear hr hw
        go_wp2_with fail
        go_ret
        exact ⟨by rw [Hn.out]; rfl, rfl⟩
      · have c0 : decide ((65 : Int) ≤ x) = false := decide_eq_false (by omega)
        have c1 : decide (x ≤ (90 : Int)) = true := decide_eq_true (by omega)
        have c2 : decide ((97 : Int) ≤ x) = false := decide_eq_false (by omega)
        have c3 : decide (x ≤ (122 : Int)) = true := decide_eq_true (by omega)
        have c4 : decide ((48 : Int) ≤ x) = true := decide_eq_true (by omega)
        have c5 : decide (x ≤ (57 : Int)) = true := decide_eq_true (by omega)
        have c6 : (x == 95) = false := by simp; omega
        have hw : wordZ x = true := by unfold wordZ; rw [c0, c1, c2, c3, c4, c5, c6]; rfl
        have Hn := HG.out hw
        have Hr := Lib.hid hr
        have Hw := Lib.hid hw
        clear hr hw
        go_wp2_with fail
        go_round
        case rel => exact ⟨k + 1, by omega, by go_num, Lib.hid Hn⟩
        case measure => simp [intOf]; omega
      · have c0 : decide ((65 : Int) ≤ x) = false := decide_eq_false (by omega)
        have c1 : decide (x ≤ (90 : Int)) = true := decide_eq_true (by omega)
        have c2 : decide ((97 : Int) ≤ x) = false := decide_eq_false (by omega)
        have c3 : decide (x ≤ (122 : Int)) = true := decide_eq_true (by omega)
        have c4 : decide ((48 : Int) ≤ x) = true := decide_eq_true (by omega)
        have c5 : decide (x ≤ (57 : Int)) = false := decide_eq_false (by omega)
        have c6 : (x == 95) = false := by simp; omega
        have hw : wordZ x = false := by unfold wordZ; rw [c0, c1, c2, c3, c4, c5, c6]; rfl
        have Hn := Lib.hid (HB.out hw)
        have Hr := Lib.hid hr
        have Hw := Lib.hid hw
        clear hr hw
        go_wp2_with fail
        go_ret
        exact ⟨by rw [Hn.out]; rfl, rfl⟩
      · have c0 : decide ((65 : Int) ≤ x) = true := decide_eq_true (by omega)
        have c1 : decide (x ≤ (90 : Int)) = true := decide_eq_true (by omega)
        have c2 : decide ((97 : Int) ≤ x) = false := decide_eq_false (by omega)
        have c3 : decide (x ≤ (122 : Int)) = true := decide_eq_true (by omega)
        have c4 : decide ((48 : Int) ≤ x) = true := decide_eq_true (by omega)
        have c5 : decide (x ≤ (57 : Int)) = false := decide_eq_false (by omega)
        have c6 : (x == 95) = false := by simp; omega
        have hw : wordZ x = true := by unfold wordZ; rw [c0, c1, c2, c3, c4, c5, c6]; rfl
        have Hn := HG.out hw
        have Hr := Lib.hid hr
        have Hw := Lib.hid hw
        clear hr hw
        go_wp2_with fail
        go_round
        case rel => exact ⟨k + 1, by omega, by go_num, Lib.hid Hn⟩
        case measure => simp [intOf]; omega
      · have c0 : decide ((65 : Int) ≤ x) = true := decide_eq_true (by omega)
        have c1 : decide (x ≤ (90 : Int)) = false := decide_eq_false (by omega)
        have c2 : decide ((97 : Int) ≤ x) = false := decide_eq_false (by omega)
        have c3 : decide (x ≤ (122 : Int)) = true := decide_eq_true (by omega)
        have c4 : decide ((48 : Int) ≤ x) = true := decide_eq_true (by omega)
        have c5 : decide (x ≤ (57 : Int)) = false := decide_eq_false (by omega)
        have c6 : (x == 95) = false := by simp; omega
        have hw : wordZ x = false := by unfold wordZ; rw [c0, c1, c2, c3, c4, c5, c6]; rfl
        have Hn := Lib.hid (HB.out hw)
        have Hr := Lib.hid hr
        have Hw := Lib.hid hw
        clear hr hw
        go_wp2_with fail
        go_ret
        exact ⟨by rw [Hn.out]; rfl, rfl⟩
      · have c0 : decide ((65 : Int) ≤ x) = true := decide_eq_true (by omega)
        have c1 : decide (x ≤ (90 : Int)) = false := decide_eq_false (by omega)
        have c2 : decide ((97 : Int) ≤ x) = false := decide_eq_false (by omega)
        have c3 : decide (x ≤ (122 : Int)) = true := decide_eq_true (by omega)
        have c4 : decide ((48 : Int) ≤ x) = true := decide_eq_true (by omega)
        have c5 : decide (x ≤ (57 : Int)) = false := decide_eq_false (by omega)
        have c6 : (x == 95) = true := by simp; omega
        have hw : wordZ x = true := by unfold wordZ; rw [c0, c1, c2, c3, c4, c5, c6]; rfl
        have Hn := HG.out hw
        have Hr := Lib.hid hr
        have Hw := Lib.hid hw
        clear hr hw
        go_wp2_with fail
        go_round
        case rel => exact ⟨k + 1, by omega, by go_num, Lib.hid Hn⟩
        case measure => simp [intOf]; omega
      · have c0 : decide ((65 : Int) ≤ x) = true := decide_eq_true (by omega)
        have c1 : decide (x ≤ (90 : Int)) = false := decide_eq_false (by omega)
        have c2 : decide ((97 : Int) ≤ x) = false := decide_eq_false (by omega)
        have c3 : decide (x ≤ (122 : Int)) = true := decide_eq_true (by omega)
        have c4 : decide ((48 : Int) ≤ x) = true := decide_eq_true (by omega)
        have c5 : decide (x ≤ (57 : Int)) = false := decide_eq_false (by omega)
        have c6 : (x == 95) = false := by simp; omega
        have hw : wordZ x = false := by unfold wordZ; rw [c0, c1, c2, c3, c4, c5, c6]; rfl
        have Hn := Lib.hid (HB.out hw)
        have Hr := Lib.hid hr
        have Hw := Lib.hid hw
        clear hr hw
        go_wp2_with fail
        go_ret
        exact ⟨by rw [Hn.out]; rfl, rfl⟩
      · have c0 : decide ((65 : Int) ≤ x) = true := decide_eq_true (by omega)
        have c1 : decide (x ≤ (90 : Int)) = false := decide_eq_false (by omega)
        have c2 : decide ((97 : Int) ≤ x) = true := decide_eq_true (by omega)
        have c3 : decide (x ≤ (122 : Int)) = true := decide_eq_true (by omega)
        have c4 : decide ((48 : Int) ≤ x) = true := decide_eq_true (by omega)
        have c5 : decide (x ≤ (57 : Int)) = false := decide_eq_false (by omega)
        have c6 : (x == 95) = false := by simp; omega
        have hw : wordZ x = true := by unfold wordZ; rw [c0, c1, c2, c3, c4, c5, c6]; rfl
        have Hn := HG.out hw
        have Hr := Lib.hid hr
        have Hw := Lib.hid hw
        clear hr hw
        go_wp2_with fail
        go_round
        case rel => exact ⟨k + 1, by omega, by go_num, Lib.hid Hn⟩
        case measure => simp [intOf]; omega
      · have c0 : decide ((65 : Int) ≤ x) = true := decide_eq_true (by omega)
        have c1 : decide (x ≤ (90 : Int)) = false := decide_eq_false (by omega)
        have c2 : decide ((97 : Int) ≤ x) = true := decide_eq_true (by omega)
        have c3 : decide (x ≤ (122 : Int)) = false := decide_eq_false (by omega)
        have c4 : decide ((48 : Int) ≤ x) = true := decide_eq_true (by omega)
        have c5 : decide (x ≤ (57 : Int)) = false := decide_eq_false (by omega)
        have c6 : (x == 95) = false := by simp; omega
        have hw : wordZ x = false := by unfold wordZ; rw [c0, c1, c2, c3, c4, c5, c6]; rfl
        have Hn := Lib.hid (HB.out hw)
        have Hr := Lib.hid hr
        have Hw := Lib.hid hw
        clear hr hw
        go_wp2_with fail
        go_ret
        exact ⟨by rw [Hn.out]; rfl, rfl⟩
    · obtain rfl : k = l.length := by omega
      have hki : ¬ (l.length : Int) < l.length := by omega
      have hall := HK.out
      rw [List.take_length] at hall
      by_cases hn : l = []
      · subst hn
        have Hall := Lib.hid hall
        clear hall
        go_wp2_with fail
        go_ret
        exact ⟨rfl, rfl⟩
      · have hne : (l == []) = false := by simp [hn]
        by_cases h32 : l.length ≤ 32
        · have hd : decide ((l.length : Int) ≤ 32) = true := decide_eq_true (by omega)
          have HR := Lib.hid (show nameB l = true by unfold nameB; rw [hall]; simp [hn, h32])
          have Hall := Lib.hid hall
          have Hn := Lib.hid hn
          clear hall hn
          go_wp2_with fail
          go_ret
          exact ⟨by rw [HR.out]; rfl, rfl⟩
        · have hd : decide ((l.length : Int) ≤ 32) = false := decide_eq_false (by omega)
          have HR := Lib.hid (show nameB l = false by unfold nameB; rw [decide_eq_false h32]; simp)
          have Hall := Lib.hid hall
          have Hn := Lib.hid hn
          clear hall hn
          go_wp2_with fail
          go_ret
          exact ⟨by rw [HR.out]; rfl, rfl⟩
end Go.Proofs.YthogkokifiibnaaDoor
