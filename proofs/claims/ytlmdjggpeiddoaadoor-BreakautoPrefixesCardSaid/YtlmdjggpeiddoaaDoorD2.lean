/- Words and names of classes, in the program and the reference. (written by wip/genBa2.py) Names of classes: breakrule.isName, namesValid; word, named of the reference. -/
import Derived.Test.YtlmdjggpeiddoaaDoorD1
import Derived.Test.YtlmdjggpeiddoaaDoorShelf
namespace Go.Proofs.YtlmdjggpeiddoaaDoor
open Go.RowKit Go.Sort

def kw0 : List UInt8 := [107, 101, 101, 112]
def kw1 : List UInt8 := [98, 114, 101, 97, 107]
def kw2 : List UInt8 := [109, 117, 115, 116]
def kw3 : List UInt8 := [97, 116, 116, 97, 99, 104]
def kw4 : List UInt8 := [97, 110, 121]
def kw5 : List UInt8 := [115, 116, 97, 114, 116]
def kw6 : List UInt8 := [101, 110, 100]
/-- a word of the grammar -/
def kwB (l : List UInt8) : Bool := l == kw0 || l == kw1 || l == kw2 || l == kw3 || l == kw4 || l == kw5 || l == kw6
set_option maxHeartbeats 2000000 in
set_option maxRecDepth 100000 in
theorem isWord (l : List UInt8) (w : World) :
    Calls Tryd.prog 81 #[.string ⟨l.toArray⟩] w fun e w' => e = .returned (.bool (kwB l)) ∧ w = w' := by
  have HK := Lib.hid (show kwB l = (l == kw0 || l == kw1 || l == kw2 || l == kw3 || l == kw4 || l == kw5 || l == kw6) from rfl)
  generalize kwB l = r at HK
  go_enter Tryd.func81, Tryd.ntmps81
  cases e0 : (l == kw0) with
  | true =>
    have hr := HK.out
    rw [e0] at hr
    replace hr : r = true := by rw [hr]; simp
    subst hr
    obtain rfl : l = kw0 := eq_of_beq e0
    clear e0 HK
    unfold kw0
    go_wp2_with fail
    go_ret
    exact ⟨rfl, rfl⟩
  | false =>
    cases e1 : (l == kw1) with
    | true =>
      have hr := HK.out
      rw [e0, e1] at hr
      replace hr : r = true := by rw [hr]; simp
      subst hr
      obtain rfl : l = kw1 := eq_of_beq e1
      clear e0 e1 HK
      unfold kw1
      go_wp2_with fail
      go_ret
      exact ⟨rfl, rfl⟩
    | false =>
      cases e2 : (l == kw2) with
      | true =>
        have hr := HK.out
        rw [e0, e1, e2] at hr
        replace hr : r = true := by rw [hr]; simp
        subst hr
        obtain rfl : l = kw2 := eq_of_beq e2
        clear e0 e1 e2 HK
        unfold kw2
        go_wp2_with fail
        go_ret
        exact ⟨rfl, rfl⟩
      | false =>
        cases e3 : (l == kw3) with
        | true =>
          have hr := HK.out
          rw [e0, e1, e2, e3] at hr
          replace hr : r = true := by rw [hr]; simp
          subst hr
          obtain rfl : l = kw3 := eq_of_beq e3
          clear e0 e1 e2 e3 HK
          unfold kw3
          go_wp2_with fail
          go_ret
          exact ⟨rfl, rfl⟩
        | false =>
          cases e4 : (l == kw4) with
          | true =>
            have hr := HK.out
            rw [e0, e1, e2, e3, e4] at hr
            replace hr : r = true := by rw [hr]; simp
            subst hr
            obtain rfl : l = kw4 := eq_of_beq e4
            clear e0 e1 e2 e3 e4 HK
            unfold kw4
            go_wp2_with fail
            go_ret
            exact ⟨rfl, rfl⟩
          | false =>
            cases e5 : (l == kw5) with
            | true =>
              have hr := HK.out
              rw [e0, e1, e2, e3, e4, e5] at hr
              replace hr : r = true := by rw [hr]; simp
              subst hr
              obtain rfl : l = kw5 := eq_of_beq e5
              clear e0 e1 e2 e3 e4 e5 HK
              unfold kw5
              go_wp2_with fail
              go_ret
              exact ⟨rfl, rfl⟩
            | false =>
              cases e6 : (l == kw6) with
              | true =>
                have hr := HK.out
                rw [e0, e1, e2, e3, e4, e5, e6] at hr
                replace hr : r = true := by rw [hr]; simp
                subst hr
                obtain rfl : l = kw6 := eq_of_beq e6
                clear e0 e1 e2 e3 e4 e5 e6 HK
                unfold kw6
                go_wp2_with fail
                go_ret
                exact ⟨rfl, rfl⟩
              | false =>
                have hr := HK.out
                rw [e0, e1, e2, e3, e4, e5, e6] at hr
                replace hr : r = false := hr
                subst hr
                unfold kw0 at e0
                unfold kw1 at e1
                unfold kw2 at e2
                unfold kw3 at e3
                unfold kw4 at e4
                unfold kw5 at e5
                unfold kw6 at e6
                go_wp2_with fail
                go_ret
                exact ⟨rfl, rfl⟩

def wordZ (x : Int) : Bool := (decide (65 ≤ x) && decide (x ≤ 90)) || (decide (97 ≤ x) && decide (x ≤ 122)) || (decide (48 ≤ x) && decide (x ≤ 57)) || x == 95
/-- a name: 1 to 32 letters, digits and _ -/
def nameB (l : List UInt8) : Bool := l.all (fun b => wordZ b.toNat) && (l != []) && decide (l.length ≤ 32)
theorem name_bad {l : List UInt8} {k : Nat} (h : k < l.length) (hw : wordZ (btN l k) = false) : nameB l = false := by
  have : l.all (fun b => wordZ b.toNat) = false := by
    rw [← Bool.not_eq_true]
    intro h'
    have := List.all_eq_true.1 h' _ (List.getElem_mem h)
    rw [show btN l k = l[k].toNat by simp [btN, h]] at hw
    rw [hw] at this
    cases this
  unfold nameB
  rw [this]
  rfl
theorem name_step {l : List UInt8} {k : Nat} (h : k < l.length) (hp : (l.take k).all (fun b => wordZ b.toNat) = true) (hw : wordZ (btN l k) = true) : (l.take (k + 1)).all (fun b => wordZ b.toNat) = true := by
  rw [show btN l k = l[k].toNat by simp [btN, h]] at hw
  rw [List.take_add_one, List.all_append, hp]
  simp [h, hw]

set_option maxHeartbeats 2000000 in
set_option maxRecDepth 100000 in
theorem wordByte (x : Int) (w : World) :
    Calls Tryd.prog 80 #[.int .u8 x] w fun e w' => e = .returned (.bool (wordZ x)) ∧ w = w' := by
  have hr : (x < 48) ∨ (48 ≤ x ∧ x ≤ 57) ∨ (58 ≤ x ∧ x ≤ 64) ∨ (65 ≤ x ∧ x ≤ 90) ∨ (91 ≤ x ∧ x ≤ 94) ∨ (x = 95) ∨ (x = 96) ∨ (97 ≤ x ∧ x ≤ 122) ∨ (122 < x) := by omega
  rcases hr with hr | hr | hr | hr | hr | hr | hr | hr | hr
  · skip
    have c0 : decide ((65 : Int) ≤ x) = false := decide_eq_false (by omega)
    have c1 : decide (x ≤ (90 : Int)) = true := decide_eq_true (by omega)
    have c2 : decide ((97 : Int) ≤ x) = false := decide_eq_false (by omega)
    have c3 : decide (x ≤ (122 : Int)) = true := decide_eq_true (by omega)
    have c4 : decide ((48 : Int) ≤ x) = false := decide_eq_false (by omega)
    have c5 : decide (x ≤ (57 : Int)) = true := decide_eq_true (by omega)
    have c6 : (x == 95) = false := by simp; omega
    have hw : wordZ x = false := by unfold wordZ; rw [c0, c1, c2, c3, c4, c5, c6]; rfl
    have Hr := Lib.hid hr
    clear hr
    rw [hw]
    clear hw
    go_enter Tryd.func80, Tryd.ntmps80
    go_wp2_with fail
    go_ret
    exact ⟨rfl, rfl⟩
  · skip
    have c0 : decide ((65 : Int) ≤ x) = false := decide_eq_false (by omega)
    have c1 : decide (x ≤ (90 : Int)) = true := decide_eq_true (by omega)
    have c2 : decide ((97 : Int) ≤ x) = false := decide_eq_false (by omega)
    have c3 : decide (x ≤ (122 : Int)) = true := decide_eq_true (by omega)
    have c4 : decide ((48 : Int) ≤ x) = true := decide_eq_true (by omega)
    have c5 : decide (x ≤ (57 : Int)) = true := decide_eq_true (by omega)
    have c6 : (x == 95) = false := by simp; omega
    have hw : wordZ x = true := by unfold wordZ; rw [c0, c1, c2, c3, c4, c5, c6]; rfl
    have Hr := Lib.hid hr
    clear hr
    rw [hw]
    clear hw
    go_enter Tryd.func80, Tryd.ntmps80
    go_wp2_with fail
    go_ret
    exact ⟨rfl, rfl⟩
  · skip
    have c0 : decide ((65 : Int) ≤ x) = false := decide_eq_false (by omega)
    have c1 : decide (x ≤ (90 : Int)) = true := decide_eq_true (by omega)
    have c2 : decide ((97 : Int) ≤ x) = false := decide_eq_false (by omega)
    have c3 : decide (x ≤ (122 : Int)) = true := decide_eq_true (by omega)
    have c4 : decide ((48 : Int) ≤ x) = true := decide_eq_true (by omega)
    have c5 : decide (x ≤ (57 : Int)) = false := decide_eq_false (by omega)
    have c6 : (x == 95) = false := by simp; omega
    have hw : wordZ x = false := by unfold wordZ; rw [c0, c1, c2, c3, c4, c5, c6]; rfl
    have Hr := Lib.hid hr
    clear hr
    rw [hw]
    clear hw
    go_enter Tryd.func80, Tryd.ntmps80
    go_wp2_with fail
    go_ret
    exact ⟨rfl, rfl⟩
  · skip
    have c0 : decide ((65 : Int) ≤ x) = true := decide_eq_true (by omega)
    have c1 : decide (x ≤ (90 : Int)) = true := decide_eq_true (by omega)
    have c2 : decide ((97 : Int) ≤ x) = false := decide_eq_false (by omega)
    have c3 : decide (x ≤ (122 : Int)) = true := decide_eq_true (by omega)
    have c4 : decide ((48 : Int) ≤ x) = true := decide_eq_true (by omega)
    have c5 : decide (x ≤ (57 : Int)) = false := decide_eq_false (by omega)
    have c6 : (x == 95) = false := by simp; omega
    have hw : wordZ x = true := by unfold wordZ; rw [c0, c1, c2, c3, c4, c5, c6]; rfl
    have Hr := Lib.hid hr
    clear hr
    rw [hw]
    clear hw
    go_enter Tryd.func80, Tryd.ntmps80
    go_wp2_with fail
    go_ret
    exact ⟨rfl, rfl⟩
  · skip
    have c0 : decide ((65 : Int) ≤ x) = true := decide_eq_true (by omega)
    have c1 : decide (x ≤ (90 : Int)) = false := decide_eq_false (by omega)
    have c2 : decide ((97 : Int) ≤ x) = false := decide_eq_false (by omega)
    have c3 : decide (x ≤ (122 : Int)) = true := decide_eq_true (by omega)
    have c4 : decide ((48 : Int) ≤ x) = true := decide_eq_true (by omega)
    have c5 : decide (x ≤ (57 : Int)) = false := decide_eq_false (by omega)
    have c6 : (x == 95) = false := by simp; omega
    have hw : wordZ x = false := by unfold wordZ; rw [c0, c1, c2, c3, c4, c5, c6]; rfl
    have Hr := Lib.hid hr
    clear hr
    rw [hw]
    clear hw
    go_enter Tryd.func80, Tryd.ntmps80
    go_wp2_with fail
    go_ret
    exact ⟨rfl, rfl⟩
  · skip
    have c0 : decide ((65 : Int) ≤ x) = true := decide_eq_true (by omega)
    have c1 : decide (x ≤ (90 : Int)) = false := decide_eq_false (by omega)
    have c2 : decide ((97 : Int) ≤ x) = false := decide_eq_false (by omega)
    have c3 : decide (x ≤ (122 : Int)) = true := decide_eq_true (by omega)
    have c4 : decide ((48 : Int) ≤ x) = true := decide_eq_true (by omega)
    have c5 : decide (x ≤ (57 : Int)) = false := decide_eq_false (by omega)
    have c6 : (x == 95) = true := by simp; omega
    have hw : wordZ x = true := by unfold wordZ; rw [c0, c1, c2, c3, c4, c5, c6]; rfl
    have Hr := Lib.hid hr
    clear hr
    rw [hw]
    clear hw
    go_enter Tryd.func80, Tryd.ntmps80
    go_wp2_with fail
    go_ret
    exact ⟨rfl, rfl⟩
  · skip
    have c0 : decide ((65 : Int) ≤ x) = true := decide_eq_true (by omega)
    have c1 : decide (x ≤ (90 : Int)) = false := decide_eq_false (by omega)
    have c2 : decide ((97 : Int) ≤ x) = false := decide_eq_false (by omega)
    have c3 : decide (x ≤ (122 : Int)) = true := decide_eq_true (by omega)
    have c4 : decide ((48 : Int) ≤ x) = true := decide_eq_true (by omega)
    have c5 : decide (x ≤ (57 : Int)) = false := decide_eq_false (by omega)
    have c6 : (x == 95) = false := by simp; omega
    have hw : wordZ x = false := by unfold wordZ; rw [c0, c1, c2, c3, c4, c5, c6]; rfl
    have Hr := Lib.hid hr
    clear hr
    rw [hw]
    clear hw
    go_enter Tryd.func80, Tryd.ntmps80
    go_wp2_with fail
    go_ret
    exact ⟨rfl, rfl⟩
  · skip
    have c0 : decide ((65 : Int) ≤ x) = true := decide_eq_true (by omega)
    have c1 : decide (x ≤ (90 : Int)) = false := decide_eq_false (by omega)
    have c2 : decide ((97 : Int) ≤ x) = true := decide_eq_true (by omega)
    have c3 : decide (x ≤ (122 : Int)) = true := decide_eq_true (by omega)
    have c4 : decide ((48 : Int) ≤ x) = true := decide_eq_true (by omega)
    have c5 : decide (x ≤ (57 : Int)) = false := decide_eq_false (by omega)
    have c6 : (x == 95) = false := by simp; omega
    have hw : wordZ x = true := by unfold wordZ; rw [c0, c1, c2, c3, c4, c5, c6]; rfl
    have Hr := Lib.hid hr
    clear hr
    rw [hw]
    clear hw
    go_enter Tryd.func80, Tryd.ntmps80
    go_wp2_with fail
    go_ret
    exact ⟨rfl, rfl⟩
  · skip
    have c0 : decide ((65 : Int) ≤ x) = true := decide_eq_true (by omega)
    have c1 : decide (x ≤ (90 : Int)) = false := decide_eq_false (by omega)
    have c2 : decide ((97 : Int) ≤ x) = true := decide_eq_true (by omega)
    have c3 : decide (x ≤ (122 : Int)) = false := decide_eq_false (by omega)
    have c4 : decide ((48 : Int) ≤ x) = true := decide_eq_true (by omega)
    have c5 : decide (x ≤ (57 : Int)) = false := decide_eq_false (by omega)
    have c6 : (x == 95) = false := by simp; omega
    have hw : wordZ x = false := by unfold wordZ; rw [c0, c1, c2, c3, c4, c5, c6]; rfl
    have Hr := Lib.hid hr
    clear hr
    rw [hw]
    clear hw
    go_enter Tryd.func80, Tryd.ntmps80
    go_wp2_with fail
    go_ret
    exact ⟨rfl, rfl⟩

set_option maxHeartbeats 8000000 in
set_option maxRecDepth 100000 in
theorem rfName (l : List UInt8) (w : World) (hl : l.length ≤ 9223372036854775807) :
    Calls Tryd.prog 47 #[.string ⟨l.toArray⟩] w fun e w' => e = .returned (.bool (nameB l)) ∧ w = w' := by
  go_enter Tryd.func47, Tryd.ntmps47
  go_wp2_with fail
  go_loop [3] (fun i => ∃ k : Nat, k ≤ l.length ∧ i = .int .i64 k ∧ Hid ((l.take k).all (fun b => wordZ b.toNat) = true)) (fun i => l.length - (intOf i).toNat)
  case atStart => exact ⟨0, Nat.zero_le _, rfl, Lib.hid rfl⟩
  case round =>
    obtain ⟨k, hk, rfl, HK⟩ := hrel
    by_cases hlt : k < l.length
    · have hbt := btN_lt l k
      have hki : (k : Int) < l.length := by omega
      have HB := Lib.hid (fun h => name_bad hlt h)
      have HG := Lib.hid (fun h => name_step hlt HK.out h)
      have hx : ∃ x : Int, (btN l k : Int) = x := ⟨_, rfl⟩
      obtain ⟨x, hx⟩ := hx
      rw [hx] at HB HG
      have hr : (x < 48) ∨ (48 ≤ x ∧ x ≤ 57) ∨ (58 ≤ x ∧ x ≤ 64) ∨ (65 ≤ x ∧ x ≤ 90) ∨ (91 ≤ x ∧ x ≤ 94) ∨ (x = 95) ∨ (x = 96) ∨ (97 ≤ x ∧ x ≤ 122) ∨ (122 < x) := by omega
      rcases hr with hr | hr | hr | hr | hr | hr | hr | hr | hr
      · have c0 : decide ((65 : Int) ≤ x) = false := decide_eq_false (by omega)
        have c1 : decide (x ≤ (90 : Int)) = true := decide_eq_true (by omega)
        have c2 : decide ((97 : Int) ≤ x) = false := decide_eq_false (by omega)
        have c3 : decide (x ≤ (122 : Int)) = true := decide_eq_true (by omega)
        have c4 : decide ((48 : Int) ≤ x) = false := decide_eq_false (by omega)
        have c5 : decide (x ≤ (57 : Int)) = true := decide_eq_true (by omega)
        have c6 : (x == 95) = false := by simp; omega
        have hw : wordZ x = false := by unfold wordZ; rw [c0, c1, c2, c3, c4, c5, c6]; rfl
        have Hn := Lib.hid (HB.out hw)
        have Hr := Lib.hid hr
        have Hw := Lib.hid hw
        clear hr hw
        go_wp2_with fail
        go_ret
        exact ⟨by rw [Hn.out]; rfl, rfl⟩
      · have c0 : decide ((65 : Int) ≤ x) = false := decide_eq_false (by omega)
        have c1 : decide (x ≤ (90 : Int)) = true := decide_eq_true (by omega)
        have c2 : decide ((97 : Int) ≤ x) = false := decide_eq_false (by omega)
        have c3 : decide (x ≤ (122 : Int)) = true := decide_eq_true (by omega)
        have c4 : decide ((48 : Int) ≤ x) = true := decide_eq_true (by omega)
        have c5 : decide (x ≤ (57 : Int)) = true := decide_eq_true (by omega)
        have c6 : (x == 95) = false := by simp; omega
        have hw : wordZ x = true := by unfold wordZ; rw [c0, c1, c2, c3, c4, c5, c6]; rfl
        have Hn := HG.out hw
        have Hr := Lib.hid hr
        have Hw := Lib.hid hw
        clear hr hw
        go_wp2_with fail
        go_round
        case rel => exact ⟨k + 1, by omega, by go_num, Lib.hid Hn⟩
        case measure => simp [intOf]; omega
      · have c0 : decide ((65 : Int) ≤ x) = false := decide_eq_false (by omega)
        have c1 : decide (x ≤ (90 : Int)) = true := decide_eq_true (by omega)
        have c2 : decide ((97 : Int) ≤ x) = false := decide_eq_false (by omega)
        have c3 : decide (x ≤ (122 : Int)) = true := decide_eq_true (by omega)
        have c4 : decide ((48 : Int) ≤ x) = true := decide_eq_true (by omega)
        have c5 : decide (x ≤ (57 : Int)) = false := decide_eq_false (by omega)
        have c6 : (x == 95) = false := by simp; omega
        have hw : wordZ x = false := by unfold wordZ; rw [c0, c1, c2, c3, c4, c5, c6]; rfl
        have Hn := Lib.hid (HB.out hw)
        have Hr := Lib.hid hr
        have Hw := Lib.hid hw
        clear hr hw
        go_wp2_with fail
        go_ret
        exact ⟨by rw [Hn.out]; rfl, rfl⟩
      · have c0 : decide ((65 : Int) ≤ x) = true := decide_eq_true (by omega)
        have c1 : decide (x ≤ (90 : Int)) = true := decide_eq_true (by omega)
        have c2 : decide ((97 : Int) ≤ x) = false := decide_eq_false (by omega)
        have c3 : decide (x ≤ (122 : Int)) = true := decide_eq_true (by omega)
        have c4 : decide ((48 : Int) ≤ x) = true := decide_eq_true (by omega)
        have c5 : decide (x ≤ (57 : Int)) = false := decide_eq_false (by omega)
        have c6 : (x == 95) = false := by simp; omega
        have hw : wordZ x = true := by unfold wordZ; rw [c0, c1, c2, c3, c4, c5, c6]; rfl
        have Hn := HG.out hw
        have Hr := Lib.hid hr
        have Hw := Lib.hid hw
        clear hr hw
        go_wp2_with fail
        go_round
        case rel => exact ⟨k + 1, by omega, by go_num, Lib.hid Hn⟩
        case measure => simp [intOf]; omega
      · have c0 : decide ((65 : Int) ≤ x) = true := decide_eq_true (by omega)
        have c1 : decide (x ≤ (90 : Int)) = false := decide_eq_false (by omega)
        have c2 : decide ((97 : Int) ≤ x) = false := decide_eq_false (by omega)
        have c3 : decide (x ≤ (122 : Int)) = true := decide_eq_true (by omega)
        have c4 : decide ((48 : Int) ≤ x) = true := decide_eq_true (by omega)
        have c5 : decide (x ≤ (57 : Int)) = false := decide_eq_false (by omega)
        have c6 : (x == 95) = false := by simp; omega
        have hw : wordZ x = false := by unfold wordZ; rw [c0, c1, c2, c3, c4, c5, c6]; rfl
        have Hn := Lib.hid (HB.out hw)
        have Hr := Lib.hid hr
        have Hw := Lib.hid hw
        clear hr hw
        go_wp2_with fail
        go_ret
        exact ⟨by rw [Hn.out]; rfl, rfl⟩
      · have c0 : decide ((65 : Int) ≤ x) = true := decide_eq_true (by omega)
        have c1 : decide (x ≤ (90 : Int)) = false := decide_eq_false (by omega)
        have c2 : decide ((97 : Int) ≤ x) = false := decide_eq_false (by omega)
        have c3 : decide (x ≤ (122 : Int)) = true := decide_eq_true (by omega)
        have c4 : decide ((48 : Int) ≤ x) = true := decide_eq_true (by omega)
        have c5 : decide (x ≤ (57 : Int)) = false := decide_eq_false (by omega)
        have c6 : (x == 95) = true := by simp; omega
        have hw : wordZ x = true := by unfold wordZ; rw [c0, c1, c2, c3, c4, c5, c6]; rfl
        have Hn := HG.out hw
        have Hr := Lib.hid hr
        have Hw := Lib.hid hw
        clear hr hw
        go_wp2_with fail
        go_round
        case rel => exact ⟨k + 1, by omega, by go_num, Lib.hid Hn⟩
        case measure => simp [intOf]; omega
      · have c0 : decide ((65 : Int) ≤ x) = true := decide_eq_true (by omega)
        have c1 : decide (x ≤ (90 : Int)) = false := decide_eq_false (by omega)
        have c2 : decide ((97 : Int) ≤ x) = false := decide_eq_false (by omega)
        have c3 : decide (x ≤ (122 : Int)) = true := decide_eq_true (by omega)
        have c4 : decide ((48 : Int) ≤ x) = true := decide_eq_true (by omega)
        have c5 : decide (x ≤ (57 : Int)) = false := decide_eq_false (by omega)
        have c6 : (x == 95) = false := by simp; omega
        have hw : wordZ x = false := by unfold wordZ; rw [c0, c1, c2, c3, c4, c5, c6]; rfl
        have Hn := Lib.hid (HB.out hw)
        have Hr := Lib.hid hr
        have Hw := Lib.hid hw
        clear hr hw
        go_wp2_with fail
        go_ret
        exact ⟨by rw [Hn.out]; rfl, rfl⟩
      · have c0 : decide ((65 : Int) ≤ x) = true := decide_eq_true (by omega)
        have c1 : decide (x ≤ (90 : Int)) = false := decide_eq_false (by omega)
        have c2 : decide ((97 : Int) ≤ x) = true := decide_eq_true (by omega)
        have c3 : decide (x ≤ (122 : Int)) = true := decide_eq_true (by omega)
        have c4 : decide ((48 : Int) ≤ x) = true := decide_eq_true (by omega)
        have c5 : decide (x ≤ (57 : Int)) = false := decide_eq_false (by omega)
        have c6 : (x == 95) = false := by simp; omega
        have hw : wordZ x = true := by unfold wordZ; rw [c0, c1, c2, c3, c4, c5, c6]; rfl
        have Hn := HG.out hw
        have Hr := Lib.hid hr
        have Hw := Lib.hid hw
        clear hr hw
        go_wp2_with fail
        go_round
        case rel => exact ⟨k + 1, by omega, by go_num, Lib.hid Hn⟩
        case measure => simp [intOf]; omega
      · have c0 : decide ((65 : Int) ≤ x) = true := decide_eq_true (by omega)
        have c1 : decide (x ≤ (90 : Int)) = false := decide_eq_false (by omega)
        have c2 : decide ((97 : Int) ≤ x) = true := decide_eq_true (by omega)
        have c3 : decide (x ≤ (122 : Int)) = false := decide_eq_false (by omega)
        have c4 : decide ((48 : Int) ≤ x) = true := decide_eq_true (by omega)
        have c5 : decide (x ≤ (57 : Int)) = false := decide_eq_false (by omega)
        have c6 : (x == 95) = false := by simp; omega
        have hw : wordZ x = false := by unfold wordZ; rw [c0, c1, c2, c3, c4, c5, c6]; rfl
        have Hn := Lib.hid (HB.out hw)
        have Hr := Lib.hid hr
        have Hw := Lib.hid hw
        clear hr hw
        go_wp2_with fail
        go_ret
        exact ⟨by rw [Hn.out]; rfl, rfl⟩
    · obtain rfl : k = l.length := by omega
      have hki : ¬ (l.length : Int) < l.length := by omega
      have hall := HK.out
      rw [List.take_length] at hall
      by_cases hn : l = []
      · subst hn
        have Hall := Lib.hid hall
        clear hall
        go_wp2_with fail
        go_ret
        exact ⟨rfl, rfl⟩
      · have h0 : 0 < l.length := by cases l with | nil => exact absurd rfl hn | cons => simp
        have hne : decide ((1 : Int) ≤ (l.length : Int)) = true := decide_eq_true (by omega)
        by_cases h32 : l.length ≤ 32
        · have hd : decide ((l.length : Int) ≤ 32) = true := decide_eq_true (by omega)
          have HR := Lib.hid (show nameB l = true by unfold nameB; rw [hall]; simp [hn, h32])
          have Hall := Lib.hid hall
          have Hn := Lib.hid hn
          clear hall hn
          go_wp2_with fail
          go_ret
          exact ⟨by rw [HR.out]; rfl, rfl⟩
        · have hd : decide ((l.length : Int) ≤ 32) = false := decide_eq_false (by omega)
          have HR := Lib.hid (show nameB l = false by unfold nameB; rw [decide_eq_false h32]; simp)
          have Hall := Lib.hid hall
          have Hn := Lib.hid hn
          clear hall hn
          go_wp2_with fail
          go_ret
          exact ⟨by rw [HR.out]; rfl, rfl⟩

theorem blank_ba (d e : List UInt8) : (⟨d.toArray⟩ : ByteArray) ++ ⟨#[32]⟩ ++ ⟨e.toArray⟩ = ⟨(d ++ 32 :: e).toArray⟩ := by
  have h1 : (⟨d.toArray⟩ : ByteArray) ++ ⟨#[32]⟩ = ⟨(d ++ [32]).toArray⟩ := ba_app d [32]
  rw [h1, ba_app]
  simp
end Go.Proofs.YtlmdjggpeiddoaaDoor
namespace Go.Proofs.YtlmdjggpeiddoaaDoor
open Go.RowKit Go.Sort

theorem zeroBoolB (w : World) : (zeroValue 4).run Tryd.prog w = .ok (.bool false) w := by kernel_rfl
theorem StrsAt.at_ {w : World} {A : Option Addr} {ps : List (List UInt8)} (h : StrsAt w A ps) {k : Nat} (hk : k < ps.length) : ∃ b off, A = some ⟨b, off, none⟩ ∧ b < w.heap.size ∧ w.cell? ⟨b, off + k, none⟩ = some (.string ⟨(piece ps k).toArray⟩) := by
  obtain ⟨b, off, e, hb, hc⟩ := h (by omega)
  exact ⟨b, off, e, hb, hc k hk⟩
/-- the bytes of a name, and no word -/
def nameC (l : List UInt8) : Bool := l.all (fun b => wordZ b.toNat) && ((l != []) && !kwB l)
def okName (l : List UInt8) : Bool := nameB l && !kwB l
theorem okName_of {l : List UInt8} : okName l = (nameC l && decide (l.length ≤ 32)) := by
  unfold okName nameC nameB
  cases l.all (fun b => wordZ b.toNat) <;> cases (l != []) <;> cases kwB l <;> cases decide (l.length ≤ 32) <;> rfl
def goodAt (ps : List (List UInt8)) (i : Nat) : Bool := okName (piece ps i) && !((ps.take i).contains (piece ps i))
def namesG (ps : List (List UInt8)) (k : Nat) : Bool := (List.range k).all (goodAt ps)
/-- the names of classes are as required -/
def namesOk (ps : List (List UInt8)) : Bool := decide (1 ≤ ps.length) && decide (ps.length ≤ 60) && namesG ps ps.length
theorem names_bad {ps : List (List UInt8)} {k : Nat} (h : k < ps.length) (hk : goodAt ps k = false) : namesOk ps = false := by
  unfold namesOk namesG
  rw [range_bad h hk, Bool.and_false]
theorem names_step {ps : List (List UInt8)} {k : Nat} (h : namesG ps k = true) (hk : goodAt ps k = true) : namesG ps (k + 1) = true := range_step h hk
theorem nameC_bad {l : List UInt8} {k : Nat} (h : k < l.length) (hw : wordZ (btN l k) = false) : nameC l = false := by
  have : l.all (fun b => wordZ b.toNat) = false := by
    rw [← Bool.not_eq_true]
    intro h'
    have := List.all_eq_true.1 h' _ (List.getElem_mem h)
    rw [show btN l k = l[k].toNat by simp [btN, h]] at hw
    rw [hw] at this
    cases this
  unfold nameC
  rw [this]
  rfl

set_option maxHeartbeats 2000000 in
set_option maxRecDepth 100000 in
theorem isName (l : List UInt8) (w : World) (hl : l.length ≤ 9223372036854775807) :
    Calls Tryd.prog 64 #[.string ⟨l.toArray⟩] w fun e w' => e = .returned (.bool (nameC l)) ∧ w = w' := by
  have hW := fun w' => isWord l w'
  go_enter Tryd.func64, Tryd.ntmps64
  go_wp2_with fail
  go_loop [6] (fun i => ∃ k : Nat, k ≤ l.length ∧ i = .int .i64 k ∧ Hid ((l.take k).all (fun b => wordZ b.toNat) = true)) (fun i => l.length - (intOf i).toNat)
  case atStart => exact ⟨0, Nat.zero_le _, rfl, Lib.hid rfl⟩
  case round =>
    obtain ⟨k, hk, rfl, HK⟩ := hrel
    by_cases hlt : k < l.length
    · have hbt := btN_lt l k
      have hki : (k : Int) < l.length := by omega
      have HB := Lib.hid (fun h => nameC_bad hlt h)
      have HG := Lib.hid (fun h => name_step hlt HK.out h)
      have HW := Lib.hid (fun w' => wordByte (btN l k : Nat) w')
      clear hW
      cases hw : wordZ (btN l k : Nat) with
      | true =>
        rw [hw] at HW
        have Hn := HG.out hw
        have Hw := Lib.hid hw
        clear hw
        clear HB
        go_wp2_with fail
        refine (HW.out _).mono ?_
        rintro e w1 ⟨rfl, rfl⟩
        go_wp2_with fail
        go_round
        case rel => exact ⟨k + 1, by omega, by go_num, Lib.hid Hn⟩
        case measure => simp [intOf]; omega
      | false =>
        rw [hw] at HW
        have Hn := Lib.hid (HB.out hw)
        have Hw := Lib.hid hw
        clear hw
        clear HG HB
        go_wp2_with fail
        refine (HW.out _).mono ?_
        rintro e w1 ⟨rfl, rfl⟩
        go_wp2_with fail
        go_ret
        exact ⟨by rw [Hn.out]; rfl, rfl⟩
    · obtain rfl : k = l.length := by omega
      have HA : Hid (l.all (fun b => wordZ b.toNat) = true) := Lib.hid (by have := HK.out; rwa [List.take_length] at this)
      clear HK
      have HR := Lib.hid (show nameC l = ((l != []) && !kwB l) by unfold nameC; rw [HA.out]; rfl)
      have HW := Lib.hid hW
      clear HA hW
      cases l with
      | nil =>
        go_wp2_with fail
        go_ret
        exact ⟨by rw [HR.out]; rfl, rfl⟩
      | cons b r =>
        have hne : ((b :: r) != []) = true := rfl
        rw [hne, Bool.true_and] at HR
        go_wp2_with fail
        refine (HW.out _).mono ?_
        rintro e w1 ⟨rfl, rfl⟩
        go_wp2_with fail
        go_ret
        exact ⟨by rw [HR.out]; rfl, rfl⟩

def kwL : List (List UInt8) := [kw0, kw1, kw2, kw3, kw4, kw5, kw6]
theorem kwB_any (l : List UInt8) : kwB l = kwL.any (fun x => x == l) := by
  unfold kwB kwL
  simp only [List.any_cons, List.any_nil, Bool.or_false]
  rw [Bool.beq_comm (a := kw0), Bool.beq_comm (a := kw1), Bool.beq_comm (a := kw2), Bool.beq_comm (a := kw3), Bool.beq_comm (a := kw4), Bool.beq_comm (a := kw5), Bool.beq_comm (a := kw6)]
  simp only [Bool.or_assoc]
theorem kw_cells (w : World) {k : Nat} (hk : k < 7) : (w.alloc (.cells #[.string ⟨kw0.toArray⟩, .string ⟨kw1.toArray⟩, .string ⟨kw2.toArray⟩, .string ⟨kw3.toArray⟩, .string ⟨kw4.toArray⟩, .string ⟨kw5.toArray⟩, .string ⟨kw6.toArray⟩] 9)).cell? ⟨w.heap.size, k, none⟩ = some (.string ⟨(piece kwL k).toArray⟩) := by
  rw [cell_box]
  obtain rfl | rfl | rfl | rfl | rfl | rfl | rfl : k = 0 ∨ k = 1 ∨ k = 2 ∨ k = 3 ∨ k = 4 ∨ k = 5 ∨ k = 6 := by omega
  all_goals rfl

set_option maxHeartbeats 2000000 in
set_option maxRecDepth 100000 in
theorem rfWord (l : List UInt8) (w : World) :
    Calls Tryd.prog 48 #[.string ⟨l.toArray⟩] w fun e w' => e = .returned (.bool (kwB l)) ∧ Below w.heap.size w w' := by
  have HK := Lib.hid (kwB_any l)
  have HC := Lib.hid (fun k hk => kw_cells w (k := k) hk)
  generalize kwB l = r at HK
  go_enter Tryd.func48, Tryd.ntmps48
  go_wp2_with fail
  go_loop [4] (fun i => ∃ k : Nat, k ≤ 7 ∧ i = .int .i64 k ∧ Hid (kwL.any (fun x => x == l) = (kwL.drop k).any (fun x => x == l))) (fun i => 7 - (intOf i).toNat)
  case atStart => exact ⟨0, by omega, rfl, Lib.hid rfl⟩
  case round =>
    obtain ⟨k, hk, rfl, HR⟩ := hrel
    by_cases hlt : k < 7
    · have hki : (k : Int) < 7 := by omega
      have c0 := HC.out k hlt
      have HD := Lib.hid (HR.out.trans (congrArg (fun x => x.any (fun x => x == l)) (drop_piece (ps := kwL) (k := k) hlt)))
      generalize piece kwL k = p at c0 HD
      unfold kw0 kw1 kw2 kw3 kw4 kw5 kw6 at c0
      cases hp : (p == l) with
      | true =>
        have HE := Lib.hid (show r = true by rw [HK.out, HD.out, List.any_cons, hp]; rfl)
        obtain rfl : r = true := HE.out
        clear HE
        go_wp2_with fail
        go_ret
        exact ⟨rfl, bBox w _⟩
      | false =>
        have HE := Lib.hid (show kwL.any (fun x => x == l) = (kwL.drop (k + 1)).any (fun x => x == l) by rw [HD.out, List.any_cons, hp]; rfl)
        go_wp2_with fail
        go_round
        case rel => exact ⟨k + 1, by omega, by go_num, HE⟩
        case measure => simp [intOf]; omega
    · obtain rfl : k = 7 := by omega
      have HE := Lib.hid (show r = false by rw [HK.out, HR.out]; rfl)
      obtain rfl : r = false := HE.out
      clear HE
      go_wp2_with fail
      go_ret
      exact ⟨rfl, bBox w _⟩

theorem seen_snoc {ps : List (List UInt8)} {m : Nat} (hm : m < ps.length) : (fun y => y == piece ps m || (ps.take m).contains y) = fun y => (ps.take (m + 1)).contains y := by
  funext y
  rw [List.take_succ_eq_append_getElem hm, show ps[m] = piece ps m by unfold piece; simp [hm], Bool.eq_iff_iff]
  simp
  constructor <;> (intro h; rcases h with h | h <;> simp [h])

set_option maxHeartbeats 4000000 in
set_option maxRecDepth 100000 in
theorem namesValid (ps : List (List UInt8)) (A : Option Addr) (cap : Nat) (w : World) (hA : StrsAt w A ps) (hps : ∀ p ∈ ps, p.length ≤ 9223372036854775807) (hl : ps.length ≤ 1000000) :
    Calls Tryd.prog 44 #[.slice A ps.length cap] w fun e w' => e = .returned (.bool (namesOk ps)) ∧ Below w.heap.size w w' := by
  have hmm := @run_makeMap Tryd.prog
  by_cases h1 : ps.length < 1
  · have hr : namesOk ps = false := by unfold namesOk; rw [show decide (1 ≤ ps.length) = false from decide_eq_false (by omega)]; rfl
    have t1 : decide (ps.length < 1) = true := by simpa using h1
    have t2 : decide ((ps.length : Int) < 1) = true := by simp; omega
    rw [hr]
    have Hr := Lib.hid hr
    have HA := Lib.hid hA
    clear hr hA
    clear hps
    go_enter Tryd.func44, Tryd.ntmps44
    go_wp2_with fail
    go_ret
    exact ⟨rfl, Below.refl _ _⟩
  · have t1 : decide (ps.length < 1) = false := by simpa using h1
    have t2 : decide ((ps.length : Int) < 1) = false := by simp; omega
    by_cases h2 : 60 < ps.length
    · have hr : namesOk ps = false := by unfold namesOk; rw [show decide (ps.length ≤ 60) = false from decide_eq_false (by omega), Bool.and_false]; rfl
      have t3 : decide (60 < ps.length) = true := by simpa using h2
      have t4 : decide ((60 : Int) < ps.length) = true := by simp; omega
      rw [hr]
      have Hr := Lib.hid hr
      have HA := Lib.hid hA
      clear hr hA
      clear hps
      go_enter Tryd.func44, Tryd.ntmps44
      go_wp2_with fail
      go_ret
      exact ⟨rfl, Below.refl _ _⟩
    · have t3 : decide (60 < ps.length) = false := by simpa using h2
      have t4 : decide ((60 : Int) < ps.length) = false := by simp; omega
      have HN := Lib.hid (show namesOk ps = namesG ps ps.length by unfold namesOk; rw [show decide (1 ≤ ps.length) = true from decide_eq_true (by omega), show decide (ps.length ≤ 60) = true from decide_eq_true (by omega)]; rfl)
      have HBad := Lib.hid (fun k h hk => names_bad (ps := ps) (k := k) h hk)
      generalize namesOk ps = r at HN HBad
      have HA := Lib.hid hA
      have Hps := Lib.hid hps
      clear hA hps
      go_enter Tryd.func44, Tryd.ntmps44
      go_wp2_with fail
      clear t1 t2 t3 t4
      go_loopw [17] (fun i wr => ∃ m : Nat, m ≤ ps.length ∧ i = .int .i64 m ∧ Hid (namesG ps m = true) ∧ SetS Tryd.prog 9 4 wr w.heap.size m (fun y => (ps.take m).contains y) ∧ Below w.heap.size w wr) (fun i _ => ps.length - (intOf i).toNat)
      case atStart => exact ⟨0, Nat.zero_le _, rfl, Lib.hid rfl, by simpa using SetS.made w Tryd.prog 9 4, bBox w _⟩
      case round =>
        obtain ⟨m, hm, rfl, HG, hset, hbel⟩ := hrel
        by_cases hlt : m < ps.length
        · have hmi : (m : Int) < ps.length := by omega
          obtain ⟨b, off, rfl, hb, hc⟩ := HA.out.at_ (k := m) hlt
          have hcm : wr.cell? ⟨b, off + m, none⟩ = some (.string ⟨(piece ps m).toArray⟩) := (hbel.cell (p := ⟨b, off + m, none⟩) hb).trans hc
          clear hc
          have hpl := Hps.out _ (piece_mem hlt)
          have hlook := hset.look (t := 106) Tryd.underlying9 Tryd.underlying106 Tryd.underlying4 (zeroBoolB wr) (x := piece ps m) (by unfold maxLen; omega)
          obtain ⟨w1, hupd, hset1, hg1⟩ := hset.store (t := 106) Tryd.underlying9 Tryd.underlying106 Tryd.underlying4 (by unfold maxLen; omega) (x := piece ps m) (by unfold maxLen; omega)
          rw [seen_snoc hlt] at hset1
          have hb1 : Below w.heap.size w w1 := hbel.grown hg1 hbel.size (by intro k hk; cases hk; exact Nat.le_refl _)
          have HI := Lib.hid (fun w' => isName (piece ps m) w' hpl)
          have HB1 := Lib.hid (HBad.out m hlt)
          have HS1 := Lib.hid (fun h => names_step (ps := ps) (k := m) HG.out h)
          have HD := Lib.hid (show goodAt ps m = ((nameC (piece ps m) && decide ((piece ps m).length ≤ 32)) && !((ps.take m).contains (piece ps m))) by unfold goodAt; rw [okName_of])
          generalize goodAt ps m = g at HB1 HS1 HD
          generalize piece ps m = p at hcm hpl hlook hupd hset1 HI HD
          have Hset1 := Lib.hid hset1
          clear hset hset1
          cases hC : nameC p with
          | false =>
            rw [hC] at HI HD
            have HF := Lib.hid (HB1.out (by rw [HD.out]; rfl))
            obtain rfl : r = false := HF.out
            clear HF hC hupd hlook
            go_wp2_with fail
            refine (HI.out _).mono ?_
            rintro e w2 ⟨rfl, rfl⟩
            go_wp2_with fail
            go_ret
            exact ⟨rfl, hbel⟩
          | true =>
            rw [hC, Bool.true_and] at HD
            rw [hC] at HI
            clear hC
            by_cases h32 : p.length ≤ 32
            · have t5 : decide (32 < p.length) = false := by simpa using h32
              have t6 : decide ((32 : Int) < p.length) = false := by simp; omega
              rw [show decide (p.length ≤ 32) = true from decide_eq_true h32, Bool.true_and] at HD
              cases hq : (ps.take m).contains p with
              | true =>
                rw [hq] at hlook HD
                have HF := Lib.hid (HB1.out (by rw [HD.out]; rfl))
                obtain rfl : r = false := HF.out
                clear HF hq hupd
                go_wp2_with fail
                refine (HI.out _).mono ?_
                rintro e w2 ⟨rfl, rfl⟩
                go_wp2_with fail
                go_ret
                exact ⟨rfl, hbel⟩
              | false =>
                rw [hq] at hlook HD
                have HF := Lib.hid (HS1.out (by rw [HD.out]; rfl))
                clear hq
                go_wp2_with fail
                refine (HI.out _).mono ?_
                rintro e w2 ⟨rfl, rfl⟩
                go_wp2_with fail
                go_roundw
                case rel => exact ⟨m + 1, by omega, by go_num, HF.out, Hset1.out, hb1⟩
                case measure => simp [intOf]; omega
            · have t5 : decide (32 < p.length) = true := by simpa using h32
              have t6 : decide ((32 : Int) < p.length) = true := by simp; omega
              rw [show decide (p.length ≤ 32) = false from decide_eq_false h32] at HD
              have HF := Lib.hid (HB1.out (by rw [HD.out]; rfl))
              obtain rfl : r = false := HF.out
              clear HF hupd hlook
              go_wp2_with fail
              refine (HI.out _).mono ?_
              rintro e w2 ⟨rfl, rfl⟩
              go_wp2_with fail
              go_ret
              exact ⟨rfl, hbel⟩
        · obtain rfl : m = ps.length := by omega
          have HF := Lib.hid (show r = true by rw [HN.out]; exact HG.out)
          obtain rfl : r = true := HF.out
          clear HF
          go_wp2_with fail
          go_ret
          exact ⟨rfl, hbel⟩
end Go.Proofs.YtlmdjggpeiddoaaDoor
