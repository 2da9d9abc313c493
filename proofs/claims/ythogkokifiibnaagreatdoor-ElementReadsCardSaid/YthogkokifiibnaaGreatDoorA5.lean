/- Parse of elements isName content: a line without its comment SameElements on equal lists escape.Codes and escape.ParseCodes, as the files of elements want them Files of elements: what is read. Plain. -/
import Derived.Test.YthogkokifiibnaaGreatDoorA4
import Derived.Lib.QuietBelow
import Derived.BigQuiet
import Derived.Lib.AtoiAll
import Derived.Lib.ItoaNum
namespace Go.Proofs.YthogkokifiibnaaGreatDoor
open Go.RowKit Go.Sort

/-- the elements of a text, or the error -/
def parseE (l : List UInt8) : List ElemD × Int := match readE l with | some es => if chksE es = 0 then (es, 0) else ([], chksE es) | none => ([], 3)
theorem readE_len : ∀ (n : Nat) {l : List UInt8} {es : List ElemD}, l.length ≤ n → readE l = some es → es.length * 17 = l.length
  | 0, l, es, h, he => by
    obtain rfl := List.length_eq_zero_iff.1 (by omega : l.length = 0)
    cases he
    rfl
  | n + 1, l, es, h, he => by
    by_cases h17 : 17 ≤ l.length
    · rw [readE_step h17] at he
      cases ht : elemT (l.take 17) with
      | none => rw [ht] at he; cases he
      | some d =>
        rw [ht] at he
        cases hr : readE (l.drop 17) with
        | none => simp [hr] at he
        | some r =>
          simp [hr] at he
          subst he
          have := readE_len n (l := l.drop 17) (by simp; omega) hr
          simp at this ⊢
          omega
    · by_cases h0 : l = []
      · subst h0
        cases he
        rfl
      · rw [readE_short h0 (by omega)] at he
        cases he

set_option maxHeartbeats 8000000 in
set_option maxRecDepth 100000 in
theorem elParse (l : List UInt8) (w : World) (hl : l.length ≤ 65536) :
    Calls Tryz.prog 10 #[.string ⟨l.toArray⟩] w fun e w' => (∃ A c, e = .returned (.tuple #[.slice A (parseE l).1.length c, .int .i64 (parseE l).2]) ∧ OwnE w' w.heap.size (.slice A (parseE l).1.length c) (parseE l).1) ∧ Below w.heap.size w w' := by
  have HR := Lib.hid (elRead l w hl)
  unfold ReadOut at HR
  cases hr : readE l with
  | none =>
    rw [hr] at HR
    have hp : parseE l = ([], 3) := by unfold parseE; rw [hr]
    rw [hp]
    have Hr := Lib.hid hr
    have Hp := Lib.hid hp
    clear hr hp
    go_enter Tryz.func10, Tryz.ntmps10
    go_wp2_with fail
    refine HR.out.mono ?_
    rintro e w1 ⟨rfl, hb1⟩
    go_wp2_with fail
    go_ret2
    exact ⟨⟨none, 0, rfl, OwnE.nil _ _⟩, hb1⟩
  | some es =>
    rw [hr] at HR
    have hlen := readE_len l.length (Nat.le_refl _) hr
    by_cases hc : chksE es = 0
    · have hp : parseE l = (es, 0) := by unfold parseE; rw [hr]; simp [hc]
      rw [hp]
      have Hr := Lib.hid hr
      have Hp := Lib.hid hp
      have Hc := Lib.hid hc
      clear hr hp hc
      go_enter Tryz.func10, Tryz.ntmps10
      go_wp2_with fail
      refine HR.out.mono ?_
      rintro e w1 ⟨⟨A, c, rfl, hO⟩, hb1⟩
      have HC := Lib.hid (elChecks es A c w1 hO.elems (by omega))
      rw [Hc.out] at HC
      have HO := Lib.hid hO
      have Hlen := Lib.hid hlen
      clear hO hlen
      go_wp2_with fail
      refine HC.out.mono ?_
      rintro e w2 ⟨rfl, hb2⟩
      go_wp2_with fail
      go_ret2
      exact ⟨⟨A, c, rfl, HO.out.keep hb2⟩, bUp hb1 hb2⟩
    · have hp : parseE l = ([], chksE es) := by unfold parseE; rw [hr]; simp [hc]
      have hne : (chksE es != 0) = true := by simp [hc]
      rw [hp]
      generalize hce : chksE es = ce at hne
      have Hr := Lib.hid hr
      have Hp := Lib.hid hp
      have Hc := Lib.hid hc
      have Hce := Lib.hid hce
      clear hr hp hc hce
      go_enter Tryz.func10, Tryz.ntmps10
      go_wp2_with fail
      refine HR.out.mono ?_
      rintro e w1 ⟨⟨A, c, rfl, hO⟩, hb1⟩
      have HC := Lib.hid (elChecks es A c w1 hO.elems (by omega))
      rw [Hce.out] at HC
      have HO := Lib.hid hO
      have Hlen := Lib.hid hlen
      clear hO hlen
      go_wp2_with fail
      refine HC.out.mono ?_
      rintro e w2 ⟨rfl, hb2⟩
      go_wp2_with fail
      go_ret2
      exact ⟨⟨none, 0, rfl, OwnE.nil _ _⟩, bUp hb1 hb2⟩
end Go.Proofs.YthogkokifiibnaaGreatDoor
namespace Go.Proofs.YthogkokifiibnaaGreatDoor
open Go.RowKit Go.Sort

def wordZ (x : Int) : Bool := (decide (65 ≤ x) && decide (x ≤ 90)) || (decide (97 ≤ x) && decide (x ≤ 122)) || (decide (48 ≤ x) && decide (x ≤ 57)) || x == 95
/-- a name: 1 to 32 letters, digits and _ -/
def nameB (l : List UInt8) : Bool := l.all (fun b => wordZ b.toNat) && (l != []) && decide (l.length ≤ 32)
theorem name_bad {l : List UInt8} {k : Nat} (h : k < l.length) (hw : wordZ (btN l k) = false) : nameB l = false := by
  have : l.all (fun b => wordZ b.toNat) = false := by
    rw [← Bool.not_eq_true]
    intro h'
    have := List.all_eq_true.1 h' _ (List.getElem_mem h)
    rw [show btN l k = l[k].toNat by simp [btN, h]] at hw
    rw [hw] at this
    cases this
  unfold nameB
  rw [this]
  rfl
theorem name_step {l : List UInt8} {k : Nat} (h : k < l.length) (hp : (l.take k).all (fun b => wordZ b.toNat) = true) (hw : wordZ (btN l k) = true) : (l.take (k + 1)).all (fun b => wordZ b.toNat) = true := by
  rw [show btN l k = l[k].toNat by simp [btN, h]] at hw
  rw [List.take_add_one, List.all_append, hp]
  simp [h, hw]

set_option maxHeartbeats 8000000 in
set_option maxRecDepth 100000 in
theorem elName (l : List UInt8) (w : World) (hl : l.length ≤ 9223372036854775807) :
    Calls Tryz.prog 53 #[.string ⟨l.toArray⟩] w fun e w' => e = .returned (.bool (nameB l)) ∧ w = w' := by
  go_enter Tryz.func53, Tryz.ntmps53
  go_wp2_with fail
  go_loop [7] (fun i => ∃ k : Nat, k ≤ l.length ∧ i = .int .i64 k ∧ Hid ((l.take k).all (fun b => wordZ b.toNat) = true)) (fun i => l.length - (intOf i).toNat)
  case atStart => exact ⟨0, Nat.zero_le _, rfl, Lib.hid rfl⟩
  case round =>
    obtain ⟨k, hk, rfl, HK⟩ := hrel
    by_cases hlt : k < l.length
    · have hbt := btN_lt l k
      have hki : (k : Int) < l.length := by omega
      have HB := Lib.hid (fun h => name_bad hlt h)
      have HG := Lib.hid (fun h => name_step hlt HK.out h)
      have hx : ∃ x : Int, (btN l k : Int) = x := ⟨_, rfl⟩
      obtain ⟨x, hx⟩ := hx
      rw [hx] at HB HG
      have hr : (x < 48) ∨ (48 ≤ x ∧ x ≤ 57) ∨ (58 ≤ x ∧ x ≤ 64) ∨ (65 ≤ x ∧ x ≤ 90) ∨ (91 ≤ x ∧ x ≤ 94) ∨ (x = 95) ∨ (x = 96) ∨ (97 ≤ x ∧ x ≤ 122) ∨ (122 < x) := by omega
      rcases hr with hr | hr | hr | hr | hr | hr | hr | hr | hr
      · have c0 : decide ((65 : Int) ≤ x) = false := decide_eq_false (by omega)
        have c1 : decide (x ≤ (90 : Int)) = true := decide_eq_true (by omega)
        have c2 : decide ((97 : Int) ≤ x) = false := decide_eq_false (by omega)
        have c3 : decide (x ≤ (122 : Int)) = true := decide_eq_true (by omega)
        have c4 : decide ((48 : Int) ≤ x) = false := decide_eq_false (by omega)
        have c5 : decide (x ≤ (57 : Int)) = true := decide_eq_true (by omega)
        have c6 : (x == 95) = false := by simp; omega
        have hw : wordZ x = false := by unfold wordZ; rw [c0, c1, c2, c3, c4, c5, c6]; rfl
        have Hn := Lib.hid (HB.out hw)
        have Hr := Lib.hid hr
        have Hw := Lib.hid hw
        clear hr hw
        go_wp2_with fail
        go_ret
        exact ⟨by rw [Hn.out]; rfl, rfl⟩
      · have c0 : decide ((65 : Int) ≤ x) = false := decide_eq_false (by omega)
        have c1 : decide (x ≤ (90 : Int)) = true := decide_eq_true (by omega)
        have c2 : decide ((97 : Int) ≤ x) = false := decide_eq_false (by omega)
        have c3 : decide (x ≤ (122 : Int)) = true := decide_eq_true (by omega)
        have c4 : decide ((48 : Int) ≤ x) = true := decide_eq_true (by omega)
        have c5 : decide (x ≤ (57 : Int)) = true := decide_eq_true (by omega)
        have c6 : (x == 95) = false := by simp; omega
        have hw : wordZ x = true := by unfold wordZ; rw [c0, c1, c2, c3, c4, c5, c6]; rfl
        have Hn := HG.out hw
        have Hr := Lib.hid hr
        have Hw := Lib.hid hw
        clear hr hw
        go_wp2_with fail
        go_round
        case rel => exact ⟨k + 1, by omega, by go_num, Lib.hid Hn⟩
        case measure => simp [intOf]; omega
      · have c0 : decide ((65 : Int) ≤ x) = false := decide_eq_false (by omega)
        have c1 : decide (x ≤ (90 : Int)) = true := decide_eq_true (by omega)
        have c2 : decide ((97 : Int) ≤ x) = false := decide_eq_false (by omega)
        have c3 : decide (x ≤ (122 : Int)) = true := decide_eq_true (by omega)
        have c4 : decide ((48 : Int) ≤ x) = true := decide_eq_true (by omega)
        have c5 : decide (x ≤ (57 : Int)) = false := decide_eq_false (by omega)
        have c6 : (x == 95) = false := by simp; omega
        have hw : wordZ x = false := by unfold wordZ; rw [c0, c1, c2, c3, c4, c5, c6]; rfl
        have Hn := Lib.hid (HB.out hw)
        have Hr := Lib.hid hr
        have Hw := Lib.hid hw
        clear hr hw
        go_wp2_with fail
        go_ret
        exact ⟨by rw [Hn.out]; rfl, rfl⟩
      · have c0 : decide ((65 : Int) ≤ x) = true := decide_eq_true (by omega)
        have c1 : decide (x ≤ (90 : Int)) = true := decide_eq_true (by omega)
        have c2 : decide ((97 : Int) ≤ x) = false := decide_eq_false (by omega)
        have c3 : decide (x ≤ (122 : Int)) = true := decide_eq_true (by omega)
        have c4 : decide ((48 : Int) ≤ x) = true := decide_eq_true (by omega)
        have c5 : decide (x ≤ (57 : Int)) = false := decide_eq_false (by omega)
        have c6 : (x == 95) = false := by simp; omega
        have hw : wordZ x = true := by unfold wordZ; rw [c0, c1, c2, c3, c4, c5, c6]; rfl
        have Hn := HG.out hw
        have Hr := Lib.hid hr
        have Hw := Lib.hid hw
        clear hr hw
        go_wp2_with fail
        go_round
        case rel => exact ⟨k + 1, by omega, by go_num, Lib.hid Hn⟩
        case measure => simp [intOf]; omega
      · have c0 : decide ((65 : Int) ≤ x) = true := decide_eq_true (by omega)
        have c1 : decide (x ≤ (90 : Int)) = false := decide_eq_false (by omega)
        have c2 : decide ((97 : Int) ≤ x) = false := decide_eq_false (by omega)
        have c3 : decide (x ≤ (122 : Int)) = true := decide_eq_true (by omega)
        have c4 : decide ((48 : Int) ≤ x) = true := decide_eq_true (by omega)
        have c5 : decide (x ≤ (57 : Int)) = false := decide_eq_false (by omega)
        have c6 : (x == 95) = false := by simp; omega
        have hw : wordZ x = false := by unfold wordZ; rw [c0, c1, c2, c3, c4, c5, c6]; rfl
        have Hn := Lib.hid (HB.out hw)
        have Hr := Lib.hid hr
        have Hw := Lib.hid hw
        clear hr hw
        go_wp2_with fail
        go_ret
        exact ⟨by rw [Hn.out]; rfl, rfl⟩
      · have c0 : decide ((65 : Int) ≤ x) = true := decide_eq_true (by omega)
        have c1 : decide (x ≤ (90 : Int)) = false := decide_eq_false (by omega)
        have c2 : decide ((97 : Int) ≤ x) = false := decide_eq_false (by omega)
        have c3 : decide (x ≤ (122 : Int)) = true := decide_eq_true (by omega)
        have c4 : decide ((48 : Int) ≤ x) = true := decide_eq_true (by omega)
        have c5 : decide (x ≤ (57 : Int)) = false := decide_eq_false (by omega)
        have c6 : (x == 95) = true := by simp; omega
        have hw : wordZ x = true := by unfold wordZ; rw [c0, c1, c2, c3, c4, c5, c6]; rfl
        have Hn := HG.out hw
        have Hr := Lib.hid hr
        have Hw := Lib.hid hw
        clear hr hw
        go_wp2_with fail
        go_round
        case rel => exact ⟨k + 1, by omega, by go_num, Lib.hid Hn⟩
        case measure => simp [intOf]; omega
      · have c0 : decide ((65 : Int) ≤ x) = true := decide_eq_true (by omega)
        have c1 : decide (x ≤ (90 : Int)) = false := decide_eq_false (by omega)
        have c2 : decide ((97 : Int) ≤ x) = false := decide_eq_false (by omega)
        have c3 : decide (x ≤ (122 : Int)) = true := decide_eq_true (by omega)
        have c4 : decide ((48 : Int) ≤ x) = true := decide_eq_true (by omega)
        have c5 : decide (x ≤ (57 : Int)) = false := decide_eq_false (by omega)
        have c6 : (x == 95) = false := by simp; omega
        have hw : wordZ x = false := by unfold wordZ; rw [c0, c1, c2, c3, c4, c5, c6]; rfl
        have Hn := Lib.hid (HB.out hw)
        have Hr := Lib.hid hr
        have Hw := Lib.hid hw
        clear hr hw
        go_wp2_with fail
        go_ret
        exact ⟨by rw [Hn.out]; rfl, rfl⟩
      · have c0 : decide ((65 : Int) ≤ x) = true := decide_eq_true (by omega)
        have c1 : decide (x ≤ (90 : Int)) = false := decide_eq_false (by omega)
        have c2 : decide ((97 : Int) ≤ x) = true := decide_eq_true (by omega)
        have c3 : decide (x ≤ (122 : Int)) = true := decide_eq_true (by omega)
        have c4 : decide ((48 : Int) ≤ x) = true := decide_eq_true (by omega)
        have c5 : decide (x ≤ (57 : Int)) = false := decide_eq_false (by omega)
        have c6 : (x == 95) = false := by simp; omega
        have hw : wordZ x = true := by unfold wordZ; rw [c0, c1, c2, c3, c4, c5, c6]; rfl
        have Hn := HG.out hw
        have Hr := Lib.hid hr
        have Hw := Lib.hid hw
        clear hr hw
        go_wp2_with fail
        go_round
        case rel => exact ⟨k + 1, by omega, by go_num, Lib.hid Hn⟩
        case measure => simp [intOf]; omega
      · have c0 : decide ((65 : Int) ≤ x) = true := decide_eq_true (by omega)
        have c1 : decide (x ≤ (90 : Int)) = false := decide_eq_false (by omega)
        have c2 : decide ((97 : Int) ≤ x) = true := decide_eq_true (by omega)
        have c3 : decide (x ≤ (122 : Int)) = false := decide_eq_false (by omega)
        have c4 : decide ((48 : Int) ≤ x) = true := decide_eq_true (by omega)
        have c5 : decide (x ≤ (57 : Int)) = false := decide_eq_false (by omega)
        have c6 : (x == 95) = false := by simp; omega
        have hw : wordZ x = false := by unfold wordZ; rw [c0, c1, c2, c3, c4, c5, c6]; rfl
        have Hn := Lib.hid (HB.out hw)
        have Hr := Lib.hid hr
        have Hw := Lib.hid hw
        clear hr hw
        go_wp2_with fail
        go_ret
        exact ⟨by rw [Hn.out]; rfl, rfl⟩
    · obtain rfl : k = l.length := by omega
      have hki : ¬ (l.length : Int) < l.length := by omega
      have hall := HK.out
      rw [List.take_length] at hall
      by_cases hn : l = []
      · subst hn
        have Hall := Lib.hid hall
        clear hall
        go_wp2_with fail
        go_ret
        exact ⟨rfl, rfl⟩
      · have hne : (l == []) = false := by simp [hn]
        by_cases h32 : l.length ≤ 32
        · have hd : decide ((l.length : Int) ≤ 32) = true := decide_eq_true (by omega)
          have HR := Lib.hid (show nameB l = true by unfold nameB; rw [hall]; simp [hn, h32])
          have Hall := Lib.hid hall
          have Hn := Lib.hid hn
          clear hall hn
          go_wp2_with fail
          go_ret
          exact ⟨by rw [HR.out]; rfl, rfl⟩
        · have hd : decide ((l.length : Int) ≤ 32) = false := decide_eq_false (by omega)
          have HR := Lib.hid (show nameB l = false by unfold nameB; rw [decide_eq_false h32]; simp)
          have Hall := Lib.hid hall
          have Hn := Lib.hid hn
          clear hall hn
          go_wp2_with fail
          go_ret
          exact ⟨by rw [HR.out]; rfl, rfl⟩
end Go.Proofs.YthogkokifiibnaaGreatDoor
namespace Go.Proofs.YthogkokifiibnaaGreatDoor
open Go.RowKit Go.Sort

/-- a line without its comment and the blanks in front of that -/
def contentP (l : List UInt8) : List UInt8 := match cutB 35 l with | some p => Lib.trimRightB p.1 32 | none => l
theorem idx35 (l : List UInt8) : Lib.indexByte l 35 = match cutB 35 l with | some p => (p.1.length : Int) | none => -1 := by
  rw [← Lib.index_one, index_cut]
  cases cutB 35 l <;> rfl

set_option maxHeartbeats 2000000 in
set_option maxRecDepth 100000 in
theorem elContent (l : List UInt8) (w : World) (hl : l.length ≤ 65536) :
    Calls Tryz.prog 38 #[.string ⟨l.toArray⟩] w fun e w' => e = .returned (.string ⟨(contentP l).toArray⟩) ∧ w = w' := by
  have HI := Lib.hid (Tryz.strings_IndexByte ⟨l.toArray⟩ 35 w)
  rw [show (ByteArray.mk l.toArray).data.toList = l from rfl, show ((35 : Int)).toNat.toUInt8 = 35 from rfl, idx35] at HI
  cases hc : cutB 35 l with
  | none =>
    rw [hc] at HI
    have HP := Lib.hid (show contentP l = l by unfold contentP; rw [hc])
    have Hc := Lib.hid hc
    clear hc
    go_enter Tryz.func38, Tryz.ntmps38
    go_wp2_with fail
    refine HI.out.mono ?_
    rintro e w1 ⟨rfl, rfl⟩
    go_wp2_with fail
    go_ret
    exact ⟨by rw [HP.out]; rfl, rfl⟩
  | some p =>
    rw [hc] at HI
    obtain ⟨e1, _⟩ := cutB_some (a := p.1) (r := p.2) hc
    have HP := Lib.hid (show contentP l = Lib.trimRightB p.1 32 by unfold contentP; rw [hc])
    have hpl : p.1.length ≤ l.length := by rw [e1]; simp
    have ht : seg l 0 p.1.length = p.1 := by unfold seg; rw [List.drop_zero, Nat.sub_zero]; conv => lhs; rw [e1, List.take_left]
    have g1 : ∀ w', (Instr.slice 9 (.string ⟨l.toArray⟩) none (some (.int .i64 p.1.length)) none).run Tryz.prog w' = .ok (.string ⟨p.1.toArray⟩) w' := fun w' => by
      have h3 : (p.1.length : Int) ≤ l.length := by omega
      simp [go_sem, Tryz.underlying9, h3, ht]
    have HT := Lib.hid (fun w' => Tryz.strings_TrimRight_one ⟨p.1.toArray⟩ 32 (by decide) w' (by simp [ByteArray.size]; omega))
    rw [show (ByteArray.mk p.1.toArray).data.toList = p.1 from rfl] at HT
    dsimp only at HI
    generalize p.1 = d at HI HP hpl g1 HT
    have h0 : (0 : Int) ≤ d.length := by omega
    have Hc := Lib.hid hc
    have E1 := Lib.hid e1
    have Ht := Lib.hid ht
    clear hc e1 ht
    go_enter Tryz.func38, Tryz.ntmps38
    go_wp2_with fail
    refine HI.out.mono ?_
    rintro e w1 ⟨rfl, rfl⟩
    go_wp2_with fail
    refine (HT.out _).mono ?_
    rintro e w2 ⟨rfl, rfl⟩
    go_wp2_with fail
    go_ret
    exact ⟨by rw [HP.out]; rfl, rfl⟩
end Go.Proofs.YthogkokifiibnaaGreatDoor
namespace Go.Proofs.YthogkokifiibnaaGreatDoor
open Go.RowKit Go.Sort

set_option maxHeartbeats 2000000 in
set_option maxRecDepth 100000 in
theorem rfSameE (ls : List ElemD) (A B : Option Addr) (c1 c2 : Nat) (w : World) (hA : ElemsAt w A ls) (hB : ElemsAt w B ls) (hl : ls.length ≤ 1000000) :
    Calls Tryz.prog 12 #[.slice A ls.length c1, .slice B ls.length c2] w fun e w' => e = .returned (.bool true) ∧ Below w.heap.size w w' := by
  have HA := Lib.hid hA
  have HB := Lib.hid hB
  clear hA hB
  go_enter Tryz.func12, Tryz.ntmps12
  go_wp2_with fail
  go_loopw [5] (fun i wr => ∃ k : Nat, k ≤ ls.length ∧ i = .int .i64 k ∧ Below w.heap.size w wr) (fun i _ => ls.length - (intOf i).toNat)
  case atStart => exact ⟨0, Nat.zero_le _, rfl, Below.refl _ _⟩
  case round =>
    obtain ⟨k, hk, rfl, hbr⟩ := hrel
    by_cases hlt : k < ls.length
    · obtain ⟨b1, o1, rfl, h1, p0, p1, p2, p3⟩ := (HA.out.keep hbr).at_ hlt
      obtain ⟨b2, o2, rfl, h2, q0, q1, q2, q3⟩ := (HB.out.keep hbr).at_ hlt
      generalize elemAt ls k = d at p0 p1 p2 p3 q0 q1 q2 q3
      obtain ⟨p, s, t, v⟩ := d
      dsimp only at p0 p1 p2 p3 q0 q1 q2 q3
      have hki : (k : Int) < ls.length := by omega
      have k0 := cell_regrown p0
      have k1 := cell_regrown p1
      have k2 := cell_regrown p2
      have k3 := cell_regrown p3
      have j0 := cell_regrown q0
      have j1 := cell_regrown q1
      have j2 := cell_regrown q2
      have j3 := cell_regrown q3
      go_wp2_with fail
      refine wp_region_quiet_below (by kernel_rfl) (by kernel_rfl) ?_
      repeat (go_big_quiet_step (fail))
      refine wpQuiet_nil ?_
      rintro _ ⟨⟨dq, osq⟩, rfl⟩
      have hb2 := below_regrown wr dq osq
      generalize grow (redrawn wr dq) osq = w2 at hb2 ⊢
      go_wp2_with fail
      go_roundw
      case rel => exact ⟨k + 1, by omega, by go_num, bUp hbr hb2⟩
      case measure => simp [intOf]; omega
    · obtain rfl : k = ls.length := by omega
      have hki : ¬ (ls.length : Int) < ls.length := by omega
      go_wp2_with fail
      go_ret
      exact ⟨rfl, hbr⟩
end Go.Proofs.YthogkokifiibnaaGreatDoor
namespace Go.Proofs.YthogkokifiibnaaGreatDoor
open Go.RowKit Go.Sort

def allValid (t : List Int) : Bool := t.all validB
theorem allValid_cons (x : Int) (t : List Int) : allValid (x :: t) = (validB x && allValid t) := by simp [allValid]
def strErr (l : List UInt8) (e : Int) : Value := .tuple #[.string ⟨l.toArray⟩, .int .i64 e]

set_option maxRecDepth 100000 in
theorem esValid (zs : List Int) (A : Option Addr) (cap : Nat) (w : World) (hA : IntsAt w A zs) (hl : zs.length ≤ 1000000) :
    Calls Tryz.prog 56 #[.slice A zs.length cap] w fun e w' => e = .returned (.bool (allValid zs)) ∧ w = w' := by
  have HA := Lib.hid hA
  clear hA
  go_enter Tryz.func56, Tryz.ntmps56
  go_wp2_with fail
  go_loop [7] (fun i => ∃ m : Nat, m ≤ zs.length ∧ i = .int .i64 m ∧ Hid (allValid zs = allValid (zs.drop m))) (fun i => zs.length - (intOf i).toNat)
  case atStart => exact ⟨0, Nat.zero_le _, rfl, Lib.hid rfl⟩
  case round =>
    obtain ⟨m, hm, rfl, HE⟩ := hrel
    by_cases hlt : m < zs.length
    · obtain ⟨b, off, rfl, hb, hc⟩ := HA.out.at_ (k := m) hlt
      have hE := HE.out
      rw [drop_nth hlt, allValid_cons] at hE
      cases hv : validB (nth zs m)
      · rw [hv, Bool.false_and] at hE
        have HE := Lib.hid hE
        have Hv := Lib.hid hv
        clear hE hv
        go_wp2_with (go_at_call 54; refine (cpValid _ _).mono ?_; rintro e w' ⟨rfl, rfl⟩; rw [Hv.out])
        go_ret
        exact ⟨ret_bool HE.out.symm, rfl⟩
      · rw [hv, Bool.true_and] at hE
        have HE := Lib.hid hE
        have Hv := Lib.hid hv
        clear hE hv
        go_wp2_with (go_at_call 54; refine (cpValid _ _).mono ?_; rintro e w' ⟨rfl, rfl⟩; rw [Hv.out])
        go_round
        case rel => exact ⟨m + 1, by omega, by go_num, HE⟩
        case measure => simp [intOf]; omega
    · have HE' := Lib.hid (show allValid zs = true by rw [HE.out, List.drop_of_length_le (by omega)]; rfl)
      go_wp2_with fail
      go_ret
      exact ⟨ret_bool HE'.out.symm, rfl⟩

def codesFrom : List (List UInt8) → List Int → List Int × Int
  | [], acc => (acc, 0)
  | p :: ps, acc => match parseCp p with | none => ([], 3) | some c => codesFrom ps (acc ++ [c])
def parseCodesR (s : List UInt8) : List Int × Int := if s = [] then ([], 0) else codesFrom (splitL 32 s) []
def IntsErr (r : List Int × Int) (w : World) (e : Ending) (w' : World) : Prop :=
  ∃ A c, e = .returned (.tuple #[.slice A r.1.length c, .int .i64 r.2]) ∧ OwnI w' w.heap.size (.slice A r.1.length c) r.1 ∧ Below w.heap.size w w'
theorem codes_bad {ps : List (List UInt8)} {k : Nat} {acc : List Int} {r : List Int × Int} (hk : k < ps.length) (h : r = codesFrom (ps.drop k) acc) (hp : parseCp (piece ps k) = none) : r = ([], 3) := by
  rw [h, drop_piece hk, codesFrom, hp]
theorem codes_good {ps : List (List UInt8)} {k : Nat} {acc : List Int} {r : List Int × Int} {c : Int} (hk : k < ps.length) (h : r = codesFrom (ps.drop k) acc) (hp : parseCp (piece ps k) = some c) : r = codesFrom (ps.drop (k + 1)) (acc ++ [c]) := by
  rw [h, drop_piece hk, codesFrom, hp]

set_option maxHeartbeats 2000000 in
set_option maxRecDepth 100000 in
theorem esParseCodes (l : List UInt8) (w : World) (hE : Env w) (hl : l.length ≤ 100000) :
    Calls Tryz.prog 66 #[.string ⟨l.toArray⟩] w (IntsErr (parseCodesR l) w) := by
  by_cases he : l = []
  · subst he
    have HV := Lib.hid (show parseCodesR [] = ([], 0) by rfl)
    have HE := Lib.hid hE
    clear hE
    go_enter Tryz.func66, Tryz.ntmps66
    go_wp2_with fail
    go_ret2
    rw [HV.out]
    exact ⟨none, 0, rfl, OwnI.nil _ _, Below.refl _ _⟩
  have hem : l.isEmpty = false := by cases l with | nil => exact absurd rfl he | cons a b => rfl
  have HV := Lib.hid (show parseCodesR l = codesFrom (splitL 32 l) [] by rw [parseCodesR, if_neg he])
  have HS := Lib.hid (csSplit 32 l w hE (by omega))
  have hple := splitL_piece_le 32 l
  have hpl : (splitL 32 l).length ≤ 100001 := by rw [splitL_length]; have := List.count_le_length (a := (32 : UInt8)) (l := l); omega
  generalize splitL 32 l = ps at HV HS hple hpl
  have He := Lib.hid he
  have HE := Lib.hid hE
  have Hple := Lib.hid hple
  clear he hE hple
  go_enter Tryz.func66, Tryz.ntmps66
  go_wp2_with fail
  refine HS.out.mono ?_
  rintro e w1 ⟨rfl, rfl⟩
  have hB := Blk.new w (strCellsOf ps) 9
  have hw1 : Below w.heap.size w (w.alloc (.cells (strCellsOf ps) 9)) := bBox _ _
  change Blk (w.alloc (.cells (ps.map fun p => Value.string ⟨p.toArray⟩).toArray 9)) w.heap.size (strCellsOf ps) 9 at hB
  change Below w.heap.size w (w.alloc (.cells (ps.map fun p => Value.string ⟨p.toArray⟩).toArray 9)) at hw1
  have hz1 : w.heap.size < (w.alloc (.cells (ps.map fun p => Value.string ⟨p.toArray⟩).toArray 9)).heap.size := by simp
  generalize w.alloc (.cells (ps.map fun p => Value.string ⟨p.toArray⟩).toArray 9) = w1 at hB hw1 hz1 ⊢
  have HB := Lib.hid hB
  clear hB
  go_wp2_with fail
  go_loopw [4, 14] (fun o i wr => ∃ (k : Nat) (acc : List Int), k ≤ ps.length ∧ i = .int .i64 k ∧ Hid (OwnI wr w1.heap.size o acc) ∧ acc.length ≤ k ∧ Hid (parseCodesR l = codesFrom (ps.drop k) acc) ∧ Below w1.heap.size w1 wr) (fun _ i _ => ps.length - (intOf i).toNat)
  case atStart => exact ⟨0, [], Nat.zero_le _, rfl, Lib.hid (OwnI.nil _ _), by simp, HV, Below.refl _ _⟩
  case round =>
    obtain ⟨k, acc, hk, rfl, HO, hacc, HC, hbr⟩ := hrel
    by_cases hlt : k < ps.length
    · have hcp := piece_cell (HB.out.keep hbr) hlt
      have hpm := Hple.out _ (piece_mem hlt)
      have HP := Lib.hid (cpParse (piece ps k) wr (HE.out.keep (bUp hw1 hbr)).dig (by omega))
      cases hp : parseCp (piece ps k) with
      | none =>
        have HR := Lib.hid (codes_bad hlt HC.out hp)
        rw [parseV_none hp] at HP
        have Hp := Lib.hid hp
        clear hp
        generalize piece ps k = pk at hcp hpm HP
        go_wp2_with fail
        refine HP.out.mono ?_
        rintro e w2 ⟨rfl, hb2⟩
        go_wp2_with fail
        go_ret2
        rw [HR.out]
        exact ⟨none, 0, rfl, OwnI.nil _ _, bUp hw1 (bUp hbr hb2)⟩
      | some c =>
        have HR := Lib.hid (codes_good hlt HC.out hp)
        rw [parseV_some hp] at HP
        have Hp := Lib.hid hp
        clear hp
        generalize piece ps k = pk at hcp hpm HP
        go_wp2_with fail
        refine HP.out.mono ?_
        rintro e w2 ⟨rfl, hb2⟩
        have hsz2 : w1.heap.size ≤ w2.heap.size := by have h1 := hbr.size; have h2 := hb2.size; omega
        go_wp2_with (at_builtin; refine wpI rfl _ _ rfl w1.heap.size rfl (HO.out.keep (bUp hb2 (bBox _ _))) [c] rfl (ints_new _ _ _) (by simp) ?c1 ?c2 ?_)
        case c1 => simp; omega
        case c2 => simp; omega
        intro v' w3 hown3 hb3
        have hb4 := hb3 w1 (bUp (bUp hbr hb2) (bBox _ _))
        clear hb3
        go_wp2_with fail
        go_roundw
        case rel => exact ⟨k + 1, _, by omega, by go_num, hown3, by simp; omega, HR, hb4⟩
        case measure => simp [intOf]; omega
    · have HR := Lib.hid (show parseCodesR l = (acc, 0) by rw [HC.out, List.drop_of_length_le (by omega)]; rfl)
      obtain ⟨A', c', rfl⟩ := HO.out.form
      go_wp2_with fail
      go_ret2
      rw [HR.out]
      exact ⟨A', c', rfl, HO.out.mono hw1.size, bUp hw1 hbr⟩

/-- words, a blank between each two -/
def joinL : List (List UInt8) → List UInt8
  | [] => []
  | [p] => p
  | p :: q :: r => p ++ 32 :: joinL (q :: r)
theorem joinL_lib : ∀ ps, Lib.join ps [32] = joinL ps
  | [] => rfl
  | [p] => Lib.join_one p [32]
  | p :: q :: r => by
    have ih := joinL_lib (q :: r)
    unfold Lib.join at ih ⊢
    rw [joinL, ← ih]
    simp [List.intercalate]
theorem joinL_snoc : ∀ (ps : List (List UInt8)) (p : List UInt8), ps ≠ [] → joinL (ps ++ [p]) = joinL ps ++ 32 :: p
  | [], _, h => absurd rfl h
  | [a], p, _ => rfl
  | a :: b :: r, p, _ => by
    have ih := joinL_snoc (b :: r) p (by simp)
    show a ++ 32 :: joinL (b :: r ++ [p]) = (a ++ 32 :: joinL (b :: r)) ++ 32 :: p
    rw [ih]
    simp
theorem joinL_le {m : Nat} : ∀ ps : List (List UInt8), (∀ p ∈ ps, p.length ≤ m) → (joinL ps).length ≤ (m + 1) * ps.length
  | [], _ => by simp [joinL]
  | [p], h => by have := h p (by simp); simp [joinL]; omega
  | p :: q :: r, h => by
    have h1 := joinL_le (q :: r) (fun x hx => h x (by simp [hx]))
    have h2 := h p (by simp)
    rw [joinL]
    simp only [List.length_append, List.length_cons] at h1 ⊢
    rw [Nat.mul_add (m + 1) (r.length + 1) 1]
    omega
def codesL (t : List Int) : List UInt8 := joinL (t.map hexL)
def codesV (t : List Int) : Value := if allValid t then strErr (codesL t) 0 else strErr [] 1
theorem codesL_le (t : List Int) : (codesL t).length ≤ 7 * t.length := by
  have := joinL_le (m := 6) (t.map hexL) (fun p hp => by obtain ⟨c, _, rfl⟩ := List.mem_map.1 hp; exact hexL_length_le c)
  rw [List.length_map] at this
  exact this

theorem esJoin (ps : List (List UInt8)) (A : Option Addr) (c : Nat) (w : World) (h : StrsAt w A ps) (hc : ps.length ≤ c) (hn : ps.length ≤ 1000000) (hl : (joinL ps).length ≤ 1000000000) :
    Calls Tryz.prog 58 #[.slice A ps.length c, .string ⟨#[32]⟩] w fun e w' => e = .returned (.string ⟨(joinL ps).toArray⟩) ∧ Below w.heap.size w w' := by
  by_cases h0 : 0 < ps.length
  · obtain ⟨b, off, rfl, hlt, hcell⟩ := h h0
    have hmap : (ps.map fun p => (⟨p.toArray⟩ : ByteArray)).map (·.data.toList) = ps := by
      rw [List.map_map]
      conv => rhs; rw [← List.map_id ps]
      rfl
    have hj := Tryz.strings_Join b off c (ps.map fun p => ⟨p.toArray⟩) ⟨#[32]⟩ w (fun j x hx => by
      rw [List.getElem?_map] at hx
      obtain ⟨p, hp, rfl⟩ := Option.map_eq_some_iff.1 hx
      obtain ⟨hj, rfl⟩ := List.getElem?_eq_some_iff.1 hp
      rw [hcell j hj]
      unfold piece
      rw [List.getD_eq_getElem?_getD, List.getElem?_eq_getElem hj]
      rfl) hlt (by rw [List.length_map]; omega) (by rw [List.length_map]; exact hc) (by
      rw [hmap]
      show (Lib.join ps [32]).length ≤ _
      rw [joinL_lib]
      omega)
    rw [hmap, List.length_map] at hj
    refine hj.mono fun e w' ⟨he, hb⟩ => ⟨?_, hb⟩
    rw [he]
    show Ending.returned (.string ⟨(Lib.join ps [32]).toArray⟩) = _
    rw [joinL_lib]
  · obtain rfl : ps = [] := List.length_eq_zero_iff.1 (by omega)
    exact (Tryz.strings_Join_none A c ⟨#[32]⟩ w).mono fun e w' ⟨he, hw⟩ => ⟨he, by rw [hw]; exact Below.refl _ _⟩

theorem map_snoc {t : List Int} {k : Nat} (hk : k < t.length) : (t.take (k + 1)).map hexL = (t.take k).map hexL ++ [hexL (nth t k)] := by
  rw [List.take_succ_eq_append_getElem hk, List.map_append, nth_lt hk]
  rfl

set_option maxHeartbeats 1000000 in
set_option maxRecDepth 100000 in
theorem esCodes (zs : List Int) (A : Option Addr) (cap : Nat) (w : World) (hA : IntsAt w A zs) (hl : zs.length ≤ 100000) (hD : Dig w) :
    Calls Tryz.prog 32 #[.slice A zs.length cap] w fun e w' => e = .returned (codesV zs) ∧ Below w.heap.size w w' := by
  have HV := Lib.hid (esValid zs A cap w hA (by omega))
  cases hv : allValid zs
  · have HR := Lib.hid (show codesV zs = strErr [] 1 by rw [codesV, hv]; rfl)
    have HA := Lib.hid hA
    have HD := Lib.hid hD
    have Hv := Lib.hid hv
    clear hA hD hv
    go_enter Tryz.func32, Tryz.ntmps32
    go_wp2_with fail
    refine HV.out.mono ?_
    rintro e w1 ⟨rfl, rfl⟩
    rw [Hv.out]
    go_wp2_with fail
    go_ret2
    exact ⟨by rw [HR.out]; rfl, Below.refl _ _⟩
  · have HR := Lib.hid (show codesV zs = strErr (codesL zs) 0 by rw [codesV, hv]; rfl)
    have hcl := codesL_le zs
    have HA := Lib.hid hA
    have HD := Lib.hid hD
    have Hv := Lib.hid hv
    clear hA hD hv
    go_enter Tryz.func32, Tryz.ntmps32
    go_wp2_with fail
    refine HV.out.mono ?_
    rintro e w1 ⟨rfl, rfl⟩
    rw [Hv.out]
    go_wp2_with fail
    go_loopw [4, 12] (fun o i wr => ∃ (k : Nat) (ps : List (List UInt8)), k ≤ zs.length ∧ i = .int .i64 k ∧ Hid (OwnS wr w.heap.size o ps) ∧ ps.length ≤ k ∧ Hid (ps = (zs.take k).map hexL) ∧ Below w.heap.size w wr) (fun _ i _ => zs.length - (intOf i).toNat)
    case atStart => exact ⟨0, [], Nat.zero_le _, rfl, Lib.hid (OwnS.nil _ _), by simp, Lib.hid rfl, Below.refl _ _⟩
    case round =>
      obtain ⟨k, ps, hk, rfl, HO, hps, HE, hbr⟩ := hrel
      by_cases hlt : k < zs.length
      · obtain ⟨b, off, rfl, hb, hc⟩ := (HA.out.keep hbr).at_ (k := k) hlt
        have HS := Lib.hid (show ps ++ [hexL (nth zs k)] = (zs.take (k + 1)).map hexL by rw [map_snoc hlt, HE.out])
        generalize nth zs k = x at hc HS
        go_wp2_with fail
        refine (cpHex x wr (HD.out.keep hbr)).mono ?_
        rintro e w2 ⟨rfl, hb2⟩
        have hsz2 : w.heap.size ≤ w2.heap.size := by have h1 := hbr.size; have h2 := hb2.size; omega
        go_wp2_with (at_builtin; refine wpS rfl _ _ rfl w.heap.size rfl (HO.out.keep hb2) (hexL x) rfl ?c1 hsz2 ?_)
        case c1 => omega
        intro v' w3 hown3 hb3
        have hb4 := hb3 w (bUp hbr hb2)
        clear hb3
        go_wp2_with fail
        go_roundw
        case rel => exact ⟨k + 1, _, by omega, by go_num, hown3, by simp; omega, HS, hb4⟩
        case measure => simp [intOf]; omega
      · have HS := Lib.hid (show codesL zs = joinL ps by rw [codesL, HE.out, List.take_of_length_le (by omega)])
        obtain ⟨A', c', rfl, hc', _⟩ := HO.out.form
        have HSt := Lib.hid HO.out.strs
        have hjl : (joinL ps).length ≤ 1000000000 := by rw [← HS.out]; omega
        go_wp2_with fail
        refine (esJoin ps A' c' _ HSt.out hc' (by omega) hjl).mono ?_
        rintro e w2 ⟨rfl, hb2⟩
        go_wp2_with fail
        go_ret2
        exact ⟨by rw [HR.out, HS.out]; rfl, bUp hbr hb2⟩
end Go.Proofs.YthogkokifiibnaaGreatDoor
namespace Go.Proofs.YthogkokifiibnaaGreatDoor
open Go.RowKit Go.Sort

structure GroupD where
  name : List UInt8
  lo : Int
  hi : Int
deriving Inhabited
structure EntryD where
  codes : List Int
  els : List ElemD
deriving Inhabited
structure CollD where
  entries : List EntryD
  groups : List GroupD
  base : Int
  second : Int
  third : Int
deriving Inhabited
def zeroC : CollD := ⟨[], [], 0, 0, 0⟩
/-- what has been read, and whether there was the line of the base -/
structure RdD where
  c : CollD
  started : Bool

/-- the number of a numeral -/
def numP (l : List UInt8) : Option Int := match Lib.atoiAll l with | .ok v => if 0 ≤ v ∧ Lib.itoa v = l then some v else none | _ => none
def numsP : List (List UInt8) → Option (List Int)
  | [] => some []
  | p :: ps => match numP p with | none => none | some n => (numsP ps).map (n :: ·)
theorem numsP_length : ∀ (ps : List (List UInt8)) {ns : List Int}, numsP ps = some ns → ns.length = ps.length
  | [], ns, h => by simp [numsP] at h; subst h; rfl
  | p :: ps, ns, h => by
    rw [numsP] at h
    cases hp : numP p with
    | none => rw [hp] at h; cases h
    | some n =>
      rw [hp] at h
      cases hr : numsP ps with
      | none => rw [hr] at h; cases h
      | some r =>
        rw [hr] at h
        simp at h
        subst h
        simp [numsP_length ps hr]
theorem nums_bad {ps : List (List UInt8)} {k : Nat} {acc : List Int} {r : Option (List Int)} (hk : k < ps.length) (h : r = (numsP (ps.drop k)).map (acc ++ ·)) (hp : numP (piece ps k) = none) : r = none := by
  rw [h, drop_piece hk, numsP, hp]
  rfl
theorem nums_good {ps : List (List UInt8)} {k : Nat} {acc : List Int} {r : Option (List Int)} {c : Int} (hk : k < ps.length) (h : r = (numsP (ps.drop k)).map (acc ++ ·)) (hp : numP (piece ps k) = some c) : r = (numsP (ps.drop (k + 1))).map ((acc ++ [c]) ++ ·) := by
  rw [h, drop_piece hk, numsP, hp]
  cases numsP (ps.drop (k + 1)) <;> simp

/-- "@base", "@group" -/
def wBase : List UInt8 := [64, 98, 97, 115, 101]
def wGroup : List UInt8 := [64, 103, 114, 111, 117, 112]

def baseP (r : RdD) (l : List UInt8) : Option RdD :=
  if r.started || !decide ((splitL 32 l).length = 4) || !decide (piece (splitL 32 l) 0 = wBase) then none
  else match numsP ((splitL 32 l).drop 1) with
    | some ns => some ⟨⟨r.c.entries, r.c.groups, nth ns 0, nth ns 1, nth ns 2⟩, true⟩
    | none => none
def groupP (r : RdD) (l : List UInt8) : Option RdD :=
  if !r.started || decide (0 < r.c.entries.length) || !decide ((splitL 32 l).length = 4) || !decide (piece (splitL 32 l) 0 = wGroup) || !nameB (piece (splitL 32 l) 1) then none
  else match numsP ((splitL 32 l).drop 2) with
    | some ns => some ⟨⟨r.c.entries, r.c.groups ++ [⟨piece (splitL 32 l) 1, nth ns 0, nth ns 1⟩], r.c.base, r.c.second, r.c.third⟩, r.started⟩
    | none => none
/-- an entry out of its line -/
def entP (l : List UInt8) : Option EntryD :=
  if (Lib.cut l [59, 32]).2.2 = false then none
  else if (parseCodesR (Lib.cut l [59, 32]).1).2 ≠ 0 then none
  else (readE (Lib.cut l [59, 32]).2.1).map fun es => ⟨(parseCodesR (Lib.cut l [59, 32]).1).1, es⟩
def addN (r : RdD) (e : EntryD) : RdD := ⟨⟨r.c.entries ++ [e], r.c.groups, r.c.base, r.c.second, r.c.third⟩, r.started⟩
def entryP (r : RdD) (l : List UInt8) : Option EntryD := if r.started then entP l else none

/-- where the reader stands: what was read, the first error of an element, the number of the last line -/
structure StF where
  r : RdD
  first : Int × Int
  n : Nat
def stepT (s : StF) (t : List UInt8) : Option StF :=
  if t = [] then some ⟨s.r, s.first, s.n + 1⟩
  else match baseP s.r t with
    | some r' => some ⟨r', s.first, s.n + 1⟩
    | none => match groupP s.r t with
      | some r' => some ⟨r', s.first, s.n + 1⟩
      | none => match entryP s.r t with
        | some e => some ⟨addN s.r e, if chksE e.els ≠ 0 ∧ s.first.1 = 0 then (chksE e.els, (s.n : Int) + 1) else s.first, s.n + 1⟩
        | none => none
def stepF (s : StF) (l : List UInt8) : Option StF := stepT s (contentP l)
def finF (s : StF) : CollD × (Int × Int) :=
  if s.r.started = false then (zeroC, (3, (s.n : Int) + 1)) else if s.first.1 ≠ 0 then (zeroC, s.first) else (s.r.c, (0, 0))
def runF : List (List UInt8) → StF → CollD × (Int × Int)
  | [], s => finF s
  | l :: ls, s => match stepF s l with | none => (zeroC, (3, (s.n : Int) + 1)) | some s' => runF ls s'
/-- the lines; behind the last line feed there is none -/
def linesL : List UInt8 → List (List UInt8)
  | [] => []
  | b :: r => if b = 10 then [] :: linesL r else match linesL r with | [] => [[b]] | p :: ps => (b :: p) :: ps
def startF : StF := ⟨⟨zeroC, false⟩, (0, 0), 0⟩
def parseF (l : List UInt8) : CollD × (Int × Int) := if 65536 < l.length then (zeroC, (2, 0)) else runF (linesL l) startF

theorem linesL_ne {l : List UInt8} (h : l ≠ []) : linesL l ≠ [] := by
  cases l with
  | nil => exact absurd rfl h
  | cons b r =>
    rw [linesL]
    split
    · simp
    · split <;> simp
theorem linesL_cut : ∀ (l : List UInt8) {d r : List UInt8}, cutB 10 l = some (d, r) → linesL l = d :: linesL r
  | [], d, r, h => by simp [cutB] at h
  | b :: l, d, r, h => by
    rw [cutB] at h
    rw [linesL]
    by_cases hb : b = 10
    · rw [if_pos hb] at h ⊢
      simp at h
      obtain ⟨rfl, rfl⟩ := h
      rfl
    · rw [if_neg hb] at h ⊢
      cases hc : cutB 10 l with
      | none => rw [hc] at h; simp at h
      | some p =>
        rw [hc] at h
        simp at h
        obtain ⟨rfl, rfl⟩ := h
        rw [linesL_cut l hc]
theorem linesL_none : ∀ (l : List UInt8), cutB 10 l = none → l ≠ [] → linesL l = [l]
  | [], _, hn => absurd rfl hn
  | b :: l, h, _ => by
    rw [cutB] at h
    rw [linesL]
    by_cases hb : b = 10
    · rw [if_pos hb] at h; simp at h
    · rw [if_neg hb] at h ⊢
      cases hc : cutB 10 l with
      | some p => rw [hc] at h; simp at h
      | none =>
        by_cases hl : l = []
        · subst hl; rfl
        · rw [linesL_none l hc hl]
end Go.Proofs.YthogkokifiibnaaGreatDoor
