/- Parse of elements -/
import Derived.Test.YthogkokifiibnaaDoorEl7
namespace Go.Proofs.YthogkokifiibnaaDoor
open Go.RowKit Go.Sort

/-- the elements of a text, or the error -/
def parseE (l : List UInt8) : List ElemD × Int := match readE l with | some es => if chksE es = 0 then (es, 0) else ([], chksE es) | none => ([], 3)
theorem readE_len : ∀ (n : Nat) {l : List UInt8} {es : List ElemD}, l.length ≤ n → readE l = some es → es.length * 17 = l.length
  | 0, l, es, h, he => by
    obtain rfl := List.length_eq_zero_iff.1 (by omega : l.length = 0)
    cases he
    rfl
  | n + 1, l, es, h, he => by
    by_cases h17 : 17 ≤ l.length
    · rw [readE_step h17] at he
      cases ht : elemT (l.take 17) with
      | none => rw [ht] at he; cases he
      | some d =>
        rw [ht] at he
        cases hr : readE (l.drop 17) with
        | none => simp [hr] at he
        | some r =>
          simp [hr] at he
          subst he
          have := readE_len n (l := l.drop 17) (by simp; omega) hr
          simp at this ⊢
          omega
    · by_cases h0 : l = []
      · subst h0
        cases he
        rfl
      · rw [readE_short h0 (by omega)] at he
        cases he

set_option maxHeartbeats 8000000 in
set_option maxRecDepth 100000 in
theorem elParse (l : List UInt8) (w : World) (hl : l.length ≤ 65536) :
    Calls Tryd.prog 10 #[.string ⟨l.toArray⟩] w fun e w' => (∃ A c, e = .returned (.tuple #[.slice A (parseE l).1.length c, .int .i64 (parseE l).2]) ∧ OwnE w' w.heap.size (.slice A (parseE l).1.length c) (parseE l).1) ∧ Below w.heap.size w w' := by
  have HR := Lib.hid (elRead l w hl)
  unfold ReadOut at HR
  cases hr : readE l with
  | none =>
    rw [hr] at HR
    have hp : parseE l = ([], 3) := by unfold parseE; rw [hr]
    rw [hp]
    have Hr := Lib.hid hr
    have Hp := Lib.hid hp
    clear hr hp
    go_enter Tryd.func10, Tryd.ntmps10
    go_wp2_with fail
    refine HR.out.mono ?_
    rintro e w1 ⟨rfl, hb1⟩
    go_wp2_with fail
    go_ret2
    exact ⟨⟨none, 0, rfl, OwnE.nil _ _⟩, hb1⟩
  | some es =>
    rw [hr] at HR
    have hlen := readE_len l.length (Nat.le_refl _) hr
    by_cases hc : chksE es = 0
    · have hp : parseE l = (es, 0) := by unfold parseE; rw [hr]; simp [hc]
      rw [hp]
      have Hr := Lib.hid hr
      have Hp := Lib.hid hp
      have Hc := Lib.hid hc
      clear hr hp hc
      go_enter Tryd.func10, Tryd.ntmps10
      go_wp2_with fail
      refine HR.out.mono ?_
      rintro e w1 ⟨⟨A, c, rfl, hO⟩, hb1⟩
      have HC := Lib.hid (elChecks es A c w1 hO.elems (by omega))
      rw [Hc.out] at HC
      have HO := Lib.hid hO
      have Hlen := Lib.hid hlen
      clear hO hlen
      go_wp2_with fail
      refine HC.out.mono ?_
      rintro e w2 ⟨rfl, hb2⟩
      go_wp2_with fail
      go_ret2
      exact ⟨⟨A, c, rfl, HO.out.keep hb2⟩, bUp hb1 hb2⟩
    · have hp : parseE l = ([], chksE es) := by unfold parseE; rw [hr]; simp [hc]
      have hne : (chksE es != 0) = true := by simp [hc]
      rw [hp]
      generalize hce : chksE es = ce at hne
      have Hr := Lib.hid hr
      have Hp := Lib.hid hp
      have Hc := Lib.hid hc
      have Hce := Lib.hid hce
      clear hr hp hc hce
      go_enter Tryd.func10, Tryd.ntmps10
      go_wp2_with fail
      refine HR.out.mono ?_
      rintro e w1 ⟨⟨A, c, rfl, hO⟩, hb1⟩
      have HC := Lib.hid (elChecks es A c w1 hO.elems (by omega))
      rw [Hce.out] at HC
      have HO := Lib.hid hO
      have Hlen := Lib.hid hlen
      clear hO hlen
      go_wp2_with fail
      refine HC.out.mono ?_
      rintro e w2 ⟨rfl, hb2⟩
      go_wp2_with fail
      go_ret2
      exact ⟨⟨none, 0, rfl, OwnE.nil _ _⟩, bUp hb1 hb2⟩
end Go.Proofs.YthogkokifiibnaaDoor
