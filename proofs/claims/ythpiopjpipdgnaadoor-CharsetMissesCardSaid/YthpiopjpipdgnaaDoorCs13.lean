/- ref06.line -/
import Derived.Test.YthpiopjpipdgnaaDoorCs12
namespace Go.Proofs.YthpiopjpipdgnaaDoor
open Go.RowKit Go.Sort

theorem lineP_form {l : List UInt8} (h : 3 ≤ l.length) : lineP l = if 0 ≤ hexVal (btN l 0) ∧ 0 ≤ hexVal (btN l 1) ∧ btN l 2 = 32 then
    (match parseCp (l.drop 3) with | some x => if scalarB x then some (16 * hexVal (btN l 0) + hexVal (btN l 1), x) else none | none => none) else none := by
  match l, h with
  | a :: b :: s :: r, _ =>
    have hs : s = 32 ↔ s.toNat = 32 := by
      constructor
      · intro e; rw [e]; rfl
      · intro e; exact UInt8.toNat_inj.1 e
    simp only [lineP, btN, List.getD_cons_zero, List.getD_cons_succ, List.drop_succ_cons, List.drop_zero, hs]
    by_cases hc : 0 ≤ hexVal (a.toNat : Int) ∧ 0 ≤ hexVal (b.toNat : Int) ∧ s.toNat = 32
    · rw [if_pos hc, if_pos hc]; rfl
    · rw [if_neg hc, if_neg hc]
theorem lineP_short {l : List UInt8} (h : l.length < 4) : lineP l = none := by
  by_cases h3 : 3 ≤ l.length
  · rw [lineP_form h3]
    have hp : parseCp (l.drop 3) = none := by
      unfold parseCp
      rw [if_pos (by simp; omega)]
    rw [hp]
    split <;> rfl
  · match l, h3 with
    | [], _ => rfl
    | [_], _ => rfl
    | [_, _], _ => rfl
    | _ :: _ :: _ :: _, h3 => exact absurd (by simp) h3

set_option maxHeartbeats 1000000 in
set_option maxRecDepth 100000 in
theorem rfLine (l : List UInt8) (w : World) (hl : l.length ≤ 65536) :
    Calls Tryd.prog 42 #[.string ⟨l.toArray⟩] w fun e w' => (∃ b x, e = .returned (.tuple #[.int .i64 b, .int .i64 x, .bool (lineP l).isSome]) ∧ ∀ q, lineP l = some q → q = (b, x)) ∧ Below w.heap.size w w' := by
  by_cases h4 : l.length < 4
  · have h4' : decide ((l.length : Int) < 4) = true := by simp; omega
    have HL := Lib.hid (lineP_short h4)
    go_enter Tryd.func42, Tryd.ntmps42
    go_wp2_with fail
    go_ret3
    exact ⟨⟨0, 0, by rw [HL.out]; rfl, fun q hq => by rw [HL.out] at hq; cases hq⟩, Below.refl _ _⟩
  have h4' : decide ((l.length : Int) < 4) = false := by simp; omega
  have HF := Lib.hid (lineP_form (l := l) (by omega))
  have hv0 := hexVal_le (btN l 0)
  have hv1 := hexVal_le (btN l 1)
  have hb2 := btN_lt l 2
  by_cases h0 : hexVal (btN l 0) < 0
  · have HL := Lib.hid (show lineP l = none by rw [HF.out, if_neg (by omega)])
    go_enter Tryd.func42, Tryd.ntmps42
    go_wp2_with (go_at_call 60; refine (rf6Digit _ _).mono ?_; rintro e w' ⟨rfl, rfl⟩)
    go_ret3
    exact ⟨⟨0, 0, by rw [HL.out]; rfl, fun q hq => by rw [HL.out] at hq; cases hq⟩, Below.refl _ _⟩
  by_cases h1 : hexVal (btN l 1) < 0
  · have HL := Lib.hid (show lineP l = none by rw [HF.out, if_neg (by omega)])
    go_enter Tryd.func42, Tryd.ntmps42
    go_wp2_with (go_at_call 60; refine (rf6Digit _ _).mono ?_; rintro e w' ⟨rfl, rfl⟩)
    go_ret3
    exact ⟨⟨0, 0, by rw [HL.out]; rfl, fun q hq => by rw [HL.out] at hq; cases hq⟩, Below.refl _ _⟩
  by_cases h2 : btN l 2 = 32
  · have h2' : ((btN l 2 : Int) != 32) = false := by simp; omega
    have HP := Lib.hid (show lineP l = match parseCp (l.drop 3) with | some x => if scalarB x then some (16 * hexVal (btN l 0) + hexVal (btN l 1), x) else none | none => none by rw [HF.out, if_pos (by omega)])
    have h2i := h2
    have H2 := Lib.hid h2
    clear h2
    clear h2i HF
    cases hp : parseCp (l.drop 3) with
    | none =>
      have HL := Lib.hid (show lineP l = none by rw [HP.out, hp])
      have HQ := Lib.hid (parseV_none hp)
      clear hp
      go_enter Tryd.func42, Tryd.ntmps42
      go_wp2_with (go_at_call 60; refine (rf6Digit _ _).mono ?_; rintro e w' ⟨rfl, rfl⟩)
      rw [seg_end]
      refine (rfParse (l.drop 3) _ (by simp; omega)).mono ?_
      rintro e w1 ⟨rfl, rfl⟩
      rw [HQ.out]
      have cD := fun (b : Int) => callsS (w := w) (fun w' _ => rf6Digit b w')
      have cS := callsS (w := w) (fun w' _ => rfScalar 0 w')
      have CD := Lib.hid cD
      have CS := Lib.hid cS
      clear cD cS
      go_wp2_with fail
      refine wp_region_quiet_below (by kernel_rfl) (by kernel_rfl) ?_
      repeat (go_big_quiet_step (first | (go_at_call 60; exact CD.out _ _ _) | (go_at_call 28; exact CS.out _ _)))
      refine wpQuiet_nil ?_
      rintro _ ⟨⟨dq, osq⟩, rfl⟩
      have hb2' := below_regrown w dq osq
      generalize grow (redrawn w dq) osq = w2 at hb2' ⊢
      go_wp2_with fail
      go_ret3
      exact ⟨⟨_, _, by rw [HL.out]; rfl, fun q hq => by rw [HL.out] at hq; cases hq⟩, hb2'⟩
    | some x =>
      have HQ := Lib.hid (parseV_some hp)
      have HL := Lib.hid (show lineP l = if scalarB x then some (16 * hexVal (btN l 0) + hexVal (btN l 1), x) else none by rw [HP.out, hp])
      clear hp
      go_enter Tryd.func42, Tryd.ntmps42
      go_wp2_with (go_at_call 60; refine (rf6Digit _ _).mono ?_; rintro e w' ⟨rfl, rfl⟩)
      rw [seg_end]
      refine (rfParse (l.drop 3) _ (by simp; omega)).mono ?_
      rintro e w1 ⟨rfl, rfl⟩
      rw [HQ.out]
      have cD := fun (b : Int) => callsS (w := w) (fun w' _ => rf6Digit b w')
      have cS := callsS (w := w) (fun w' _ => rfScalar x w')
      have CD := Lib.hid cD
      have CS := Lib.hid cS
      clear cD cS
      go_wp2_with fail
      refine wp_region_quiet_below (by kernel_rfl) (by kernel_rfl) ?_
      repeat (go_big_quiet_step (first | (go_at_call 60; exact CD.out _ _ _) | (go_at_call 28; exact CS.out _ _)))
      refine wpQuiet_nil ?_
      rintro _ ⟨⟨dq, osq⟩, rfl⟩
      have hb2' := below_regrown w dq osq
      generalize grow (redrawn w dq) osq = w2 at hb2' ⊢
      go_wp2_with fail
      go_ret3
      refine ⟨⟨16 * hexVal (btN l 0) + hexVal (btN l 1), x, ?_, fun q hq => ?_⟩, hb2'⟩
      · rw [HL.out]
        cases hs : scalarB x <;> rfl
      · rw [HL.out] at hq
        cases hs : scalarB x
        · rw [hs] at hq; simp at hq
        · rw [hs] at hq; simp at hq; exact hq.symm
  · have h2' : ((btN l 2 : Int) != 32) = true := by simp; omega
    have HL := Lib.hid (show lineP l = none by rw [HF.out, if_neg (by omega)])
    clear h2
    go_enter Tryd.func42, Tryd.ntmps42
    go_wp2_with (go_at_call 60; refine (rf6Digit _ _).mono ?_; rintro e w' ⟨rfl, rfl⟩)
    go_ret3
    exact ⟨⟨0, 0, by rw [HL.out]; rfl, fun q hq => by rw [HL.out] at hq; cases hq⟩, Below.refl _ _⟩
end Go.Proofs.YthpiopjpipdgnaaDoor
