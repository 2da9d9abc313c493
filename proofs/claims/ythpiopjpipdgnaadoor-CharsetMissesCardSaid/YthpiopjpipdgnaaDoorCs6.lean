/- charset.parseLine: plain part and walk -/
import Derived.Test.YthpiopjpipdgnaaDoorCp5
import Derived.Test.YthpiopjpipdgnaaDoorSplit
import Derived.Test.YthpiopjpipdgnaaDoorShelf
namespace Go.Proofs.YthpiopjpipdgnaaDoor
open Go.RowKit Go.Sort

/-- the package-level variables that are read: codepoint.digits, bytealg.MaxLen -/
structure Env (w : World) : Prop where
  dig : Dig w
  mx : ∃ m : Int, w.cell? ⟨1, 0, none⟩ = some (.int .i64 m)
theorem Env.keep {w w' : World} (h : Env w) (hb : Below w.heap.size w w') : Env w' :=
  ⟨h.dig.keep hb, let ⟨m, hm⟩ := h.mx; ⟨m, cell_keep hb hm⟩⟩

/-- a line: its byte and its code -/
def lineP : List UInt8 → Option (Int × Int)
  | a :: b :: s :: r => if 0 ≤ hexVal (a.toNat : Int) ∧ 0 ≤ hexVal (b.toNat : Int) ∧ s = 32 then
      (match parseCp r with | some x => if scalarB x then some (16 * hexVal (a.toNat : Int) + hexVal (b.toNat : Int), x) else none | none => none) else none
  | _ => none
def lineV (l : List UInt8) : Value := match lineP l with | some p => .tuple #[.int .i64 p.1, .int .i64 p.2, .bool true] | none => .tuple #[.int .i64 0, .int .i64 0, .bool false]

theorem hexC_hexVal {b : UInt8} (h : 0 ≤ hexVal (b.toNat : Int)) : UInt8.ofNat (hexC (hexVal (b.toNat : Int)).toNat) = b := by
  have h1 := hexVal_is (b.toNat : Int)
  have h2 := hexC_is (hexVal (b.toNat : Int)).toNat
  have : hexC (hexVal (b.toNat : Int)).toNat = b.toNat := by omega
  rw [this, UInt8.ofNat_toNat]
theorem num00 (a b : UInt8) : numL [48, 48, a, b] 0 = if 0 ≤ hexVal (a.toNat : Int) ∧ 0 ≤ hexVal (b.toNat : Int) then some (16 * hexVal (a.toNat : Int) + hexVal (b.toNat : Int)) else none := by
  have h48 : hexVal (((48 : UInt8).toNat : Nat) : Int) = 0 := by decide
  simp only [numL, h48]
  by_cases ha : hexVal (a.toNat : Int) < 0
  · have : ¬ (0 ≤ hexVal (a.toNat : Int) ∧ 0 ≤ hexVal (b.toNat : Int)) := by omega
    simp [ha, this]
  · by_cases hb : hexVal (b.toNat : Int) < 0
    · have : ¬ (0 ≤ hexVal (a.toNat : Int) ∧ 0 ≤ hexVal (b.toNat : Int)) := by omega
      simp [ha, hb, this]
    · have : (0 ≤ hexVal (a.toNat : Int) ∧ 0 ≤ hexVal (b.toNat : Int)) := by omega
      simp [ha, hb, this]
      omega
theorem parse00 (a b : UInt8) : parseCp [48, 48, a, b] = if 0 ≤ hexVal (a.toNat : Int) ∧ 0 ≤ hexVal (b.toNat : Int) then some (16 * hexVal (a.toNat : Int) + hexVal (b.toNat : Int)) else none := by
  unfold parseCp
  rw [if_neg (by simp), num00]
  by_cases h : 0 ≤ hexVal (a.toNat : Int) ∧ 0 ≤ hexVal (b.toNat : Int)
  · rw [if_pos h]
    have h1 := hexVal_le (a.toNat : Int)
    have h2 := hexVal_le (b.toNat : Int)
    have hh : hexL (16 * hexVal (a.toNat : Int) + hexVal (b.toNat : Int)) = [48, 48, a, b] := by
      have e1 := hexC_hexVal h.1
      have e2 := hexC_hexVal h.2
      obtain ⟨x, hx⟩ := Int.eq_ofNat_of_zero_le h.1
      obtain ⟨y, hy⟩ := Int.eq_ofNat_of_zero_le h.2
      rw [hx] at e1 h1 ⊢
      rw [hy] at e2 h2 ⊢
      rw [Int.toNat_natCast] at e1 e2
      have ec : (16 * (x : Int) + (y : Int)) = ((16 * x + y : Nat) : Int) := by omega
      rw [ec]
      unfold hexL
      rw [if_pos (by omega), Int.toNat_natCast]
      have hl : hexLen (16 * x + y) = 4 := by unfold hexLen; rw [if_pos (by omega)]
      rw [hl]
      simp only [hexN]
      have c0 : (16 * x + y) % 16 = y := by omega
      have c1 : (16 * x + y) / 16 % 16 = x := by omega
      have c2 : (16 * x + y) / 16 / 16 % 16 = 0 := by omega
      have c3 : (16 * x + y) / 16 / 16 / 16 % 16 = 0 := by omega
      rw [c0, c1, c2, c3, e1, e2]
      rfl
    simp [hh]
  · rw [if_neg h]

theorem hexVal_blank : hexVal 32 = -1 := by decide
theorem lineP_nocut {l : List UInt8} (h : cutB 32 l = none) : lineP l = none := by
  have hn := cutB_none.1 h
  match l, hn with
  | [], _ => rfl
  | [_], _ => rfl
  | [_, _], _ => rfl
  | a :: b :: s :: r, hn =>
    have : ¬ s = 32 := by intro e; subst e; simp at hn
    simp [lineP, this]
theorem lineP_len {l d r : List UInt8} (h : cutB 32 l = some (d, r)) (hd : d.length ≠ 2) : lineP l = none := by
  obtain ⟨e, hn⟩ := cutB_some h
  match d, hd, e, hn with
  | [], _, e, _ =>
    subst e
    match r with
    | [] => rfl
    | [_] => rfl
    | _ :: _ :: _ => simp [lineP, hexVal_blank]
  | [a], _, e, _ =>
    subst e
    match r with
    | [] => rfl
    | _ :: _ => simp [lineP, hexVal_blank]
  | a :: b :: c :: d', _, e, hn =>
    subst e
    have : ¬ c = 32 := by intro h; subst h; simp at hn
    simp [lineP, this]
theorem lineP_cut (a b : UInt8) (r : List UInt8) : lineP (a :: b :: 32 :: r) = match parseCp [48, 48, a, b], parseCp r with | some x, some y => if scalarB y then some (x, y) else none | _, _ => none := by
  rw [parse00]
  by_cases h : 0 ≤ hexVal (a.toNat : Int) ∧ 0 ≤ hexVal (b.toNat : Int)
  · rw [if_pos h]
    cases hp : parseCp r <;> simp [lineP, h, hp]
  · rw [if_neg h]
    simp only [lineP]
    rw [if_neg (by omega)]

theorem below_drewN {B : Nat} {w : World} (n : Nat) : Below B w (w.drewN n) := ⟨rfl, rfl, rfl, Nat.le_refl _, fun _ _ => rfl⟩

/-- strings.Cut at a byte that occurs -/
theorem cutYes {c : UInt8} {l d r : List UInt8} (h : cutB c l = some (d, r)) (w : World) (hE : Env w) (hl : l.length < 4294967281) :
    Calls Tryd.prog 58 #[.string ⟨l.toArray⟩, .string ⟨#[c]⟩] w fun e w' => e = .returned (.tuple #[.string ⟨d.toArray⟩, .string ⟨r.toArray⟩, .bool true]) ∧ Below w.heap.size w w' := by
  obtain ⟨m, hm⟩ := hE.mx
  refine (Tryd.strings_Cut ⟨l.toArray⟩ ⟨#[c]⟩ m w hl hm).mono ?_
  rintro e w' ⟨rfl, n, rfl⟩
  refine ⟨?_, below_drewN n⟩
  have hc : Lib.cut l [c] = (d, r, true) := by rw [lib_cut, h]
  show Ending.returned (.tuple #[.string ⟨(Lib.cut l [c]).1.toArray⟩, .string ⟨(Lib.cut l [c]).2.1.toArray⟩, .bool (Lib.cut l [c]).2.2]) = _
  rw [hc]
/-- .. at one that doesn't -/
theorem cutNo {c : UInt8} {l : List UInt8} (h : cutB c l = none) (w : World) (hE : Env w) (hl : l.length < 4294967281) :
    Calls Tryd.prog 58 #[.string ⟨l.toArray⟩, .string ⟨#[c]⟩] w fun e w' => e = .returned (.tuple #[.string ⟨l.toArray⟩, .string ⟨#[]⟩, .bool false]) ∧ Below w.heap.size w w' := by
  obtain ⟨m, hm⟩ := hE.mx
  refine (Tryd.strings_Cut ⟨l.toArray⟩ ⟨#[c]⟩ m w hl hm).mono ?_
  rintro e w' ⟨rfl, n, rfl⟩
  refine ⟨?_, below_drewN n⟩
  have hc : Lib.cut l [c] = (l, [], false) := by rw [lib_cut, h]
  show Ending.returned (.tuple #[.string ⟨(Lib.cut l [c]).1.toArray⟩, .string ⟨(Lib.cut l [c]).2.1.toArray⟩, .bool (Lib.cut l [c]).2.2]) = _
  rw [hc]

theorem parseV_some {l : List UInt8} {x : Int} (h : parseCp l = some x) : parseV l = .tuple #[.int .i64 x, .int .i64 0] := by simp [parseV, h]
theorem parseV_none {l : List UInt8} (h : parseCp l = none) : parseV l = .tuple #[.int .i64 0, .int .i64 3] := by simp [parseV, h]

theorem cat00 (a b : UInt8) : (⟨#[48, 48]⟩ : ByteArray) ++ ⟨#[a, b]⟩ = ⟨[48, 48, a, b].toArray⟩ := ba_app [48, 48] [a, b]

set_option maxHeartbeats 1000000 in
set_option maxRecDepth 100000 in
theorem csParseLine (l : List UInt8) (w : World) (hE : Env w) (hl : l.length < 4294967281) :
    Calls Tryd.prog 41 #[.string ⟨l.toArray⟩] w fun e w' => e = .returned (lineV l) ∧ Below w.heap.size w w' := by
  cases hc : cutB 32 l with
  | none =>
    have HV := Lib.hid (show lineV l = .tuple #[.int .i64 0, .int .i64 0, .bool false] by simp [lineV, lineP_nocut hc])
    have HC := Lib.hid (cutNo hc w hE hl)
    clear hc hE
    go_enter Tryd.func41, Tryd.ntmps41
    go_wp2_with fail
    refine HC.out.mono ?_
    rintro e w1 ⟨rfl, hb1⟩
    go_wp2_with fail
    go_ret3
    exact ⟨ret_eq HV.out, hb1⟩
  | some p =>
    obtain ⟨d, r⟩ := p
    have HC := Lib.hid (cutYes hc w hE hl)
    obtain ⟨el, hnb⟩ := cutB_some hc
    have hrl : r.length ≤ l.length := by rw [el]; simp; omega
    by_cases hd : d.length = 2
    · obtain ⟨a, b, rfl⟩ : ∃ a b, d = [a, b] := by
        match d, hd with
        | [a, b], _ => exact ⟨a, b, rfl⟩
      have HP := Lib.hid (show lineP l = match parseCp [48, 48, a, b], parseCp r with | some x, some y => if scalarB y then some (x, y) else none | _, _ => none by rw [el]; exact lineP_cut a b r)
      have HE := Lib.hid hE
      clear hE
      clear el hnb hc hd
      cases hx0 : parseCp [48, 48, a, b] with
      | none =>
        have hx := parseV_none hx0
        have HV := Lib.hid (show lineV l = .tuple #[.int .i64 0, .int .i64 0, .bool false] by simp [lineV, HP.out, hx0])
        have Hx := Lib.hid hx
        have Hx0 := Lib.hid hx0
        clear hx hx0
        go_enter Tryd.func41, Tryd.ntmps41
        go_wp2_with fail
        refine HC.out.mono ?_
        rintro e w1 ⟨rfl, hb1⟩
        go_wp2_with fail
        have HE1 := Lib.hid (HE.out.keep hb1)
        rw [cat00]
        refine (cpParse [48, 48, a, b] _ HE1.out.dig (by simp)).mono ?_
        rintro e w2 ⟨rfl, hb2⟩
        rw [Hx.out]
        go_wp2_with fail
        refine (cpParse r _ (HE1.out.dig.keep hb2) (by omega)).mono ?_
        rintro e w3 ⟨rfl, hb3⟩
        obtain ⟨y1, y2, hyv⟩ : ∃ y1 y2 : Int, parseV r = .tuple #[.int .i64 y1, .int .i64 y2] := ⟨_, _, rfl⟩
        rw [hyv]
        clear hyv
        go_wp2_with fail
        go_ret3
        exact ⟨ret_eq HV.out, bUp (bUp hb1 hb2) hb3⟩
      | some x =>
        have hx := parseV_some hx0
        cases hy0 : parseCp r with
        | none =>
          have hy := parseV_none hy0
          have HV := Lib.hid (show lineV l = .tuple #[.int .i64 0, .int .i64 0, .bool false] by simp [lineV, HP.out, hx0, hy0])
          have Hx := Lib.hid hx
          have Hx0 := Lib.hid hx0
          have Hy := Lib.hid hy
          have Hy0 := Lib.hid hy0
          clear hx hx0 hy hy0
          go_enter Tryd.func41, Tryd.ntmps41
          go_wp2_with fail
          refine HC.out.mono ?_
          rintro e w1 ⟨rfl, hb1⟩
          go_wp2_with fail
          have HE1 := Lib.hid (HE.out.keep hb1)
          rw [cat00]
          refine (cpParse [48, 48, a, b] _ HE1.out.dig (by simp)).mono ?_
          rintro e w2 ⟨rfl, hb2⟩
          rw [Hx.out]
          go_wp2_with fail
          refine (cpParse r _ (HE1.out.dig.keep hb2) (by omega)).mono ?_
          rintro e w3 ⟨rfl, hb3⟩
          rw [Hy.out]
          go_wp2_with fail
          go_ret3
          exact ⟨ret_eq HV.out, bUp (bUp hb1 hb2) hb3⟩
        | some y =>
          have hy := parseV_some hy0
          cases hs : scalarB y
          · have HV := Lib.hid (show lineV l = .tuple #[.int .i64 0, .int .i64 0, .bool false] by simp [lineV, HP.out, hx0, hy0, hs])
            have Hx := Lib.hid hx
            have Hx0 := Lib.hid hx0
            have Hy := Lib.hid hy
            have Hy0 := Lib.hid hy0
            have Hs := Lib.hid hs
            clear hx hx0 hy hy0 hs
            go_enter Tryd.func41, Tryd.ntmps41
            go_wp2_with fail
            refine HC.out.mono ?_
            rintro e w1 ⟨rfl, hb1⟩
            go_wp2_with fail
            have HE1 := Lib.hid (HE.out.keep hb1)
            rw [cat00]
            refine (cpParse [48, 48, a, b] _ HE1.out.dig (by simp)).mono ?_
            rintro e w2 ⟨rfl, hb2⟩
            rw [Hx.out]
            go_wp2_with fail
            refine (cpParse r _ (HE1.out.dig.keep hb2) (by omega)).mono ?_
            rintro e w3 ⟨rfl, hb3⟩
            rw [Hy.out]
            go_wp2_with (go_at_call 27; refine (cpScalar _ _).mono ?_; rintro e w' ⟨rfl, rfl⟩; rw [Hs.out])
            go_ret3
            exact ⟨ret_eq HV.out, bUp (bUp hb1 hb2) hb3⟩
          · have HV := Lib.hid (show lineV l = .tuple #[.int .i64 x, .int .i64 y, .bool true] by simp [lineV, HP.out, hx0, hy0, hs])
            have Hx := Lib.hid hx
            have Hx0 := Lib.hid hx0
            have Hy := Lib.hid hy
            have Hy0 := Lib.hid hy0
            have Hs := Lib.hid hs
            clear hx hx0 hy hy0 hs
            go_enter Tryd.func41, Tryd.ntmps41
            go_wp2_with fail
            refine HC.out.mono ?_
            rintro e w1 ⟨rfl, hb1⟩
            go_wp2_with fail
            have HE1 := Lib.hid (HE.out.keep hb1)
            rw [cat00]
            refine (cpParse [48, 48, a, b] _ HE1.out.dig (by simp)).mono ?_
            rintro e w2 ⟨rfl, hb2⟩
            rw [Hx.out]
            go_wp2_with fail
            refine (cpParse r _ (HE1.out.dig.keep hb2) (by omega)).mono ?_
            rintro e w3 ⟨rfl, hb3⟩
            rw [Hy.out]
            go_wp2_with (go_at_call 27; refine (cpScalar _ _).mono ?_; rintro e w' ⟨rfl, rfl⟩; rw [Hs.out])
            go_ret3
            exact ⟨ret_eq HV.out, bUp (bUp hb1 hb2) hb3⟩
    · have hd' : ((d.length : Int) != 2) = true := by simp; omega
      have HV := Lib.hid (show lineV l = .tuple #[.int .i64 0, .int .i64 0, .bool false] by simp [lineV, lineP_len hc hd])
      clear hc hE el hnb hd
      go_enter Tryd.func41, Tryd.ntmps41
      go_wp2_with fail
      refine HC.out.mono ?_
      rintro e w1 ⟨rfl, hb1⟩
      go_wp2_with fail
      go_ret3
      exact ⟨ret_eq HV.out, hb1⟩
end Go.Proofs.YthpiopjpipdgnaaDoor
