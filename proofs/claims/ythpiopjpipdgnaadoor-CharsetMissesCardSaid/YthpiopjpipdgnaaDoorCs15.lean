/- charset.hex, charset.Text, ref06.Text -/
import Derived.Test.YthpiopjpipdgnaaDoorCs11
import Derived.Test.YthpiopjpipdgnaaDoorCs8
namespace Go.Proofs.YthpiopjpipdgnaaDoor
open Go.RowKit Go.Sort

/-- two digits of a byte -/
def hexB (n : Nat) : List UInt8 := [UInt8.ofNat (hexC (n / 16)), UInt8.ofNat (hexC (n % 16))]
theorem hexL_byte {n : Nat} (h : n < 256) : hexL n = 48 :: 48 :: hexB n := by
  unfold hexL
  rw [if_pos (by omega), Int.toNat_natCast]
  have hl : hexLen n = 4 := by unfold hexLen; rw [if_pos (by omega)]
  rw [hl]
  simp only [hexN, hexB]
  have c1 : n / 16 % 16 = n / 16 := by omega
  have c2 : n / 16 / 16 % 16 = 0 := by omega
  have c3 : n / 16 / 16 / 16 % 16 = 0 := by omega
  rw [c1, c2, c3]
  rfl
def lineL (i : Nat) (x : Int) : List UInt8 := hexB i ++ [32] ++ hexL x ++ [10]
theorem lineL_le (i : Nat) (x : Int) : (lineL i x).length ≤ 10 := by have := hexL_length_le x; simp [lineL, hexB]; omega
def textFrom : List Int → Nat → List UInt8
  | [], _ => []
  | z :: r, i => (if z = -1 then [] else lineL i z) ++ textFrom r (i + 1)
def strErr (l : List UInt8) (e : Int) : Value := .tuple #[.string ⟨l.toArray⟩, .int .i64 e]
def textV (zs : List Int) : Value := if checkC zs ≠ 0 then strErr [] (checkC zs) else strErr (textFrom zs 0) 0

set_option maxRecDepth 100000 in
theorem csHex (n : Nat) (hn : n < 256) (w : World) (hD : Dig w) :
    Calls Tryd.prog 45 #[.int .u8 n] w fun e w' => e = .returned (.string ⟨(hexB n).toArray⟩) ∧ Below w.heap.size w w' := by
  have HL := Lib.hid (hexL_byte hn)
  have hlen : (hexL n).length = 4 := by rw [hexL_byte hn]; rfl
  have HLen := Lib.hid hlen
  have hl1 : (2 : Int) ≤ (hexL n).length := by omega
  have hl2 : (hexL n).length ≤ 4 := by omega
  clear hlen
  have HD := Lib.hid hD
  clear hD
  go_enter Tryd.func45, Tryd.ntmps45
  go_wp2_with fail
  refine (cpHex _ _ HD.out).mono ?_
  rintro e w1 ⟨rfl, hb1⟩
  go_wp2_with fail
  go_ret
  exact ⟨ret_str (by rw [seg_end, HL.out]; rfl), hb1⟩

theorem text_keep {zs : List Int} {k : Nat} {acc : List UInt8} (hk : k < zs.length) (h : textFrom zs 0 = acc ++ textFrom (zs.drop k) k) (he : nth zs k = -1) : textFrom zs 0 = acc ++ textFrom (zs.drop (k + 1)) (k + 1) := by
  rw [h, drop_nth hk, textFrom, if_pos he]; simp
theorem text_line {zs : List Int} {k : Nat} {acc : List UInt8} (hk : k < zs.length) (h : textFrom zs 0 = acc ++ textFrom (zs.drop k) k) (he : ¬ nth zs k = -1) : textFrom zs 0 = (acc ++ lineL k (nth zs k)) ++ textFrom (zs.drop (k + 1)) (k + 1) := by
  rw [h, drop_nth hk, textFrom, if_neg he]; simp

theorem line_ba (k : Nat) (x : Int) : (⟨(hexB k).toArray⟩ : ByteArray) ++ ⟨#[32]⟩ ++ ⟨(hexL x).toArray⟩ ++ ⟨#[10]⟩ = ⟨(lineL k x).toArray⟩ := by
  rw [show (⟨#[32]⟩ : ByteArray) = ⟨[32].toArray⟩ from rfl, show (⟨#[10]⟩ : ByteArray) = ⟨[10].toArray⟩ from rfl, ba_app, ba_app, ba_app]; rfl

set_option maxHeartbeats 1000000 in
set_option maxRecDepth 100000 in
theorem csText (zs : List Int) (A : Option Addr) (cap : Nat) (w : World) (hA : IntsAt w A zs) (hl : zs.length ≤ 300) (hD : Dig w) :
    Calls Tryd.prog 20 #[.agg #[.slice A zs.length cap]] w fun e w' => e = .returned (textV zs) ∧ Below w.heap.size w w' := by
  have HC := Lib.hid (fun w' hb => csCheck zs A cap w' (IntsAt.keep hA hb) hl)
  have HA := Lib.hid hA
  have HD := Lib.hid hD
  clear hA hD
  by_cases hc : checkC zs = 0
  · have hc' : (checkC zs != 0) = false := by simpa using hc
    have HV := Lib.hid (show textV zs = strErr (textFrom zs 0) 0 by simp [textV, hc])
    obtain ⟨hn, hr, ht⟩ := codes_of_check hc
    have hl' : zs.length ≤ 256 := by omega
    have Hc := Lib.hid hc
    have Hn := Lib.hid hn
    have Hr := Lib.hid hr
    have Ht := Lib.hid ht
    clear hc hn hr ht
    go_enter Tryd.func20, Tryd.ntmps20
    go_wp2_with fail
    refine (HC.out _ (bBox _ _)).mono ?_
    rintro e w1 ⟨rfl, hb1⟩
    have B0 := (Blk.new w #[.slice A zs.length cap] 24).keep hb1
    have c0 := B0.cell 0
    have hsz := B0.lt
    have hbw : Below w.heap.size w w1 := bUp (bBox _ _) hb1
    have h0 : 0 < w1.heap.size := block_lt_of_cell ((HD.out.keep hbw) 0 (by omega))
    clear B0
    go_wp2_with fail
    go_loopw [16] (fun i wr => ∃ (k : Nat) (acc : List UInt8), k ≤ zs.length ∧ i = .int .i64 k ∧ Bld 57 [] w1.heap.size acc wr ∧ acc.length ≤ 10 * k ∧ Hid (textFrom zs 0 = acc ++ textFrom (zs.drop k) k) ∧ Below w1.heap.size w1 wr) (fun i _ => zs.length - (intOf i).toNat)
    case atStart => exact ⟨0, [], Nat.zero_le _, rfl, Bld.fresh _ _ _, by simp, rfl, (Below.refl _ _).alloc (Nat.le_refl _) _⟩
    case round =>
      obtain ⟨k, acc, hk, rfl, hbld, hacc, HT, hbr⟩ := hrel
      have HB := Lib.hid hbld
      clear hbld
      by_cases hlt : k < zs.length
      · obtain ⟨b, off, rfl, hb, hcc⟩ := (HA.out.keep (bUp hbw hbr)).at_ hlt
        by_cases he : nth zs k = -1
        · have he' : (nth zs k != -1) = false := by simpa using he
          have HT' := Lib.hid (text_keep hlt HT.out he)
          have He := Lib.hid he
          clear he
          go_wp2_with fail
          go_roundw
          case rel => exact ⟨k + 1, acc, by omega, by go_num, HB.out, by omega, HT', hbr⟩
          case measure => simp [intOf]; omega
        · have he' : (nth zs k != -1) = true := by simpa using he
          have HT' := Lib.hid (text_line hlt HT.out he)
          have hhl := hexL_length_le (nth zs k)
          have hll := lineL_le k (nth zs k)
          have He := Lib.hid he
          clear he
          go_wp2_with fail
          refine (csHex k (by omega) _ (HD.out.keep (bUp hbw hbr))).mono ?_
          rintro e w2 ⟨rfl, hb2⟩
          have hhb : (hexB k).length = 2 := rfl
          go_wp2_with fail
          refine (cpHex _ _ (HD.out.keep (bUp (bUp hbw hbr) hb2))).mono ?_
          rintro e w3 ⟨rfl, hb3⟩
          go_wp2_with fail
          rw [line_ba]
          refine (writeString bldTy0 ((HB.out.keep hb2).keep hb3) (lineL k (nth zs k)) (by omega) (by omega)).mono ?_
          rintro e w4 ⟨rfl, hbld4, hb4⟩
          have HB4 := Lib.hid hbld4
          clear hbld4
          go_wp2_with fail
          go_roundw
          case rel => exact ⟨k + 1, _, by omega, by go_num, HB4.out, by rw [List.length_append]; omega, HT', (bUp (bUp hbr hb2) hb3).trans hb4⟩
          case measure => simp [intOf]; omega
      · have HT' := Lib.hid (show textV zs = strErr acc 0 by rw [HV.out, HT.out, List.drop_of_length_le (by omega)]; simp [textFrom])
        go_wp2_with fail
        refine (bldString HB.out).mono ?_
        rintro e w2 ⟨rfl, hb2⟩
        go_wp2_with fail
        go_ret2
        exact ⟨ret_eq HT'.out, bUp hbw (hbr.trans hb2)⟩
  · have hc' : (checkC zs != 0) = true := by simpa using hc
    have HV := Lib.hid (show textV zs = strErr [] (checkC zs) by simp [textV, hc])
    have Hc := Lib.hid hc
    clear hc
    go_enter Tryd.func20, Tryd.ntmps20
    go_wp2_with fail
    refine (HC.out _ (bBox _ _)).mono ?_
    rintro e w1 ⟨rfl, hb1⟩
    go_wp2_with fail
    go_ret2
    exact ⟨ret_eq HV.out, bUp (bBox _ _) hb1⟩
end Go.Proofs.YthpiopjpipdgnaaDoor
