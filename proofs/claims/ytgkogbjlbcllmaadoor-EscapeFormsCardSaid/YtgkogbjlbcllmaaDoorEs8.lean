/- ref05.digits, ref05.Text -/
import Derived.Test.YtgkogbjlbcllmaaDoorEs2
namespace Go.Proofs.YtgkogbjlbcllmaaDoor
open Go.RowKit Go.Sort

theorem valid_rng {x : Int} (h : validB x = true) : 0 ≤ x ∧ x ≤ 1114111 := of_decide_eq_true h
/-- zeros in front struck, down to one byte -/
def strip0 : List UInt8 → List UInt8
  | [] => []
  | [b] => [b]
  | b :: c :: r => if b.toNat = 48 then strip0 (c :: r) else b :: c :: r
theorem strip0_dig : ∀ l : List UInt8, l ≠ [] → strip0 l = if l.dropWhile (fun b => b == 48) = [] then [48] else l.dropWhile (fun b => b == 48)
  | [], h => absurd rfl h
  | [b], _ => by
    by_cases hb : b = 48
    · subst hb; rfl
    · have h48 : (b == 48) = false := by simpa using hb
      simp [strip0, h48]
  | b :: c :: r, _ => by
    by_cases hb : b = 48
    · subst hb
      rw [strip0, if_pos (by decide), strip0_dig (c :: r) (by simp)]
      simp [List.dropWhile_cons]
    · have h48 : ¬ b.toNat = 48 := fun h => hb (UInt8.toNat_inj.1 h)
      rw [strip0, if_neg h48]
      simp [hb]
theorem strip0_hex {c : Int} (h : validB c = true) : strip0 (hexL c) = digL c := by
  obtain ⟨n, rfl, hn, e⟩ := hexL_yes h
  have hne : hexL (n : Int) ≠ [] := by
    intro h0
    have h1 := hexN_length (hexLen n) n
    rw [← e, h0] at h1
    unfold hexLen at h1
    split at h1
    · simp at h1
    · split at h1 <;> simp at h1
  rw [strip0_dig _ hne]
  rfl
theorem strip0_step {l : List UInt8} (h1 : 1 < l.length) (h0 : btN l 0 = 48) : strip0 l = strip0 (l.drop 1) := by
  match l, h1 with
  | b :: c :: r, _ =>
    rw [strip0, if_pos (by simpa [btN] using h0)]
    rfl
theorem strip0_stop {l : List UInt8} (h : ¬ (1 < l.length ∧ btN l 0 = 48)) : strip0 l = l := by
  match l with
  | [] => rfl
  | [b] => rfl
  | b :: c :: r =>
    rw [strip0, if_neg (fun h0 => h ⟨by simp, by simpa [btN] using h0⟩)]

theorem strSliceLo1 (l : List UInt8) (h1 : 1 ≤ l.length) (w : World) : (Instr.slice 9 (.string ⟨l.toArray⟩) (some (.int .i64 1)) none none).run Tryd.prog w = .ok (.string ⟨(l.drop 1).toArray⟩) w := by
  have h3 : (1 : Int) ≤ l.length := by omega
  simp [go_sem, Tryd.underlying9, h3, seg_end]

set_option maxHeartbeats 1000000 in
set_option maxRecDepth 100000 in
theorem rfDigits (c : Int) (w : World) (hv : validB c = true) :
    Calls Tryd.prog 28 #[.int .i64 c] w fun e w' => e = .returned (.string ⟨(digL c).toArray⟩) ∧ w = w' := by
  have HV := Lib.hid (strip0_hex hv)
  have hll := hexL_length_le c
  clear hv
  go_enter Tryd.func28, Tryd.ntmps28
  go_wp2_with fail
  refine (rfHex _ _).mono ?_
  rintro e w' ⟨rfl, rfl⟩
  go_wp2_with fail
  go_loop [3] (fun s => ∃ l : List UInt8, l.length ≤ 6 ∧ s = .string ⟨l.toArray⟩ ∧ Hid (digL c = strip0 l)) (fun s => strLen s)
  case atStart => exact ⟨hexL c, hll, rfl, Lib.hid HV.out.symm⟩
  case round =>
    obtain ⟨l, hl, rfl, HE⟩ := hrel
    have hb := btN_lt l 0
    by_cases h1 : 1 < l.length
    · have p1 : decide ((1 : Int) < l.length) = true := by simp; omega
      have p0 : (0 : Int) < l.length := by omega
      by_cases h0 : btN l 0 = 48
      · have p2 : ((btN l 0 : Int) == 48) = true := by simp; omega
        have HE' := Lib.hid (HE.out.trans (strip0_step h1 h0))
        have hsl := strSliceLo1 l (by omega)
        have hdl : (l.drop 1).length + 1 = l.length := by rw [List.length_drop]; omega
        generalize l.drop 1 = d at hsl HE' hdl
        have H0 := Lib.hid h0
        clear h0
        go_wp2_with fail
        go_round
        case rel => exact ⟨d, by omega, rfl, HE'⟩
        case measure => rw [strLen_mk, strLen_mk]; omega
      · have p2 : ((btN l 0 : Int) == 48) = false := by simp; omega
        have HE' := Lib.hid (HE.out.trans (strip0_stop (fun h => h0 h.2)))
        have H0 := Lib.hid h0
        clear h0
        go_wp2_with fail
        go_ret
        exact ⟨ret_str HE'.out.symm, rfl⟩
    · have p1 : decide ((1 : Int) < l.length) = false := by simp; omega
      have HE' := Lib.hid (HE.out.trans (strip0_stop (fun h => h1 h.1)))
      go_wp2_with fail
      go_ret
      exact ⟨ret_str HE'.out.symm, rfl⟩

theorem quote_ba (d : List UInt8) (e : List UInt8) : (⟨d.toArray⟩ : ByteArray) ++ ⟨#[92, 117, 123]⟩ ++ ⟨e.toArray⟩ ++ ⟨#[125]⟩ = ⟨(d ++ ([92, 117, 123] ++ e ++ [125])).toArray⟩ := by
  have h1 : (⟨d.toArray⟩ : ByteArray) ++ ⟨#[92, 117, 123]⟩ = ⟨(d ++ [92, 117, 123]).toArray⟩ := ba_app d [92, 117, 123]
  have h3 : (⟨(d ++ [92, 117, 123]).toArray⟩ : ByteArray) ++ ⟨e.toArray⟩ = ⟨(d ++ [92, 117, 123] ++ e).toArray⟩ := ba_app _ e
  rw [h1, h3]
  have h2 : (⟨(d ++ [92, 117, 123] ++ e).toArray⟩ : ByteArray) ++ ⟨#[125]⟩ = ⟨(d ++ [92, 117, 123] ++ e ++ [125]).toArray⟩ := ba_app _ [125]
  rw [h2]
  simp
theorem one_ba (d : List UInt8) (b : UInt8) : (⟨d.toArray⟩ : ByteArray) ++ ⟨#[b]⟩ = ⟨(d ++ [b]).toArray⟩ := ba_app d [b]
theorem two_ba (d : List UInt8) (b : UInt8) : (⟨d.toArray⟩ : ByteArray) ++ ⟨#[92]⟩ ++ ⟨#[b]⟩ = ⟨(d ++ [92, b]).toArray⟩ := by
  have h1 : (⟨d.toArray⟩ : ByteArray) ++ ⟨#[92]⟩ = ⟨(d ++ [92]).toArray⟩ := ba_app d [92]
  rw [h1]
  have h2 : (⟨(d ++ [92]).toArray⟩ : ByteArray) ++ ⟨#[b]⟩ = ⟨(d ++ [92] ++ [b]).toArray⟩ := ba_app _ [b]
  rw [h2]
  simp
theorem text_step {t : List Int} {k : Nat} (hk : k < t.length) : (t.take (k + 1)).flatMap pieceL = (t.take k).flatMap pieceL ++ pieceL (nth t k) := by
  rw [List.take_succ_eq_append_getElem hk, List.flatMap_append, nth_lt hk]
  simp

set_option maxHeartbeats 2000000 in
set_option maxRecDepth 100000 in
theorem rfText5 (zs : List Int) (A : Option Addr) (cap : Nat) (w : World) (hA : IntsAt w A zs) (hl : zs.length ≤ 1000000) :
    Calls Tryd.prog 14 #[.slice A zs.length cap] w fun e w' => e = .returned (textEV zs) ∧ Below w.heap.size w w' := by
  have hcv34 := fun w => conv1 (b := 34) (by omega) (by omega) w
  have HA := Lib.hid hA
  clear hA
  go_enter Tryd.func14, Tryd.ntmps14
  go_wp2_with fail
  go_loopw [4, 5] (fun o i wr => ∃ k : Nat, k ≤ zs.length ∧ i = .int .i64 k ∧ o = .string ⟨([34] ++ (zs.take k).flatMap pieceL).toArray⟩ ∧ Hid (allValid zs = allValid (zs.drop k)) ∧ Below w.heap.size w wr) (fun _ i _ => zs.length - (intOf i).toNat)
  case atStart => exact ⟨0, Nat.zero_le _, rfl, rfl, Lib.hid rfl, bBox _ _⟩
  case round =>
    obtain ⟨k, hk, rfl, rfl, HE, hbr⟩ := hrel
    have hpl : ([34] ++ (zs.take k).flatMap pieceL).length ≤ 10000001 := by
      have := pieces_le (zs.take k)
      rw [List.length_take] at this
      simp only [List.length_append, List.length_singleton]
      omega
    by_cases hlt : k < zs.length
    · obtain ⟨b, off, rfl, hb, hc⟩ := (HA.out.keep hbr).at_ (k := k) hlt
      have hE := HE.out
      rw [drop_nth hlt, allValid_cons] at hE
      have HS := Lib.hid (show [34] ++ (zs.take (k + 1)).flatMap pieceL = ([34] ++ (zs.take k).flatMap pieceL) ++ pieceL (nth zs k) by rw [text_step hlt]; simp)
      generalize [34] ++ (zs.take k).flatMap pieceL = acc at HS hpl
      generalize nth zs k = x at hc HS hE
      cases hv : validB x
      · rw [hv, Bool.false_and] at hE
        have HE := Lib.hid hE
        have Hv := Lib.hid hv
        clear hE hv
        go_wp2_with (go_at_call 27; refine (rfValid _ _).mono ?_; rintro e w' ⟨rfl, rfl⟩; rw [Hv.out])
        go_ret2
        exact ⟨by rw [textEV, HE.out]; rfl, hbr⟩
      · have hx := valid_rng hv
        rw [hv, Bool.true_and] at hE
        have HDg := Lib.hid (fun w' => rfDigits x w' hv)
        have hdl := digL_le x
        have HE := Lib.hid hE
        have Hv := Lib.hid hv
        clear hE hv
        by_cases h1 : x < 32 ∨ 126 < x
        · have HP := Lib.hid (show pieceL x = [92, 117, 123] ++ digL x ++ [125] by rw [pieceL, if_neg (by omega), if_neg (by omega)])
          rcases h1 with h1 | h1
          all_goals
            go_wp2_with (first | (go_at_call 27; refine (rfValid _ _).mono ?_; rintro e w' ⟨rfl, rfl⟩; rw [Hv.out]) | (go_at_call 28; refine (HDg.out _).mono ?_; rintro e w' ⟨rfl, rfl⟩))
            go_roundw
            case rel => exact ⟨k + 1, by omega, by go_num, by rw [HS.out, HP.out, quote_ba], HE, hbr⟩
            case measure => simp [intOf]; omega
        · have h2 : 32 ≤ x := by omega
          have h3 : x ≤ 126 := by omega
          have hcv := fun w => conv1 (b := x) (by omega) (by omega) w
          clear h1
          by_cases h4 : x = 34 ∨ x = 92
          · have HP := Lib.hid (show pieceL x = [92, ub x] by rw [pieceL, if_pos h4])
            rcases h4 with h4 | h4
            all_goals
              subst h4
              clear HDg hdl
              go_wp2_with (go_at_call 27; refine (rfValid _ _).mono ?_; rintro e w' ⟨rfl, rfl⟩; rw [Hv.out])
              go_roundw
              case rel => exact ⟨k + 1, by omega, by go_num, by rw [HS.out, HP.out]; exact congrArg Value.string (two_ba acc _), HE, bUp hbr (bBox _ _)⟩
              case measure => simp [intOf]; omega
          · have HP := Lib.hid (show pieceL x = [ub x] by rw [pieceL, if_neg h4, if_pos ⟨h2, h3⟩])
            have p1 : (x == 34) = false := by simp; omega
            have p2 : (x == 92) = false := by simp; omega
            clear h4 HDg hdl
            go_wp2_with (go_at_call 27; refine (rfValid _ _).mono ?_; rintro e w' ⟨rfl, rfl⟩; rw [Hv.out])
            go_roundw
            case rel => exact ⟨k + 1, by omega, by go_num, by rw [HS.out, HP.out]; exact congrArg Value.string (one_ba acc _), HE, bUp hbr (bBox _ _)⟩
            case measure => simp [intOf]; omega
    · have HE' := Lib.hid (show allValid zs = true by rw [HE.out, List.drop_of_length_le (by omega)]; rfl)
      rw [List.take_of_length_le (by omega)] at hpl ⊢
      have HT := Lib.hid (show textE zs = ([34] ++ zs.flatMap pieceL) ++ [34] from rfl)
      generalize [34] ++ zs.flatMap pieceL = acc at HT hpl
      go_wp2_with fail
      go_ret2
      refine ⟨?_, bUp hbr (bBox _ _)⟩
      rw [textEV, HE'.out, if_pos rfl, HT.out]
      exact congrArg (fun b => Ending.returned (.tuple #[.string b, .int .i64 0])) (one_ba acc 34)
end Go.Proofs.YtgkogbjlbcllmaaDoor
