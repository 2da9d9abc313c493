/- The reference: Name, Codes, decimal, negative -/
import Derived.Test.YthogkokifiibnaaGreatDoorA9
import Derived.Test.YthogkokifiibnaaGreatDoorR1
namespace Go.Proofs.YthogkokifiibnaaGreatDoor
open Go.RowKit Go.Sort

set_option maxHeartbeats 8000000 in
set_option maxRecDepth 100000 in
theorem rfName (l : List UInt8) (w : World) (hl : l.length ≤ 9223372036854775807) :
    Calls Tryz.prog 35 #[.string ⟨l.toArray⟩] w fun e w' => e = .returned (.bool (nameB l)) ∧ w = w' := by
  go_enter Tryz.func35, Tryz.ntmps35
  go_wp2_with fail
  go_loop [3] (fun i => ∃ k : Nat, k ≤ l.length ∧ i = .int .i64 k ∧ Hid ((l.take k).all (fun b => wordZ b.toNat) = true)) (fun i => l.length - (intOf i).toNat)
  case atStart => exact ⟨0, Nat.zero_le _, rfl, Lib.hid rfl⟩
  case round =>
    obtain ⟨k, hk, rfl, HK⟩ := hrel
    by_cases hlt : k < l.length
    · have hbt := btN_lt l k
      have hki : (k : Int) < l.length := by omega
      have HB := Lib.hid (fun h => name_bad hlt h)
      have HG := Lib.hid (fun h => name_step hlt HK.out h)
      have hx : ∃ x : Int, (btN l k : Int) = x := ⟨_, rfl⟩
      obtain ⟨x, hx⟩ := hx
      rw [hx] at HB HG
      have hr : (x < 48) ∨ (48 ≤ x ∧ x ≤ 57) ∨ (58 ≤ x ∧ x ≤ 64) ∨ (65 ≤ x ∧ x ≤ 90) ∨ (91 ≤ x ∧ x ≤ 94) ∨ (x = 95) ∨ (x = 96) ∨ (97 ≤ x ∧ x ≤ 122) ∨ (122 < x) := by omega
      rcases hr with hr | hr | hr | hr | hr | hr | hr | hr | hr
      · have c0 : decide ((65 : Int) ≤ x) = false := decide_eq_false (by omega)
        have c1 : decide (x ≤ (90 : Int)) = true := decide_eq_true (by omega)
        have c2 : decide ((97 : Int) ≤ x) = false := decide_eq_false (by omega)
        have c3 : decide (x ≤ (122 : Int)) = true := decide_eq_true (by omega)
        have c4 : decide ((48 : Int) ≤ x) = false := decide_eq_false (by omega)
        have c5 : decide (x ≤ (57 : Int)) = true := decide_eq_true (by omega)
        have c6 : (x == 95) = false := by simp; omega
        have hw : wordZ x = false := by unfold wordZ; rw [c0, c1, c2, c3, c4, c5, c6]; rfl
        have Hn := Lib.hid (HB.out hw)
        have Hr := Lib.hid hr
        have Hw := Lib.hid hw
        clear hr hw
        go_wp2_with fail
        go_ret
        exact ⟨by rw [Hn.out]; rfl, rfl⟩
      · have c0 : decide ((65 : Int) ≤ x) = false := decide_eq_false (by omega)
        have c1 : decide (x ≤ (90 : Int)) = true := decide_eq_true (by omega)
        have c2 : decide ((97 : Int) ≤ x) = false := decide_eq_false (by omega)
        have c3 : decide (x ≤ (122 : Int)) = true := decide_eq_true (by omega)
        have c4 : decide ((48 : Int) ≤ x) = true := decide_eq_true (by omega)
        have c5 : decide (x ≤ (57 : Int)) = true := decide_eq_true (by omega)
        have c6 : (x == 95) = false := by simp; omega
        have hw : wordZ x = true := by unfold wordZ; rw [c0, c1, c2, c3, c4, c5, c6]; rfl
        have Hn := HG.out hw
        have Hr := Lib.hid hr
        have Hw := Lib.hid hw
        clear hr hw
        go_wp2_with fail
        go_round
        case rel => exact ⟨k + 1, by omega, by go_num, Lib.hid Hn⟩
        case measure => simp [intOf]; omega
      · have c0 : decide ((65 : Int) ≤ x) = false := decide_eq_false (by omega)
        have c1 : decide (x ≤ (90 : Int)) = true := decide_eq_true (by omega)
        have c2 : decide ((97 : Int) ≤ x) = false := decide_eq_false (by omega)
        have c3 : decide (x ≤ (122 : Int)) = true := decide_eq_true (by omega)
        have c4 : decide ((48 : Int) ≤ x) = true := decide_eq_true (by omega)
        have c5 : decide (x ≤ (57 : Int)) = false := decide_eq_false (by omega)
        have c6 : (x == 95) = false := by simp; omega
        have hw : wordZ x = false := by unfold wordZ; rw [c0, c1, c2, c3, c4, c5, c6]; rfl
        have Hn := Lib.hid (HB.out hw)
        have Hr := Lib.hid hr
        have Hw := Lib.hid hw
        clear hr hw
        go_wp2_with fail
        go_ret
        exact ⟨by rw [Hn.out]; rfl, rfl⟩
      · have c0 : decide ((65 : Int) ≤ x) = true := decide_eq_true (by omega)
        have c1 : decide (x ≤ (90 : Int)) = true := decide_eq_true (by omega)
        have c2 : decide ((97 : Int) ≤ x) = false := decide_eq_false (by omega)
        have c3 : decide (x ≤ (122 : Int)) = true := decide_eq_true (by omega)
        have c4 : decide ((48 : Int) ≤ x) = true := decide_eq_true (by omega)
        have c5 : decide (x ≤ (57 : Int)) = false := decide_eq_false (by omega)
        have c6 : (x == 95) = false := by simp; omega
        have hw : wordZ x = true := by unfold wordZ; rw [c0, c1, c2, c3, c4, c5, c6]; rfl
        have Hn := HG.out hw
        have Hr := Lib.hid hr
        have Hw := Lib.hid hw
        clear hr hw
        go_wp2_with fail
        go_round
        case rel => exact ⟨k + 1, by omega, by go_num, Lib.hid Hn⟩
        case measure => simp [intOf]; omega
      · have c0 : decide ((65 : Int) ≤ x) = true := decide_eq_true (by omega)
        have c1 : decide (x ≤ (90 : Int)) = false := decide_eq_false (by omega)
        have c2 : decide ((97 : Int) ≤ x) = false := decide_eq_false (by omega)
        have c3 : decide (x ≤ (122 : Int)) = true := decide_eq_true (by omega)
        have c4 : decide ((48 : Int) ≤ x) = true := decide_eq_true (by omega)
        have c5 : decide (x ≤ (57 : Int)) = false := decide_eq_false (by omega)
        have c6 : (x == 95) = false := by simp; omega
        have hw : wordZ x = false := by unfold wordZ; rw [c0, c1, c2, c3, c4, c5, c6]; rfl
        have Hn := Lib.hid (HB.out hw)
        have Hr := Lib.hid hr
        have Hw := Lib.hid hw
        clear hr hw
        go_wp2_with fail
        go_ret
        exact ⟨by rw [Hn.out]; rfl, rfl⟩
      · have c0 : decide ((65 : Int) ≤ x) = true := decide_eq_true (by omega)
        have c1 : decide (x ≤ (90 : Int)) = false := decide_eq_false (by omega)
        have c2 : decide ((97 : Int) ≤ x) = false := decide_eq_false (by omega)
        have c3 : decide (x ≤ (122 : Int)) = true := decide_eq_true (by omega)
        have c4 : decide ((48 : Int) ≤ x) = true := decide_eq_true (by omega)
        have c5 : decide (x ≤ (57 : Int)) = false := decide_eq_false (by omega)
        have c6 : (x == 95) = true := by simp; omega
        have hw : wordZ x = true := by unfold wordZ; rw [c0, c1, c2, c3, c4, c5, c6]; rfl
        have Hn := HG.out hw
        have Hr := Lib.hid hr
        have Hw := Lib.hid hw
        clear hr hw
        go_wp2_with fail
        go_round
        case rel => exact ⟨k + 1, by omega, by go_num, Lib.hid Hn⟩
        case measure => simp [intOf]; omega
      · have c0 : decide ((65 : Int) ≤ x) = true := decide_eq_true (by omega)
        have c1 : decide (x ≤ (90 : Int)) = false := decide_eq_false (by omega)
        have c2 : decide ((97 : Int) ≤ x) = false := decide_eq_false (by omega)
        have c3 : decide (x ≤ (122 : Int)) = true := decide_eq_true (by omega)
        have c4 : decide ((48 : Int) ≤ x) = true := decide_eq_true (by omega)
        have c5 : decide (x ≤ (57 : Int)) = false := decide_eq_false (by omega)
        have c6 : (x == 95) = false := by simp; omega
        have hw : wordZ x = false := by unfold wordZ; rw [c0, c1, c2, c3, c4, c5, c6]; rfl
        have Hn := Lib.hid (HB.out hw)
        have Hr := Lib.hid hr
        have Hw := Lib.hid hw
        clear hr hw
        go_wp2_with fail
        go_ret
        exact ⟨by rw [Hn.out]; rfl, rfl⟩
      · have c0 : decide ((65 : Int) ≤ x) = true := decide_eq_true (by omega)
        have c1 : decide (x ≤ (90 : Int)) = false := decide_eq_false (by omega)
        have c2 : decide ((97 : Int) ≤ x) = true := decide_eq_true (by omega)
        have c3 : decide (x ≤ (122 : Int)) = true := decide_eq_true (by omega)
        have c4 : decide ((48 : Int) ≤ x) = true := decide_eq_true (by omega)
        have c5 : decide (x ≤ (57 : Int)) = false := decide_eq_false (by omega)
        have c6 : (x == 95) = false := by simp; omega
        have hw : wordZ x = true := by unfold wordZ; rw [c0, c1, c2, c3, c4, c5, c6]; rfl
        have Hn := HG.out hw
        have Hr := Lib.hid hr
        have Hw := Lib.hid hw
        clear hr hw
        go_wp2_with fail
        go_round
        case rel => exact ⟨k + 1, by omega, by go_num, Lib.hid Hn⟩
        case measure => simp [intOf]; omega
      · have c0 : decide ((65 : Int) ≤ x) = true := decide_eq_true (by omega)
        have c1 : decide (x ≤ (90 : Int)) = false := decide_eq_false (by omega)
        have c2 : decide ((97 : Int) ≤ x) = true := decide_eq_true (by omega)
        have c3 : decide (x ≤ (122 : Int)) = false := decide_eq_false (by omega)
        have c4 : decide ((48 : Int) ≤ x) = true := decide_eq_true (by omega)
        have c5 : decide (x ≤ (57 : Int)) = false := decide_eq_false (by omega)
        have c6 : (x == 95) = false := by simp; omega
        have hw : wordZ x = false := by unfold wordZ; rw [c0, c1, c2, c3, c4, c5, c6]; rfl
        have Hn := Lib.hid (HB.out hw)
        have Hr := Lib.hid hr
        have Hw := Lib.hid hw
        clear hr hw
        go_wp2_with fail
        go_ret
        exact ⟨by rw [Hn.out]; rfl, rfl⟩
    · obtain rfl : k = l.length := by omega
      have hki : ¬ (l.length : Int) < l.length := by omega
      have hall := HK.out
      rw [List.take_length] at hall
      by_cases hn : l = []
      · subst hn
        have Hall := Lib.hid hall
        clear hall
        go_wp2_with fail
        go_ret
        exact ⟨rfl, rfl⟩
      · have h0 : 0 < l.length := by cases l with | nil => exact absurd rfl hn | cons => simp
        have hne : decide ((1 : Int) ≤ (l.length : Int)) = true := decide_eq_true (by omega)
        by_cases h32 : l.length ≤ 32
        · have hd : decide ((l.length : Int) ≤ 32) = true := decide_eq_true (by omega)
          have HR := Lib.hid (show nameB l = true by unfold nameB; rw [hall]; simp [hn, h32])
          have Hall := Lib.hid hall
          have Hn := Lib.hid hn
          clear hall hn
          go_wp2_with fail
          go_ret
          exact ⟨by rw [HR.out]; rfl, rfl⟩
        · have hd : decide ((l.length : Int) ≤ 32) = false := decide_eq_false (by omega)
          have HR := Lib.hid (show nameB l = false by unfold nameB; rw [decide_eq_false h32]; simp)
          have Hall := Lib.hid hall
          have Hn := Lib.hid hn
          clear hall hn
          go_wp2_with fail
          go_ret
          exact ⟨by rw [HR.out]; rfl, rfl⟩

theorem blank_ba (d e : List UInt8) : (⟨d.toArray⟩ : ByteArray) ++ ⟨#[32]⟩ ++ ⟨e.toArray⟩ = ⟨(d ++ 32 :: e).toArray⟩ := by
  have h1 : (⟨d.toArray⟩ : ByteArray) ++ ⟨#[32]⟩ = ⟨(d ++ [32]).toArray⟩ := ba_app d [32]
  rw [h1, ba_app]
  simp

set_option maxHeartbeats 1000000 in
set_option maxRecDepth 100000 in
theorem rfCodes (zs : List Int) (A : Option Addr) (cap : Nat) (w : World) (hA : IntsAt w A zs) (hl : zs.length ≤ 100000) :
    Calls Tryz.prog 36 #[.slice A zs.length cap] w fun e w' => e = .returned (codesV zs) ∧ w = w' := by
  have HA := Lib.hid hA
  clear hA
  go_enter Tryz.func36, Tryz.ntmps36
  go_wp2_with fail
  go_loop [4, 5] (fun o i => ∃ k : Nat, k ≤ zs.length ∧ i = .int .i64 k ∧ o = .string ⟨(codesL (zs.take k)).toArray⟩ ∧ Hid (allValid zs = allValid (zs.drop k))) (fun _ i => zs.length - (intOf i).toNat)
  case atStart => exact ⟨0, Nat.zero_le _, rfl, rfl, Lib.hid rfl⟩
  case round =>
    obtain ⟨k, hk, rfl, rfl, HE⟩ := hrel
    have hpl : (codesL (zs.take k)).length ≤ 700000 := by
      have := codesL_le (zs.take k)
      rw [List.length_take] at this
      omega
    by_cases hlt : k < zs.length
    · obtain ⟨b, off, rfl, hb, hc⟩ := HA.out.at_ (k := k) hlt
      have hE := HE.out
      rw [drop_nth hlt, allValid_cons] at hE
      cases hv : validB (nth zs k)
      · rw [hv, Bool.false_and] at hE
        have HR := Lib.hid (show codesV zs = strErr [] 1 by rw [codesV, hE]; rfl)
        generalize codesL (zs.take k) = acc at hpl
        have HE := Lib.hid hE
        have Hv := Lib.hid hv
        clear hE hv
        go_wp2_with (go_at_call 59; refine (rfValid _ _).mono ?_; rintro e w' ⟨rfl, rfl⟩; rw [Hv.out])
        go_ret2
        exact ⟨by rw [HR.out]; rfl, rfl⟩
      · rw [hv, Bool.true_and] at hE
        have hhl := hexL_length_le (nth zs k)
        have HE := Lib.hid hE
        have Hv := Lib.hid hv
        clear hE hv
        by_cases h0 : 0 < k
        · have p1 : decide ((0 : Int) < k) = true := by simp; omega
          have HS := Lib.hid (show codesL (zs.take (k + 1)) = codesL (zs.take k) ++ 32 :: hexL (nth zs k) by
            unfold codesL
            rw [map_snoc hlt, joinL_snoc]
            intro h
            have h' : ((zs.take k).map hexL).length = 0 := by rw [h]; rfl
            rw [List.length_map, List.length_take] at h'
            omega)
          generalize codesL (zs.take k) = acc at hpl HS
          go_wp2_with (first | (go_at_call 59; refine (rfValid _ _).mono ?_; rintro e w' ⟨rfl, rfl⟩; rw [Hv.out]) | (go_at_call 60; refine (rfHex _ _).mono ?_; rintro e w' ⟨rfl, rfl⟩))
          go_round
          case rel => exact ⟨k + 1, by omega, by go_num, by rw [HS.out, blank_ba], HE⟩
          case measure => simp [intOf]; omega
        · obtain rfl : k = 0 := by omega
          rw [Nat.add_zero] at hc
          have HS := Lib.hid (show codesL (zs.take (0 + 1)) = hexL (nth zs 0) by
            unfold codesL
            rw [map_snoc hlt]
            rfl)
          have HN := Lib.hid (show codesL (zs.take 0) = [] by rfl)
          rw [HN.out]
          clear hpl
          go_wp2_with (first | (go_at_call 59; refine (rfValid _ _).mono ?_; rintro e w' ⟨rfl, rfl⟩; rw [Hv.out]) | (go_at_call 60; refine (rfHex _ _).mono ?_; rintro e w' ⟨rfl, rfl⟩))
          go_round
          case rel => exact ⟨1, by omega, rfl, by rw [HS.out]; exact congrArg Value.string (ba_app [] (hexL (nth zs 0))), HE⟩
          case measure => simp [intOf]; omega
    · have HE' := Lib.hid (show codesV zs = strErr (codesL (zs.take k)) 0 by rw [codesV, HE.out, List.drop_of_length_le (by omega), List.take_of_length_le (by omega)]; rfl)
      generalize codesL (zs.take k) = acc at hpl HE'
      go_wp2_with fail
      go_ret2
      exact ⟨by rw [HE'.out]; rfl, rfl⟩

theorem conv_new0 (w : World) (l : List UInt8) (c : Nat) (cs : Array Value) (hc : cs = (Lib.byteCells l).toArray) : (convert 55 9 (.slice (some ⟨w.heap.size, 0, none⟩) l.length c)).run Tryz.prog (w.alloc (.cells cs 5)) = .ok (.string ⟨l.toArray⟩) (w.alloc (.cells cs 5)) := by
  refine run_convert_bytes_back (P := Tryz.prog) _ 55 9 5 ⟨w.heap.size, 0, none⟩ c l Tryz.underlying55 Tryz.underlying5 Tryz.underlying9 (fun j hj => ?_)
  rw [Go.WideShapes.add_plain, Nat.zero_add]
  show (w.alloc (.cells cs 5)).cell? ⟨w.heap.size, j, none⟩ = _
  rw [cell_box, hc]
  simp [Lib.byteCells, hj]
set_option maxHeartbeats 2000000 in
set_option maxRecDepth 100000 in
theorem rfDecimal : ∀ (m : Nat) (w : World), m ≤ 9223372036854775807 →
    Calls Tryz.prog 34 #[.int .i64 m] w fun e w' => e = .returned (.string ⟨(Lib.decDigits m).toArray⟩) ∧ Below w.heap.size w w' := by
  intro m
  induction m using Nat.strongRecOn with
  | _ m ih =>
    intro w hm
    have hcv : ∀ w' : World, (convert 55 9 (.slice (some ⟨w'.heap.size, 0, none⟩) 1 1)).run Tryz.prog (w'.alloc (.cells #[.int .u8 (48 + (m : Int) % 10)] 5)) = .ok (.string ⟨[UInt8.ofNat (48 + m % 10)].toArray⟩) (w'.alloc (.cells #[.int .u8 (48 + (m : Int) % 10)] 5)) := fun w' => conv_new0 w' [UInt8.ofNat (48 + m % 10)] 1 #[.int .u8 (48 + (m : Int) % 10)] (by simp [Lib.byteCells]; omega)
    by_cases h : m < 10
    · have hlt : decide ((m : Int) < 10) = true := decide_eq_true (by omega)
      have HR := Lib.hid (show Lib.decDigits m = [UInt8.ofNat (48 + m % 10)] by rw [Lib.decDigits_one h, Nat.mod_eq_of_lt h])
      have hb0 : 0 ≤ (m : Int) % 10 := by omega
      have hb1 : (m : Int) % 10 < 10 := by omega
      rw [HR.out]
      generalize [UInt8.ofNat (48 + m % 10)] = dl at hcv HR
      clear ih
      go_enter Tryz.func34, Tryz.ntmps34
      go_wp2_with fail
      go_ret
      exact ⟨rfl, bBox w _⟩
    · have hlt : decide ((m : Int) < 10) = false := decide_eq_false (by omega)
      have HR := Lib.hid (show Lib.decDigits m = Lib.decDigits (m / 10) ++ [UInt8.ofNat (48 + m % 10)] by rw [Lib.decDigits, dif_neg h])
      have HI := Lib.hid (fun w' => ih (m / 10) (by omega) w' (by omega))
      rw [show ((m / 10 : Nat) : Int) = (m : Int) / 10 by omega] at HI
      have hl1 : (Lib.decDigits (m / 10)).length ≤ 20 := by rw [Lib.decDigits_length]; exact Lib.nDigits_le20 _ (by omega)
      have hl2 : [UInt8.ofNat (48 + m % 10)].length ≤ 1 := Nat.le_refl _
      have hb0 : 0 ≤ (m : Int) % 10 := by omega
      have hb1 : (m : Int) % 10 < 10 := by omega
      rw [HR.out]
      generalize [UInt8.ofNat (48 + m % 10)] = dl at hcv HR hl2
      generalize Lib.decDigits (m / 10) = dh at HI HR hl1
      have hcat : (⟨dh.toArray⟩ : ByteArray) ++ ⟨dl.toArray⟩ = ⟨(dh ++ dl).toArray⟩ := catE dh dl
      generalize dh ++ dl = dd at hcat HR
      clear ih
      go_enter Tryz.func34, Tryz.ntmps34
      go_wp2_with fail
      refine (HI.out _).mono ?_
      rintro e w1 ⟨rfl, hb⟩
      go_wp2_with fail
      go_ret
      exact ⟨rfl, bUp (bBox w _) hb⟩
theorem rfDec (z : Int) (w : World) (h0 : 0 ≤ z) (h1 : z ≤ 9223372036854775807) :
    Calls Tryz.prog 34 #[.int .i64 z] w fun e w' => e = .returned (.string ⟨(Lib.itoa z).toArray⟩) ∧ Below w.heap.size w w' := by
  rw [itoa_dec h0]
  obtain ⟨m, rfl⟩ := Int.eq_ofNat_of_zero_le h0
  exact rfDecimal m w (by omega)
/-- decimal in a region that draws its order -/
theorem callsDec {w : World} : ∀ z, 0 ≤ z → z ≤ 9223372036854775807 → ∀ d os, Calls Tryz.prog 34 #[.int .i64 z] (grow (redrawn w d) os) fun e w'' => e = .returned (.string ⟨(Lib.itoa z).toArray⟩) ∧ ∃ p : Regrown, w'' = grow (redrawn w p.d) p.os :=
  fun z h0 h1 => callsQ (fun w' _ => rfDec z w' h0 h1)

/-- a number of the collation is negative -/
def negC (gs : List GroupD) (b s t : Int) : Bool := gs.any negG || (decide (b < 0) || (decide (s < 0) || decide (t < 0)))
theorem negC_chk {es : List EntryD} {gs : List GroupD} {b s t : Int} (h : negC gs b s t = true) : chkF ⟨es, gs, b, s, t⟩ = 1 := by
  unfold negC at h
  simp only [Bool.or_eq_true, decide_eq_true_eq] at h
  by_cases hn : b < 0 ∨ s < 0 ∨ t < 0
  · exact chkF_neg hn
  · rcases h with h | h
    · refine chkF_g ?_
      rw [any_not (p := okG) (q := negG) (fun x => by simp [okG])] at h
      simpa using h
    · exact absurd h hn
theorem negC_no {gs : List GroupD} {b s t : Int} (h : negC gs b s t = false) : ¬ (b < 0 ∨ s < 0 ∨ t < 0) ∧ gs.all okG = true := by
  unfold negC at h
  simp only [Bool.or_eq_false_iff, decide_eq_false_iff_not] at h
  obtain ⟨h1, h2, h3, h4⟩ := h
  refine ⟨by omega, ?_⟩
  rw [any_not (p := okG) (q := negG) (fun x => by simp [okG])] at h1
  simpa using h1
set_option maxHeartbeats 2000000 in
set_option maxRecDepth 100000 in
theorem rfNegative (es : List EntryD) (gs : List GroupD) (b s t : Int) (AE AG : Option Addr) (cE cG : Nat) (w : World) (hG : GroupsAt w AG gs) (hng : gs.length ≤ 100000) :
    Calls Tryz.prog 33 #[.agg #[.slice AE es.length cE, .slice AG gs.length cG, .int .i64 b, .int .i64 s, .int .i64 t]] w fun e w' => e = .returned (.bool (negC gs b s t)) ∧ Below w.heap.size w w' := by
  have HC := Lib.hid (show negC gs b s t = (gs.any negG || (decide (b < 0) || (decide (s < 0) || decide (t < 0)))) from rfl)
  generalize negC gs b s t = nc at HC
  have HG := Lib.hid hG
  clear hG
  go_enter Tryz.func33, Tryz.ntmps33
  go_wp2_with fail
  have hB := Blk.new w #[.slice AE es.length cE, .slice AG gs.length cG, .int .i64 b, .int .i64 s, .int .i64 t] 35
  have hw1 := bBox w (.cells #[.slice AE es.length cE, .slice AG gs.length cG, .int .i64 b, .int .i64 s, .int .i64 t] 35)
  generalize w.alloc (.cells #[.slice AE es.length cE, .slice AG gs.length cG, .int .i64 b, .int .i64 s, .int .i64 t] 35) = w1 at hB hw1 ⊢
  have q1 : w1.cell? ⟨w.heap.size, 1, none⟩ = some (.slice AG gs.length cG) := hB.cell 1
  have q2 : w1.cell? ⟨w.heap.size, 2, none⟩ = some (.int .i64 b) := hB.cell 2
  have q3 : w1.cell? ⟨w.heap.size, 3, none⟩ = some (.int .i64 s) := hB.cell 3
  have q4 : w1.cell? ⟨w.heap.size, 4, none⟩ = some (.int .i64 t) := hB.cell 4
  have HG1 := Lib.hid (HG.out.keep hw1)
  clear hB HG
  go_loop [3] (fun i => ∃ k : Nat, k ≤ gs.length ∧ i = .int .i64 k ∧ Hid ((gs.take k).all okG = true)) (fun i => gs.length - (intOf i).toNat)
  case atStart => exact ⟨0, Nat.zero_le _, rfl, Lib.hid rfl⟩
  case round =>
    obtain ⟨k, hk, rfl, HK⟩ := hrel
    by_cases hlt : k < gs.length
    · obtain ⟨b1, o1, rfl, h1, p0, p1, p2⟩ := HG1.out.at_ hlt
      have hki : (k : Int) < gs.length := by omega
      have hbad := fun h => take_bad (p := okG) (groupAt_get hlt) h
      have hgood := fun h => take_good (p := okG) (groupAt_get hlt) HK.out h
      generalize groupAt gs k = d at p0 p1 p2 hbad hgood
      obtain ⟨nm, lo, hi⟩ := d
      dsimp only at p0 p1 p2
      have hnc := fun (h : gs.all okG = false) => (show nc = true by rw [HC.out, any_not (p := okG) (q := negG) (fun x => by simp [okG]), h]; rfl)
      by_cases hlo : lo < 0
      · have e1 : decide (lo < 0) = true := decide_eq_true hlo
        have HR := Lib.hid (hnc (hbad (by simp [okG, negG, hlo])))
        clear hbad hgood hnc
        have Hlo := Lib.hid hlo
        clear hlo
        go_wp2_with fail
        go_ret
        exact ⟨by rw [HR.out]; rfl, hw1⟩
      · have e1 : decide (lo < 0) = false := decide_eq_false hlo
        by_cases hhi : hi < 0
        · have e2 : decide (hi < 0) = true := decide_eq_true hhi
          have HR := Lib.hid (hnc (hbad (by simp [okG, negG, hhi])))
          clear hbad hgood hnc
          have Hlo := Lib.hid hlo
          have Hhi := Lib.hid hhi
          clear hlo hhi
          go_wp2_with fail
          go_ret
          exact ⟨by rw [HR.out]; rfl, hw1⟩
        · have e2 : decide (hi < 0) = false := decide_eq_false hhi
          have HR := Lib.hid (hgood (by simp [okG, negG]; omega))
          clear hbad hgood hnc
          have Hlo := Lib.hid hlo
          have Hhi := Lib.hid hhi
          clear hlo hhi
          go_wp2_with fail
          go_round
          case rel => exact ⟨k + 1, by omega, by go_num, HR⟩
          case measure => simp [intOf]; omega
    · obtain rfl : k = gs.length := by omega
      have hki : ¬ (gs.length : Int) < gs.length := by omega
      have hA1 := HK.out
      rw [List.take_length] at hA1
      have HR := Lib.hid (show nc = (decide (b < 0) || (decide (s < 0) || decide (t < 0))) by rw [HC.out, any_not (p := okG) (q := negG) (fun x => by simp [okG]), hA1]; rfl)
      clear HC HK hA1
      by_cases h1 : b < 0
      · have d1 : decide (b < 0) = true := decide_eq_true h1
        have HQ := Lib.hid (show nc = true by rw [HR.out, d1]; rfl)
        have H1 := Lib.hid h1
        clear h1
        clear HR
        go_wp2_with fail
        go_ret
        exact ⟨by rw [HQ.out]; rfl, hw1⟩
      · have d1 : decide (b < 0) = false := decide_eq_false h1
        by_cases h2 : s < 0
        · have d2 : decide (s < 0) = true := decide_eq_true h2
          have HQ := Lib.hid (show nc = true by rw [HR.out, d1, d2]; rfl)
          have H1 := Lib.hid h1
          have H2 := Lib.hid h2
          clear h1 h2
          clear HR
          go_wp2_with fail
          go_ret
          exact ⟨by rw [HQ.out]; rfl, hw1⟩
        · have d2 : decide (s < 0) = false := decide_eq_false h2
          have HQ := Lib.hid (show nc = decide (t < 0) by rw [HR.out, d1, d2]; rfl)
          have H1 := Lib.hid h1
          have H2 := Lib.hid h2
          clear h1 h2
          clear HR
          go_wp2_with fail
          go_ret
          exact ⟨by rw [HQ.out]; rfl, hw1⟩
end Go.Proofs.YthogkokifiibnaaGreatDoor
