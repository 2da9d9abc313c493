/- ref06: instead, written; ref03: Policy, Written -/
import Derived.Test.YthpiopjpipdgnaaDoorCs9
import Derived.Test.YthpiopjpipdgnaaDoorBase2
namespace Go.Proofs.YthpiopjpipdgnaaDoor
open Go.RowKit Go.Sort

theorem rfPolicy (c : Int) (w : World) : Calls Tryd.prog 35 #[.int .i64 c] w fun e w' => e = .returned (.bool (polB c)) ∧ w = w' := by
  by_cases h1 : 1 ≤ c <;> by_cases h2 : c ≤ 4
  all_goals
    go_enter Tryd.func35, Tryd.ntmps35
    go_wp2
    go_ret
    exact ⟨by simp [polB, h1, h2], rfl⟩

set_option maxRecDepth 100000 in
theorem rfWrittenEsc (x : Int) (w : World) : Calls Tryd.prog 38 #[.int .i64 x] w fun e w' => e = .returned (.string ⟨(escL x).toArray⟩) ∧ w = w' := by
  have hh := hexL_length_le x
  go_enter Tryd.func38, Tryd.ntmps38
  go_wp2_with fail
  refine (rfHex _ _).mono ?_
  rintro e w' ⟨rfl, rfl⟩
  go_wp2_with fail
  rw [esc_ba]
  go_ret
  exact ⟨rfl, rfl⟩

/-- string([]byte{b}) -/
theorem conv1 {b : Int} (h0 : 0 ≤ b) (h1 : b ≤ 255) (w : World) : (convert 55 9 (.slice (some ⟨w.heap.size, 0, none⟩) 1 1)).run Tryd.prog (w.alloc (.cells #[.int .u8 b] 5)) = .ok (.string ⟨#[ub b]⟩) (w.alloc (.cells #[.int .u8 b] 5)) := by
  have := run_convert_bytes_back (P := Tryd.prog) (w.alloc (.cells #[.int .u8 b] 5)) 55 9 5 ⟨w.heap.size, 0, none⟩ 1 [ub b] Tryd.underlying55 Tryd.underlying5 Tryd.underlying9 (fun j hj => by
    obtain rfl : j = 0 := by simp at hj; omega
    rw [Go.WideShapes.add_plain, cell_box]
    show some _ = some _
    rw [show ((([ub b] : List UInt8)[0]).toNat : Int) = b from ub_toNat h0 h1]; rfl)
  exact this

theorem putL_some {f : Int → Option Int} {x c : Int} (h : f x = some c) : putL f x = [ub c] := by simp [putL, h]

set_option maxHeartbeats 1000000 in
set_option maxRecDepth 100000 in
theorem rfInstead (zs : List Int) (A : Option Addr) (cap : Nat) (w : World) (hA : IntsAt w A zs) (hl : zs.length ≤ 256) :
    Calls Tryd.prog 36 #[.agg #[.slice A zs.length cap]] w fun e w' => e = .returned (.string ⟨(missL (byteF zs) 2 0).toArray⟩) ∧ Below w.heap.size w w' := by
  have HB := Lib.hid (fun x w' (hb : Below w.heap.size w w') => refByte zs A cap x w' (hA.keep hb) (by omega))
  have l63 := byteL_lt 63 zs 0
  have l26 := byteL_lt 26 zs 0
  clear hA
  by_cases h63 : byteL 63 zs 0 < 0
  · have e63 := byteF_none h63
    by_cases h26 : byteL 26 zs 0 < 0
    · have HM := Lib.hid (show missL (byteF zs) 2 0 = [] by simp [missL, e63, putL, byteF_none h26])
      clear e63
      go_enter Tryd.func36, Tryd.ntmps36
      go_wp2_with fail
      refine (HB.out 63 _ (bBox _ _)).mono ?_
      rintro e w1 ⟨rfl, hb1⟩
      have B0 := ((Blk.new w #[.slice A zs.length cap] 24).keep hb1).cell 0
      go_wp2_with fail
      refine (HB.out 26 _ (bUp (bBox _ _) hb1)).mono ?_
      rintro e w2 ⟨rfl, hb2⟩
      go_wp2_with fail
      go_ret
      exact ⟨ret_str HM.out.symm, bUp (bUp (bBox _ _) hb1) hb2⟩
    · have HM := Lib.hid (show missL (byteF zs) 2 0 = [ub (byteL 26 zs 0)] by simp [missL, e63, putL_some (byteF_some h26)])
      have hcv := fun w => conv1 (b := byteL 26 zs 0) (by omega) (by omega) w
      clear e63
      go_enter Tryd.func36, Tryd.ntmps36
      go_wp2_with fail
      refine (HB.out 63 _ (bBox _ _)).mono ?_
      rintro e w1 ⟨rfl, hb1⟩
      have B0 := ((Blk.new w #[.slice A zs.length cap] 24).keep hb1).cell 0
      go_wp2_with fail
      refine (HB.out 26 _ (bUp (bBox _ _) hb1)).mono ?_
      rintro e w2 ⟨rfl, hb2⟩
      go_wp2_with fail
      go_ret
      exact ⟨ret_str HM.out.symm, bUp (bUp (bUp (bBox _ _) hb1) hb2) (bBox _ _)⟩
  · have HM := Lib.hid (show missL (byteF zs) 2 0 = [ub (byteL 63 zs 0)] by simp [missL, byteF_some h63, putL_some (byteF_some h63)])
    have hcv := fun w => conv1 (b := byteL 63 zs 0) (by omega) (by omega) w
    go_enter Tryd.func36, Tryd.ntmps36
    go_wp2_with fail
    refine (HB.out 63 _ (bBox _ _)).mono ?_
    rintro e w1 ⟨rfl, hb1⟩
    go_wp2_with fail
    go_ret
    exact ⟨ret_str HM.out.symm, bUp (bUp (bBox _ _) hb1) (bBox _ _)⟩

set_option maxHeartbeats 1000000 in
set_option maxRecDepth 100000 in
theorem rfWritten (zs : List Int) (A : Option Addr) (cap : Nat) (t : List UInt8) (w : World) (hA : IntsAt w A zs) (hl : zs.length ≤ 256) (ht : t.length ≤ 100) :
    Calls Tryd.prog 37 #[.agg #[.slice A zs.length cap], .string ⟨t.toArray⟩] w fun e w' => e = .returned (.string ⟨(putsL (byteF zs) t).toArray⟩) ∧ Below w.heap.size w w' := by
  have HA := Lib.hid hA
  clear hA
  go_enter Tryd.func37, Tryd.ntmps37
  go_wp2_with fail
  go_loopw [5, 6] (fun o i wr => ∃ k : Nat, k ≤ t.length ∧ i = .int .i64 k ∧ o = .string ⟨(putsL (byteF zs) (t.take k)).toArray⟩ ∧ Below (w.heap.size + 1) (w.alloc (.cells #[.slice A zs.length cap] 24)) wr) (fun _ i _ => t.length - (intOf i).toNat)
  case atStart => exact ⟨0, Nat.zero_le _, rfl, by simp [putsL], Below.refl _ _⟩
  case round =>
    obtain ⟨k, hk, rfl, rfl, hbr⟩ := hrel
    have hbr' : Below (w.alloc (.cells #[.slice A zs.length cap] 24)).heap.size (w.alloc (.cells #[.slice A zs.length cap] 24)) wr := by simpa using hbr
    by_cases hlt : k < t.length
    · have hbt := btN_lt t k
      have c0 := ((Blk.new w #[.slice A zs.length cap] 24).keep hbr').cell 0
      have hb0 : Below w.heap.size w wr := bUp (bBox _ _) hbr'
      have cB := callsQ (w := wr) (fun w' hb => refByte zs A cap (btN t k) w' (HA.out.keep (bUp hb0 hb)) (by omega))
      have k0 := cell_regrown (show wr.cell? ⟨w.heap.size, 0, none⟩ = some (.slice A zs.length cap) from c0)
      have HS := Lib.hid (putsL_snoc (byteF zs) t hlt)
      have hlb := byteL_lt (btN t k) zs 0
      have hln : (putsL (byteF zs) (t.take k)).length ≤ 100 := Nat.le_trans (putsL_le _ _) (by simp; omega)
      have hki : (k : Int) < t.length := by omega
      have CB := Lib.hid cB
      clear cB
      clear c0
      by_cases hq : byteL (btN t k) zs 0 < 0
      · have HP := Lib.hid (show putL (byteF zs) (btN t k) = [] by simp [putL, byteF_none hq])
        go_wp2_with fail
        refine wp_region_quiet_below (by kernel_rfl) (by kernel_rfl) ?_
        repeat (go_big_quiet_step (exact CB.out _ _))
        refine wpQuiet_nil ?_
        rintro _ ⟨⟨dq, osq⟩, rfl⟩
        have hb2 := below_regrown wr dq osq
        generalize grow (redrawn wr dq) osq = w2 at hb2 ⊢
        go_wp2_with fail
        go_roundw
        case rel => exact ⟨k + 1, by omega, by go_num, by rw [HS.out, HP.out, List.append_nil], hbr.trans (hb2.mono (by simpa using hbr'.size))⟩
        case measure => simp [intOf]; omega
      · have HP := Lib.hid (show putL (byteF zs) (btN t k) = [ub (byteL (btN t k) zs 0)] from putL_some (byteF_some hq))
        have hcv := fun w => conv1 (b := byteL (btN t k) zs 0) (by omega) (by omega) w
        go_wp2_with fail
        refine wp_region_quiet_below (by kernel_rfl) (by kernel_rfl) ?_
        repeat (go_big_quiet_step (exact CB.out _ _))
        refine wpQuiet_nil ?_
        rintro _ ⟨⟨dq, osq⟩, rfl⟩
        have hb2 := below_regrown wr dq osq
        generalize grow (redrawn wr dq) osq = w2 at hb2 ⊢
        go_wp2_with fail
        go_roundw
        case rel => exact ⟨k + 1, by omega, by go_num, by rw [HS.out, HP.out]; exact str_app _ [_], (hbr.trans (hb2.mono (by simpa using hbr'.size))).alloc (Nat.le_trans (by simpa using hbr'.size) hb2.size) _⟩
        case measure => simp [intOf]; omega
    · go_wp2_with fail
      go_ret
      exact ⟨ret_str (by rw [List.take_of_length_le (by omega)]), bUp (bBox _ _) hbr'⟩
end Go.Proofs.YthpiopjpipdgnaaDoor
