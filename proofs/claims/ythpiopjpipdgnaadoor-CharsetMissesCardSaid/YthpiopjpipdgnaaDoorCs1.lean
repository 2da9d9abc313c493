/- charset: Byte of the reference -/
import Derived.Test.YthpiopjpipdgnaaDoorCp1
import Derived.Lib.QuietBelow
namespace Go.Proofs.YthpiopjpipdgnaaDoor
open Go.RowKit Go.Sort

def byteL (x : Int) : List Int → Nat → Int
  | [], _ => -1
  | z :: r, i => if 0 ≤ x ∧ z = x then i else byteL x r (i + 1)

theorem byteL_hit {zs : List Int} {k : Nat} {x : Int} (hk : k < zs.length) (hx : 0 ≤ x) (h : nth zs k = x) : byteL x (zs.drop k) k = k := by
  rw [drop_nth hk]; simp [byteL, hx, h]
theorem byteL_miss {zs : List Int} {k : Nat} {x : Int} (hk : k < zs.length) (h : ¬ (0 ≤ x ∧ nth zs k = x)) : byteL x (zs.drop k) k = byteL x (zs.drop (k + 1)) (k + 1) := by
  rw [drop_nth hk, byteL, if_neg h]

theorem refByte (zs : List Int) (A : Option Addr) (cap : Nat) (x : Int) (w : World) (hA : IntsAt w A zs) (hl : zs.length ≤ 300) :
    Calls Tryd.prog 29 #[.agg #[.slice A zs.length cap], .int .i64 x] w fun e w' => e = .returned (.int .i64 (byteL x zs 0)) ∧ Below w.heap.size w w' := by
  have HA := Lib.hid hA
  clear hA
  go_enter Tryd.func29, Tryd.ntmps29
  go_wp2
  go_loop [5] (fun i => ∃ k : Nat, k ≤ zs.length ∧ i = .int .i64 k ∧ Hid (byteL x zs 0 = byteL x (zs.drop k) k)) (fun i => zs.length - (intOf i).toNat)
  case atStart => exact ⟨0, Nat.zero_le _, rfl, rfl⟩
  case round =>
    obtain ⟨k, hk, rfl, HB⟩ := hrel
    by_cases hlt : k < zs.length
    · obtain ⟨b, off, rfl, hb, hc⟩ := HA.out.at_ hlt
      by_cases hx : 0 ≤ x
      · by_cases he : nth zs k = x
        · have he' : (nth zs k == x) = true := by simpa using he
          have He := Lib.hid he
          clear he
          go_wp2
          go_ret
          exact ⟨ret_int (by rw [HB.out, byteL_hit hlt hx He.out]), (Below.refl _ _).alloc (Nat.le_refl _) _⟩
        · have he' : (nth zs k == x) = false := by simpa using he
          have He := Lib.hid he
          clear he
          go_wp2
          go_round
          case rel => exact ⟨k + 1, by omega, by go_num, HB.out.trans (byteL_miss hlt (fun h => He.out h.2))⟩
          case measure => simp [intOf]; omega
      · go_wp2
        go_round
        case rel => exact ⟨k + 1, by omega, by go_num, HB.out.trans (byteL_miss hlt (fun h => hx h.1))⟩
        case measure => simp [intOf]; omega
    · go_wp2
      go_ret
      exact ⟨ret_int (by rw [HB.out, List.drop_of_length_le (by omega)]; rfl), (Below.refl _ _).alloc (Nat.le_refl _) _⟩

/-- what Check answers: the first error of a charset's codes -/
def rangeBad (zs : List Int) : Bool := zs.any fun z => !(z == -1) && !scalarB z
def twiceFrom (zs : List Int) : List Int → Nat → Bool
  | [], _ => false
  | z :: r, i => (decide (0 ≤ z) && decide (byteL z zs 0 < i)) || twiceFrom zs r (i + 1)
def checkC (zs : List Int) : Int :=
  if zs.length ≠ 256 then 2 else if rangeBad zs then 1 else if twiceFrom zs zs 0 then 5 else 0

theorem rangeBad_cons (z : Int) (r : List Int) : rangeBad (z :: r) = ((!(z == -1) && !scalarB z) || rangeBad r) := rfl

set_option maxRecDepth 100000 in
theorem refCheck (zs : List Int) (A : Option Addr) (cap : Nat) (w : World) (hA : IntsAt w A zs) (hl : zs.length ≤ 300) :
    Calls Tryd.prog 13 #[.agg #[.slice A zs.length cap]] w fun e w' => e = .returned (.int .i64 (checkC zs)) ∧ Below w.heap.size w w' := by
  have HA := Lib.hid hA
  clear hA
  by_cases hn : zs.length = 256
  · have hne : ((zs.length : Int) != 256) = false := by simp; omega
    have HN := Lib.hid hn
    have hn1 : zs.length ≤ 256 := by omega
    have hn2 : 256 ≤ zs.length := by omega
    clear hn
    go_enter Tryd.func13, Tryd.ntmps13
    go_wp2_with fail
    go_loop [3] (fun i => ∃ k : Nat, k ≤ 256 ∧ i = .int .i64 k ∧ Hid (rangeBad zs = rangeBad (zs.drop k))) (fun i => 256 - (intOf i).toNat)
    case atStart => exact ⟨0, Nat.zero_le _, rfl, rfl⟩
    case round =>
      obtain ⟨k, hk, rfl, HB⟩ := hrel
      by_cases hlt : k < 256
      · obtain ⟨b, off, rfl, hb, hc⟩ := HA.out.at_ (k := k) (by omega)
        have hd := drop_nth (zs := zs) (k := k) (by omega)
        by_cases he : nth zs k = -1
        · have he' : (nth zs k != -1) = false := by simpa using he
          have He := Lib.hid he
          have Hd := Lib.hid hd
          clear he hd
          go_wp2_with fail
          go_round
          case rel => exact ⟨k + 1, by omega, by go_num, Lib.hid (by rw [HB.out, Hd.out, rangeBad_cons]; simp [He.out])⟩
          case measure => simp [intOf]; omega
        · have he' : (nth zs k != -1) = true := by simpa using he
          have He := Lib.hid he
          have Hd := Lib.hid hd
          clear he hd
          cases hs : scalarB (nth zs k)
          · have Hs := Lib.hid hs
            clear hs
            go_wp2_with (go_at_call 28; refine (rfScalar _ _).mono ?_; rintro e w' ⟨rfl, rfl⟩; rw [Hs.out])
            go_ret
            refine ⟨ret_int ?_, (Below.refl _ _).alloc (Nat.le_refl _) _⟩
            have : rangeBad zs = true := by rw [HB.out, Hd.out, rangeBad_cons]; simp [Hs.out, He.out]
            simp [checkC, HN.out, this]
          · have Hs := Lib.hid hs
            clear hs
            go_wp2_with (go_at_call 28; refine (rfScalar _ _).mono ?_; rintro e w' ⟨rfl, rfl⟩; rw [Hs.out])
            go_round
            case rel => exact ⟨k + 1, by omega, by go_num, Lib.hid (by rw [HB.out, Hd.out, rangeBad_cons]; simp [Hs.out])⟩
            case measure => simp [intOf]; omega
      · have HR : Hid (rangeBad zs = false) := Lib.hid (by rw [HB.out, List.drop_of_length_le (by omega)]; rfl)
        clear HB
        go_wp2_with fail
        go_loopw [4] (fun i wr => ∃ m : Nat, m ≤ 256 ∧ i = .int .i64 m ∧ Hid (twiceFrom zs zs 0 = twiceFrom zs (zs.drop m) m) ∧ Below (w.heap.size + 1) (w.alloc (.cells #[.slice A zs.length cap] 24)) wr) (fun i _ => 256 - (intOf i).toNat)
        case atStart => exact ⟨0, Nat.zero_le _, rfl, rfl, Below.refl _ _⟩
        case round =>
          obtain ⟨m, hm, rfl, HB, hbel⟩ := hrel
          by_cases hlt : m < 256
          · obtain ⟨b, off, rfl, hb, hc⟩ := HA.out.at_ (k := m) (by omega)
            have hd := drop_nth (zs := zs) (k := m) (by omega)
            have hbox : wr.cell? ⟨w.heap.size, 0, none⟩ = some (.slice (some ⟨b, off, none⟩) zs.length cap) := (hbel.cell (p := ⟨w.heap.size, 0, none⟩) (Nat.lt_succ_self _)).trans (by rw [World.cell?_alloc_new]; rfl)
            have hcm : wr.cell? ⟨b, off + m, none⟩ = some (.int .i64 (nth zs m)) := (hbel.cell (p := ⟨b, off + m, none⟩) (Nat.lt_succ_of_lt hb)).trans ((World.cell?_alloc_lt _ _ _ hb).trans hc)
            have k0 := cell_regrown hbox
            have k1 := cell_regrown hcm
            have HA1 : IntsAt wr (some ⟨b, off, none⟩) zs := (HA.out.keep ((Below.refl _ _).alloc (Nat.le_refl _) _)).keep (by simpa using hbel)
            have cB := callsQ (w := wr) (fun w' hb => refByte zs (some ⟨b, off, none⟩) cap (nth zs m) w' (HA1.keep hb) hl)
            have CB := Lib.hid cB
            have Hd := Lib.hid hd
            clear cB hd
            clear HA1
            by_cases hz : 0 ≤ nth zs m
            · have hz' : decide (0 ≤ nth zs m) = true := by simpa using hz
              by_cases hq : byteL (nth zs m) zs 0 < m
              · have HT : Hid (twiceFrom zs zs 0 = true) := Lib.hid (by rw [HB.out, Hd.out, twiceFrom]; simp [hz, hq])
                go_wp2_with fail
                refine wp_region_quiet_below (by kernel_rfl) (by kernel_rfl) ?_
                repeat (go_big_quiet_step (exact CB.out _ _))
                refine wpQuiet_nil ?_
                rintro _ ⟨⟨dq, osq⟩, rfl⟩
                have hb2 := below_regrown wr dq osq
                generalize grow (redrawn wr dq) osq = w2 at hb2 ⊢
                go_wp2_with fail
                go_ret
                refine ⟨ret_int (by simp [checkC, HN.out, HR.out, HT.out]), ?_⟩
                exact bUp (bUp (bBox w _) (by simpa using hbel)) hb2
              · have HT : Hid (twiceFrom zs zs 0 = twiceFrom zs (zs.drop (m + 1)) (m + 1)) := Lib.hid (by rw [HB.out, Hd.out, twiceFrom]; simp [hq])
                go_wp2_with fail
                refine wp_region_quiet_below (by kernel_rfl) (by kernel_rfl) ?_
                repeat (go_big_quiet_step (exact CB.out _ _))
                refine wpQuiet_nil ?_
                rintro _ ⟨⟨dq, osq⟩, rfl⟩
                have hb2 := below_regrown wr dq osq
                generalize grow (redrawn wr dq) osq = w2 at hb2 ⊢
                go_wp2_with fail
                go_roundw
                case rel => exact ⟨m + 1, by omega, by go_num, HT, hbel.trans (hb2.mono (by simpa using hbel.size))⟩
                case measure => simp [intOf]; omega
            · have hz' : decide (0 ≤ nth zs m) = false := by simpa using hz
              have HT : Hid (twiceFrom zs zs 0 = twiceFrom zs (zs.drop (m + 1)) (m + 1)) := Lib.hid (by rw [HB.out, Hd.out, twiceFrom]; simp [hz])
              go_wp2_with fail
              refine wp_region_quiet_below (by kernel_rfl) (by kernel_rfl) ?_
              repeat (go_big_quiet_step (exact CB.out _ _))
              refine wpQuiet_nil ?_
              rintro _ ⟨⟨dq, osq⟩, rfl⟩
              have hb2 := below_regrown wr dq osq
              generalize grow (redrawn wr dq) osq = w2 at hb2 ⊢
              go_wp2_with fail
              go_roundw
              case rel => exact ⟨m + 1, by omega, by go_num, HT, hbel.trans (hb2.mono (by simpa using hbel.size))⟩
              case measure => simp [intOf]; omega
          · go_wp2_with fail
            go_ret
            refine ⟨ret_int ?_, ?_⟩
            · have : twiceFrom zs zs 0 = false := by rw [HB.out, List.drop_of_length_le (by omega)]; rfl
              simp [checkC, HN.out, HR.out, this]
            · exact ((Below.refl _ _).alloc (Nat.le_refl _) _).trans (hbel.mono (by omega))
  · have hne : ((zs.length : Int) != 256) = true := by simp; omega
    go_enter Tryd.func13, Tryd.ntmps13
    go_wp2_with fail
    go_ret
    exact ⟨ret_int (by simp [checkC, hn]), (Below.refl _ _).alloc (Nat.le_refl _) _⟩
end Go.Proofs.YthpiopjpipdgnaaDoor
