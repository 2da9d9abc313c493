/- ref03.Bytes -/
import Derived.Test.YthpiopjpipdgnaaDoorCs17
import Derived.Test.YthpiopjpipdgnaaDoorCs10
namespace Go.Proofs.YthpiopjpipdgnaaDoor
open Go.RowKit Go.Sort

def escB (n : Nat) : List Int := [92, 120, (hexC (n / 16) : Int), (hexC (n % 16) : Int)]
def bytesL (l : List UInt8) : List Int := l.flatMap fun b => escB b.toNat
theorem bytesL_step {l : List UInt8} {k : Nat} {acc : List Int} (hk : k < l.length) (h : bytesL l = acc ++ bytesL (l.drop k)) : bytesL l = (acc ++ escB (btN l k)) ++ bytesL (l.drop (k + 1)) := by
  rw [h, bytes_drop hk, btN_get hk]
  simp only [bytesL, List.flatMap_cons, List.append_assoc]
theorem digBt (k : Nat) (hk : k < 16) : btN [48, 49, 50, 51, 52, 53, 54, 55, 56, 57, 65, 66, 67, 68, 69, 70] k = hexC k := by
  obtain rfl | rfl | rfl | rfl | rfl | rfl | rfl | rfl | rfl | rfl | rfl | rfl | rfl | rfl | rfl | rfl : k = 0 ∨ k = 1 ∨ k = 2 ∨ k = 3 ∨ k = 4 ∨ k = 5 ∨ k = 6 ∨ k = 7 ∨ k = 8 ∨ k = 9 ∨ k = 10 ∨ k = 11 ∨ k = 12 ∨ k = 13 ∨ k = 14 ∨ k = 15 := by omega
  all_goals rfl
def IntsOut (r : List Int) (w : World) (e : Ending) (w' : World) : Prop :=
  ∃ A c, e = .returned (.slice A r.length c) ∧ IntsAt w' A r ∧ Below w.heap.size w w'

set_option maxHeartbeats 4000000 in
set_option maxRecDepth 100000 in
theorem rf3Bytes (l : List UInt8) (w : World) (hl : l.length ≤ 1000) :
    Calls Tryd.prog 48 #[.string ⟨l.toArray⟩] w (IntsOut (bytesL l) w) := by
  go_enter Tryd.func48, Tryd.ntmps48
  go_wp2_with fail
  go_loopw [3, 4] (fun o i wr => ∃ (k : Nat) (acc : List Int), k ≤ l.length ∧ i = .int .i64 k ∧ Hid (OwnI wr w.heap.size o acc) ∧ acc.length ≤ 4 * k ∧ Hid (bytesL l = acc ++ bytesL (l.drop k)) ∧ Below w.heap.size w wr) (fun _ i _ => l.length - (intOf i).toNat)
  case atStart => exact ⟨0, [], Nat.zero_le _, rfl, Lib.hid (OwnI.nil _ _), by simp, Lib.hid rfl, Below.refl _ _⟩
  case round =>
    obtain ⟨k, acc, hk, rfl, HO, hacc, HE, hbr⟩ := hrel
    by_cases hlt : k < l.length
    · have hbt := btN_lt l k
      have hki : (k : Int) < l.length := by omega
      have HE' := Lib.hid (bytesL_step hlt HE.out)
      have hq1 := hexC_le (btN l k / 16) (by omega)
      have hq2 := hexC_le (btN l k % 16) (by omega)
      have hd1 : btN [48, 49, 50, 51, 52, 53, 54, 55, 56, 57, 65, 66, 67, 68, 69, 70] ((btN l k : Int) / 16).toNat = hexC (btN l k / 16) := by
        rw [show ((btN l k : Int) / 16).toNat = btN l k / 16 by omega]; exact digBt _ (by omega)
      have hd2 : btN [48, 49, 50, 51, 52, 53, 54, 55, 56, 57, 65, 66, 67, 68, 69, 70] ((btN l k : Int) % 16).toNat = hexC (btN l k % 16) := by
        rw [show ((btN l k : Int) % 16).toNat = btN l k % 16 by omega]; exact digBt _ (by omega)
      have g1 : (0 : Int) ≤ (btN l k : Int) / 16 := by omega
      have g2 : (btN l k : Int) / 16 < 16 := by omega
      have g3 : (0 : Int) ≤ (btN l k : Int) % 16 := by omega
      have g4 : (btN l k : Int) % 16 < 16 := by omega
      have hu1 : IntKind.u8.wrap ((btN l k : Int) / 16) = (btN l k : Int) / 16 := by rw [IntKind.wrap_u8]; omega
      have hu2 : ((btN l k : Int)).tmod 16 = (btN l k : Int) % 16 := Int.tmod_eq_emod_of_nonneg (by omega)
      have hw0 : IntKind.i64.wrap (hexC (btN l k / 16)) = hexC (btN l k / 16) := IntWalk.i64_in (hexC (btN l k / 16)) (by omega)
      have hw1 : IntKind.i64.wrap (hexC (btN l k % 16)) = hexC (btN l k % 16) := IntWalk.i64_in (hexC (btN l k % 16)) (by omega)
      have hlA : acc.length + 4 ≤ 1000000 := by omega
      have hsz3 := hbr.size
      go_wp2_with fail
      go_region_law (refine stepI rfl _ _ rfl w.heap.size rfl (HO.out.keep (bUp (bBox _ _) (Below.refl _ _).drew)) (escB (btN l k)) rfl (IntsAt.keep (ints_new _ _ _) (Below.refl _ _).drew) (by simp [escB]) hlA (by simp; omega) ?_; intro v' w5 hown4 hb6)
      all_goals
        have hb5 := hb6 w (bUp (bUp hbr (bBox _ _)) (Below.refl _ _).drew)
        clear hb6
        go_wp2_with fail
        go_roundw
        case rel => exact ⟨k + 1, _, by omega, by go_num, hown4, by simp [escB]; omega, HE', hb5⟩
        case measure => simp [intOf]; omega
    · have hki : ¬ (k : Int) < l.length := by omega
      obtain ⟨A', c', rfl⟩ := HO.out.form
      have HE' := Lib.hid (show bytesL l = acc by rw [HE.out, List.drop_eq_nil_of_le (by omega)]; simp [bytesL])
      go_wp2_with fail
      go_ret
      rw [HE'.out]
      exact ⟨A', c', rfl, HO.out.ints, hbr⟩
end Go.Proofs.YthpiopjpipdgnaaDoor
