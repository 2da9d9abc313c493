/- The reference: four, one, checks, Text -/
import Derived.Test.YthogkokifiibnaaGreatDoorA6
import Derived.BigQuiet
namespace Go.Proofs.YthogkokifiibnaaGreatDoor
open Go.RowKit Go.Sort

theorem conv_new (w : World) (l : List UInt8) (c : Nat) (cs : Array Value) (hc : cs = (Lib.byteCells l).toArray) : (convert 55 9 (.slice (some ⟨w.heap.size, 0, none⟩) l.length c)).run Tryz.prog (w.alloc (.cells cs 5)).drew = .ok (.string ⟨l.toArray⟩) (w.alloc (.cells cs 5)).drew := by
  refine run_convert_bytes_back (P := Tryz.prog) _ 55 9 5 ⟨w.heap.size, 0, none⟩ c l Tryz.underlying55 Tryz.underlying5 Tryz.underlying9 (fun j hj => ?_)
  rw [Go.WideShapes.add_plain, Nat.zero_add]
  show (w.alloc (.cells cs 5)).cell? ⟨w.heap.size, j, none⟩ = _
  rw [cell_box, hc]
  simp [Lib.byteCells, hj]
theorem idxMod (m d : Nat) (w : World) : (Instr.index 9 (.string ⟨#[48, 49, 50, 51, 52, 53, 54, 55, 56, 57, 65, 66, 67, 68, 69, 70]⟩) (.int .i64 ((m : Int) / (d : Int) % 16))).run Tryz.prog w = .ok (.int .u8 (hexC (m / d % 16))) w := by
  have h := digIdx (m / d % 16) (by omega) w
  have e : ((m / d % 16 : Nat) : Int) = (m : Int) / (d : Int) % 16 := by simp
  rw [← e]
  exact h
theorem idxMod1 (m : Nat) (w : World) : (Instr.index 9 (.string ⟨#[48, 49, 50, 51, 52, 53, 54, 55, 56, 57, 65, 66, 67, 68, 69, 70]⟩) (.int .i64 ((m : Int) % 16))).run Tryz.prog w = .ok (.int .u8 (hexC (m % 16))) w := by
  have h := digIdx (m % 16) (by omega) w
  have e : ((m % 16 : Nat) : Int) = (m : Int) % 16 := by simp
  rw [← e]
  exact h
theorem hex4_nat (m : Nat) : hex4 (m : Int) = [UInt8.ofNat (hexC (m / 4096 % 16)), UInt8.ofNat (hexC (m / 256 % 16)), UInt8.ofNat (hexC (m / 16 % 16)), UInt8.ofNat (hexC (m % 16))] := by
  have h := h4_bytes (m : Int)
  rw [← h]
  simp [h4I]
theorem cells4 (a b c d : Nat) (ha : a < 16) (hb : b < 16) (hc : c < 16) (hd : d < 16) : (#[.int .u8 (hexC a), .int .u8 (hexC b), .int .u8 (hexC c), .int .u8 (hexC d)] : Array Value) = (Lib.byteCells [UInt8.ofNat (hexC a), UInt8.ofNat (hexC b), UInt8.ofNat (hexC c), UInt8.ofNat (hexC d)]).toArray := by
  have k1 := hexC_le a ha
  have k2 := hexC_le b hb
  have k3 := hexC_le c hc
  have k4 := hexC_le d hd
  have e : ∀ x, 48 ≤ hexC x ∧ hexC x ≤ 70 → (UInt8.ofNat (hexC x)).toNat = hexC x := fun x hx => by rw [UInt8.toNat_ofNat']; omega
  simp only [Lib.byteCells, List.map_cons, List.map_nil, e _ k1, e _ k2, e _ k3, e _ k4]

set_option maxHeartbeats 4000000 in
set_option maxRecDepth 100000 in
theorem rfFour (z : Int) (w : World) (h0 : 0 ≤ z) (h1 : z ≤ 65535) :
    Calls Tryz.prog 52 #[.int .i64 z] w fun e w' => e = .returned (.string ⟨(hex4 z).toArray⟩) ∧ Below w.heap.size w w' := by
  obtain ⟨m, rfl⟩ := Int.eq_ofNat_of_zero_le h0
  have i1 : ∀ w', (Instr.index 9 (.string ⟨#[48, 49, 50, 51, 52, 53, 54, 55, 56, 57, 65, 66, 67, 68, 69, 70]⟩) (.int .i64 ((m : Int) / 4096 % 16))).run Tryz.prog w' = .ok (.int .u8 (hexC (m / 4096 % 16))) w' := idxMod m 4096
  have i2 : ∀ w', (Instr.index 9 (.string ⟨#[48, 49, 50, 51, 52, 53, 54, 55, 56, 57, 65, 66, 67, 68, 69, 70]⟩) (.int .i64 ((m : Int) / 256 % 16))).run Tryz.prog w' = .ok (.int .u8 (hexC (m / 256 % 16))) w' := idxMod m 256
  have i3 : ∀ w', (Instr.index 9 (.string ⟨#[48, 49, 50, 51, 52, 53, 54, 55, 56, 57, 65, 66, 67, 68, 69, 70]⟩) (.int .i64 ((m : Int) / 16 % 16))).run Tryz.prog w' = .ok (.int .u8 (hexC (m / 16 % 16))) w' := idxMod m 16
  have i4 := idxMod1 m
  have hcv := fun w' => conv_new w' [UInt8.ofNat (hexC (m / 4096 % 16)), UInt8.ofNat (hexC (m / 256 % 16)), UInt8.ofNat (hexC (m / 16 % 16)), UInt8.ofNat (hexC (m % 16))] 4 _ (cells4 (m / 4096 % 16) (m / 256 % 16) (m / 16 % 16) (m % 16) (by omega) (by omega) (by omega) (by omega))
  have HR := Lib.hid (hex4_nat m)
  generalize hexC (m / 4096 % 16) = x1 at i1 hcv HR
  generalize hexC (m / 256 % 16) = x2 at i2 hcv HR
  generalize hexC (m / 16 % 16) = x3 at i3 hcv HR
  generalize hexC (m % 16) = x4 at i4 hcv HR
  rw [← HR.out] at hcv
  generalize hex4 (m : Int) = hx at hcv HR
  have hlen : hx.length = 4 := by rw [HR.out]; rfl
  rw [hlen] at hcv
  have Hlen := Lib.hid hlen
  clear hlen
  go_enter Tryz.func52, Tryz.ntmps52
  go_wp2_with fail
  go_region
  all_goals
    go_wp2_with fail
    go_ret
    exact ⟨rfl, (bBox w _).drew⟩

/-- four, whatever its argument within the weights, in a region that draws its order -/
theorem callsFour {w : World} : ∀ z, 0 ≤ z → z ≤ 65535 → ∀ d os, Calls Tryz.prog 52 #[.int .i64 z] (grow (redrawn w d) os) fun e w'' => e = .returned (.string ⟨(hex4 z).toArray⟩) ∧ ∃ p : Regrown, w'' = grow (redrawn w p.d) p.os :=
  fun z h0 h1 => callsQ (fun w' _ => rfFour z w' h0 h1)

set_option maxHeartbeats 1500000 in
set_option maxRecDepth 100000 in
theorem rfOne (d : ElemD) (w : World) (hd : inW d.p = true ∧ inW d.s = true ∧ inW d.t = true) :
    Calls Tryz.prog 29 #[.agg #[.int .i64 d.p, .int .i64 d.s, .int .i64 d.t, .bool d.v]] w fun e w' => e = .returned (.string ⟨(oneE d).toArray⟩) ∧ Below w.heap.size w w' := by
  obtain ⟨hp, hs, ht⟩ := hd
  unfold inW at hp hs ht
  simp only [Bool.and_eq_true, decide_eq_true_eq] at hp hs ht
  obtain ⟨hp0, hp1⟩ := hp
  obtain ⟨hs0, hs1⟩ := hs
  obtain ⟨ht0, ht1⟩ := ht
  have hone : oneE d = [91] ++ [signE d] ++ hex4 d.p ++ [46] ++ hex4 d.s ++ [46] ++ hex4 d.t ++ [93] := by simp [oneE]
  obtain ⟨p, s, t, v⟩ := d
  dsimp only at hp0 hp1 hs0 hs1 ht0 ht1 hone ⊢
  generalize oneE ⟨p, s, t, v⟩ = od at hone
  have cF := callsFour (w := w.alloc (.cells #[.int .i64 p, .int .i64 s, .int .i64 t, .bool v] 45))
  have k0 := cell_regrown (show (w.alloc (.cells #[.int .i64 p, .int .i64 s, .int .i64 t, .bool v] 45)).cell? ⟨w.heap.size, 0, none⟩ = some (.int .i64 p) from cell_box _ _ _ 0)
  have k1 := cell_regrown (show (w.alloc (.cells #[.int .i64 p, .int .i64 s, .int .i64 t, .bool v] 45)).cell? ⟨w.heap.size, 1, none⟩ = some (.int .i64 s) from cell_box _ _ _ 1)
  have k2 := cell_regrown (show (w.alloc (.cells #[.int .i64 p, .int .i64 s, .int .i64 t, .bool v] 45)).cell? ⟨w.heap.size, 2, none⟩ = some (.int .i64 t) from cell_box _ _ _ 2)
  have m1 : (hex4 p).length ≤ 4 := Nat.le_of_eq (hex4_length p)
  have m2 : (hex4 s).length ≤ 4 := Nat.le_of_eq (hex4_length s)
  have m3 : (hex4 t).length ≤ 4 := Nat.le_of_eq (hex4_length t)
  cases v
  · have hone2 : od = [91, 46] ++ hex4 p ++ [46] ++ hex4 s ++ [46] ++ hex4 t ++ [93] := by rw [hone]; simp [signE]
    have k3 : (⟨#[91]⟩ : ByteArray) ++ ⟨#[46]⟩ = ⟨#[91, 46]⟩ := catE [91] [46]
    have k4 : (⟨#[91, 46]⟩ : ByteArray) ++ ⟨(hex4 p).toArray⟩ = ⟨([91, 46] ++ hex4 p).toArray⟩ := catE [91, 46] (hex4 p)
    have k5 : (⟨([91, 46] ++ hex4 p).toArray⟩ : ByteArray) ++ ⟨#[46]⟩ = ⟨([91, 46] ++ hex4 p ++ [46]).toArray⟩ := catE _ ([46])
    have k6 : (⟨([91, 46] ++ hex4 p ++ [46]).toArray⟩ : ByteArray) ++ ⟨(hex4 s).toArray⟩ = ⟨([91, 46] ++ hex4 p ++ [46] ++ hex4 s).toArray⟩ := catE _ (hex4 s)
    have k7 : (⟨([91, 46] ++ hex4 p ++ [46] ++ hex4 s).toArray⟩ : ByteArray) ++ ⟨#[46]⟩ = ⟨([91, 46] ++ hex4 p ++ [46] ++ hex4 s ++ [46]).toArray⟩ := catE _ ([46])
    have k8 : (⟨([91, 46] ++ hex4 p ++ [46] ++ hex4 s ++ [46]).toArray⟩ : ByteArray) ++ ⟨(hex4 t).toArray⟩ = ⟨([91, 46] ++ hex4 p ++ [46] ++ hex4 s ++ [46] ++ hex4 t).toArray⟩ := catE _ (hex4 t)
    have k9 : (⟨([91, 46] ++ hex4 p ++ [46] ++ hex4 s ++ [46] ++ hex4 t).toArray⟩ : ByteArray) ++ ⟨#[93]⟩ = ⟨od.toArray⟩ := by rw [hone2]; exact catE _ [93]
    have l1 : ([91, 46] ++ hex4 p).length ≤ 100 := by simp only [List.length_append, List.length_cons, List.length_nil]; omega
    have l2 : ([91, 46] ++ hex4 p ++ [46]).length ≤ 100 := by simp only [List.length_append, List.length_cons, List.length_nil]; omega
    have l3 : ([91, 46] ++ hex4 p ++ [46] ++ hex4 s).length ≤ 100 := by simp only [List.length_append, List.length_cons, List.length_nil]; omega
    have l4 : ([91, 46] ++ hex4 p ++ [46] ++ hex4 s ++ [46]).length ≤ 100 := by simp only [List.length_append, List.length_cons, List.length_nil]; omega
    have l5 : ([91, 46] ++ hex4 p ++ [46] ++ hex4 s ++ [46] ++ hex4 t).length ≤ 100 := by simp only [List.length_append, List.length_cons, List.length_nil]; omega
    generalize [91, 46] ++ hex4 p ++ [46] ++ hex4 s ++ [46] ++ hex4 t = q5 at k8 k9 l5 hone2
    generalize [91, 46] ++ hex4 p ++ [46] ++ hex4 s ++ [46] = q4 at k7 k8 l4
    generalize [91, 46] ++ hex4 p ++ [46] ++ hex4 s = q3 at k6 k7 l3
    generalize [91, 46] ++ hex4 p ++ [46] = q2 at k5 k6 l2
    generalize [91, 46] ++ hex4 p = q1 at k4 k5 l1
    have CF := Lib.hid cF
    have Hone := Lib.hid hone
    have Hone2 := Lib.hid hone2
    clear cF hone hone2
    go_enter Tryz.func29, Tryz.ntmps29
    go_wp2_with fail
    refine wp_region_quiet_below (by kernel_rfl) (by kernel_rfl) ?_
    repeat (go_big_quiet_step (first | (go_at_call 52; exact CF.out _ (by assumption) (by assumption) _ _)))
    refine wpQuiet_nil ?_
    rintro _ ⟨⟨dq, osq⟩, rfl⟩
    have hb2 := below_regrown (w.alloc (.cells #[.int .i64 p, .int .i64 s, .int .i64 t, .bool false] 45)) dq osq
    generalize grow (redrawn (w.alloc (.cells #[.int .i64 p, .int .i64 s, .int .i64 t, .bool false] 45)) dq) osq = w2 at hb2 ⊢
    go_wp2_with fail
    go_ret
    exact ⟨rfl, bUp (bBox _ _) hb2⟩
  · have hone2 : od = [91, 42] ++ hex4 p ++ [46] ++ hex4 s ++ [46] ++ hex4 t ++ [93] := by rw [hone]; simp [signE]
    have k3 : (⟨#[91]⟩ : ByteArray) ++ ⟨#[42]⟩ = ⟨#[91, 42]⟩ := catE [91] [42]
    have k4 : (⟨#[91, 42]⟩ : ByteArray) ++ ⟨(hex4 p).toArray⟩ = ⟨([91, 42] ++ hex4 p).toArray⟩ := catE [91, 42] (hex4 p)
    have k5 : (⟨([91, 42] ++ hex4 p).toArray⟩ : ByteArray) ++ ⟨#[46]⟩ = ⟨([91, 42] ++ hex4 p ++ [46]).toArray⟩ := catE _ ([46])
    have k6 : (⟨([91, 42] ++ hex4 p ++ [46]).toArray⟩ : ByteArray) ++ ⟨(hex4 s).toArray⟩ = ⟨([91, 42] ++ hex4 p ++ [46] ++ hex4 s).toArray⟩ := catE _ (hex4 s)
    have k7 : (⟨([91, 42] ++ hex4 p ++ [46] ++ hex4 s).toArray⟩ : ByteArray) ++ ⟨#[46]⟩ = ⟨([91, 42] ++ hex4 p ++ [46] ++ hex4 s ++ [46]).toArray⟩ := catE _ ([46])
    have k8 : (⟨([91, 42] ++ hex4 p ++ [46] ++ hex4 s ++ [46]).toArray⟩ : ByteArray) ++ ⟨(hex4 t).toArray⟩ = ⟨([91, 42] ++ hex4 p ++ [46] ++ hex4 s ++ [46] ++ hex4 t).toArray⟩ := catE _ (hex4 t)
    have k9 : (⟨([91, 42] ++ hex4 p ++ [46] ++ hex4 s ++ [46] ++ hex4 t).toArray⟩ : ByteArray) ++ ⟨#[93]⟩ = ⟨od.toArray⟩ := by rw [hone2]; exact catE _ [93]
    have l1 : ([91, 42] ++ hex4 p).length ≤ 100 := by simp only [List.length_append, List.length_cons, List.length_nil]; omega
    have l2 : ([91, 42] ++ hex4 p ++ [46]).length ≤ 100 := by simp only [List.length_append, List.length_cons, List.length_nil]; omega
    have l3 : ([91, 42] ++ hex4 p ++ [46] ++ hex4 s).length ≤ 100 := by simp only [List.length_append, List.length_cons, List.length_nil]; omega
    have l4 : ([91, 42] ++ hex4 p ++ [46] ++ hex4 s ++ [46]).length ≤ 100 := by simp only [List.length_append, List.length_cons, List.length_nil]; omega
    have l5 : ([91, 42] ++ hex4 p ++ [46] ++ hex4 s ++ [46] ++ hex4 t).length ≤ 100 := by simp only [List.length_append, List.length_cons, List.length_nil]; omega
    generalize [91, 42] ++ hex4 p ++ [46] ++ hex4 s ++ [46] ++ hex4 t = q5 at k8 k9 l5 hone2
    generalize [91, 42] ++ hex4 p ++ [46] ++ hex4 s ++ [46] = q4 at k7 k8 l4
    generalize [91, 42] ++ hex4 p ++ [46] ++ hex4 s = q3 at k6 k7 l3
    generalize [91, 42] ++ hex4 p ++ [46] = q2 at k5 k6 l2
    generalize [91, 42] ++ hex4 p = q1 at k4 k5 l1
    have CF := Lib.hid cF
    have Hone := Lib.hid hone
    have Hone2 := Lib.hid hone2
    clear cF hone hone2
    go_enter Tryz.func29, Tryz.ntmps29
    go_wp2_with fail
    refine wp_region_quiet_below (by kernel_rfl) (by kernel_rfl) ?_
    repeat (go_big_quiet_step (first | (go_at_call 52; exact CF.out _ (by assumption) (by assumption) _ _)))
    refine wpQuiet_nil ?_
    rintro _ ⟨⟨dq, osq⟩, rfl⟩
    have hb2 := below_regrown (w.alloc (.cells #[.int .i64 p, .int .i64 s, .int .i64 t, .bool true] 45)) dq osq
    generalize grow (redrawn (w.alloc (.cells #[.int .i64 p, .int .i64 s, .int .i64 t, .bool true] 45)) dq) osq = w2 at hb2 ⊢
    go_wp2_with fail
    go_ret
    exact ⟨rfl, bUp (bBox _ _) hb2⟩
end Go.Proofs.YthogkokifiibnaaGreatDoor
