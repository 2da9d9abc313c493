/- strings.IndexRune(";#\n", r) for a rune that is no ASCII -/
import Derived.Test.YtafmdeipcepaiaaDoorLn16
import Derived.Lib.QuietBelow
import Derived.BigQuiet
import Derived.WalkMore
namespace Go.Proofs.YtafmdeipcepaiaaDoor
open Go.RowKit Go.Sort

theorem idxTail (z : UInt8) (hz : 128 ≤ z.toNat) (l : List UInt8) (hl : l.all (fun b => decide (b.toNat < 128)) = true) : Lib.indexByte l z = -1 := by
  induction l with
  | nil => rfl
  | cons b r ih =>
    simp only [List.all_cons, Bool.and_eq_true, decide_eq_true_eq] at hl
    have hne : ¬ b = z := fun e => by subst e; omega
    rw [Lib.indexByte, ih hl.2]
    simp [hne]
theorem idxByte (l : List UInt8) (z : UInt8) (hz : 128 ≤ z.toNat) (hl : l.all (fun b => decide (b.toNat < 128)) = true) (w : World) :
    Calls Tryd.prog 72 #[.string ⟨l.toArray⟩, .int .u8 z.toNat] w fun e w' => e = .returned (.int .i64 (-1)) ∧ Below w.heap.size w w' := by
  refine (Tryd.strings_IndexByte ⟨l.toArray⟩ z.toNat w).mono ?_
  rintro e w' ⟨rfl, rfl⟩
  refine ⟨?_, Below.refl _ _⟩
  rw [show ((z.toNat : Int)).toNat.toUInt8 = z by simp, show (ByteArray.mk l.toArray).data.toList = l from rfl, idxTail z hz l hl]
theorem convRune (r : Int) (w : World) : (convert 21 9 (.int .i32 r)).run Tryd.prog w = .ok (.string (Utf8.encode r)) w := by
  simp [convert, go_sem]
  rfl

set_option maxHeartbeats 8000000 in
set_option maxRecDepth 100000 in
theorem idxRune (r : Int) (w : World) (h1 : 128 ≤ r) (h2 : r ≤ 1114111) :
    Calls Tryd.prog 63 #[.string ⟨#[59, 35, 10]⟩, .int .i32 r] w fun e w' => e = .returned (.int .i64 (-1)) ∧ Below w.heap.size w w' := by
  have d1 : decide ((0 : Int) ≤ r) = true := decide_eq_true (by omega)
  have d2 : decide (r < (128 : Int)) = false := decide_eq_false (by omega)
  go_enter Tryd.func63, Tryd.ntmps63
  by_cases he : r = 65533
  · subst he
    go_wp2_with fail
    go_loopg [5, 6] 3 (fun g _ _ wx => ∃ i : Nat, i + g = 3 ∧ wx = w.iter ⟨#[59, 35, 10]⟩ i)
    case atStart => exact ⟨0, rfl, rfl⟩
    case round =>
      obtain ⟨i, hig, rfl⟩ := hrel
      cases gk with
      | zero =>
        obtain rfl : i = 3 := by omega
        have hnx := fun ty => run_next_end (P := Tryd.prog) w ⟨#[59, 35, 10]⟩ 3 ty (by decide)
        go_wp2_with fail
        go_ret
        exact ⟨rfl, bBox w _⟩
      | succ g =>
        have hi : i < 3 := by omega
        obtain ⟨q, hq, hnx⟩ : ∃ q : Int, (q == 65533) = false ∧ ∀ ty, (Instr.next (.pointer (some ⟨w.heap.size, 0, none⟩)) true ty).run Tryd.prog (w.iter ⟨#[59, 35, 10]⟩ i) = .ok (.tuple #[.bool true, .int .i64 i, .int .i32 q]) (w.iter ⟨#[59, 35, 10]⟩ (i + 1)) := by
          obtain rfl | rfl | rfl : i = 0 ∨ i = 1 ∨ i = 2 := by omega
          · exact ⟨59, by decide, fun ty => run_next_ascii w ⟨#[59, 35, 10]⟩ 0 ty (by decide) (by decide)⟩
          · exact ⟨35, by decide, fun ty => run_next_ascii w ⟨#[59, 35, 10]⟩ 1 ty (by decide) (by decide)⟩
          · exact ⟨10, by decide, fun ty => run_next_ascii w ⟨#[59, 35, 10]⟩ 2 ty (by decide) (by decide)⟩
        go_wp2_with fail
        go_roundg g
        case measure => omega
        case rel => exact ⟨i + 1, by omega, rfl⟩
  · have d3 : (r == 65533) = false := by simp [he]
    have HV := Lib.hid (fun w' => Tryd.utf8_ValidRune r w')
    cases hv : Lib.validRune r with
    | false =>
      rw [hv] at HV
      go_wp2_with fail
      refine (HV.out _).mono ?_
      rintro e w1 ⟨rfl, rfl⟩
      go_wp2_with fail
      go_ret
      exact ⟨rfl, Below.refl _ _⟩
    | true =>
      rw [hv] at HV
      obtain ⟨m, bs, z, hm, hen, hbl, hz⟩ := encode_big r h1
      have hcv := fun w' => convRune r w'
      rw [hen] at hcv
      have n1 : ((35 : Int) != z.toNat) = true := by simp; omega
      have n2 : ((10 : Int) != z.toNat) = true := by simp; omega
      have C1 := Lib.hid (fun w' dq osq => Calls.regrown_of (w := w') (d := dq) (os := osq) (idxByte [10] z hz (by decide) (grow (redrawn w' dq) osq)))
      have C2 := Lib.hid (fun w' dq osq => Calls.regrown_of (w := w') (d := dq) (os := osq) (idxByte [] z hz (by decide) (grow (redrawn w' dq) osq)))
      have s1 := fun w' => strSliceLo [59, 35, 10] (j := 2) (by decide) w'
      have s2 := fun w' => strSliceLo [59, 35, 10] (j := 3) (by decide) w'
      clear hen
      rcases hm with rfl | rfl | rfl
      · obtain ⟨x, rfl⟩ : ∃ x, bs = [x] := List.length_eq_one_iff.1 hbl
        have t1 : btN [59, 35, 10] 1 = 35 := rfl
        have t2 : btN [x, z] 1 = z.toNat := rfl
        clear hbl
        go_wp2_with fail
        refine (HV.out _).mono ?_
        rintro e w1 ⟨rfl, rfl⟩
        go_wp2_with fail
        go_step3
        go_wp2_with fail
        go_loop [9] (fun i => i = .int .i64 1) (fun _ => 0)
        case atStart => rfl
        case round =>
          obtain rfl := hrel
          go_wp2_with fail
          go_step3
          go_wp2_with fail
          refine wp_region_quiet_below (by kernel_rfl) (by kernel_rfl) ?_
          repeat (go_big_quiet_step (fail))
          refine wpQuiet_nil ?_
          rintro _ ⟨⟨dq, osq⟩, rfl⟩
          have hb2 := below_regrown w1 dq osq
          generalize grow (redrawn w1 dq) osq = w2 at hb2 ⊢
          go_wp2_with fail
          refine wp_region_quiet_below (by kernel_rfl) (by kernel_rfl) ?_
          repeat (go_big_quiet_step (exact C1.out _ _ _))
          refine wpQuiet_nil ?_
          rintro _ ⟨⟨dq, osq⟩, rfl⟩
          have hb3 := below_regrown w2 dq osq
          generalize grow (redrawn w2 dq) osq = w3 at hb3 ⊢
          go_wp2_with fail
          dsimp +zetaDelta only [Exit.then, Exit.inBlock, Exit.noGoto]
          go_ret
          exact ⟨rfl, bUp hb2 hb3⟩
      · obtain ⟨x, y, rfl⟩ : ∃ x y, bs = [x, y] := by
          match bs, hbl with
          | [x, y], _ => exact ⟨x, y, rfl⟩
        have t1 : btN [59, 35, 10] 2 = 10 := rfl
        have t2 : btN [x, y, z] 2 = z.toNat := rfl
        clear hbl
        go_wp2_with fail
        refine (HV.out _).mono ?_
        rintro e w1 ⟨rfl, rfl⟩
        go_wp2_with fail
        go_step3
        go_wp2_with fail
        go_loop [9] (fun i => i = .int .i64 2) (fun _ => 0)
        case atStart => rfl
        case round =>
          obtain rfl := hrel
          go_wp2_with fail
          go_step3
          go_wp2_with fail
          refine wp_region_quiet_below (by kernel_rfl) (by kernel_rfl) ?_
          repeat (go_big_quiet_step (fail))
          refine wpQuiet_nil ?_
          rintro _ ⟨⟨dq, osq⟩, rfl⟩
          have hb2 := below_regrown w1 dq osq
          generalize grow (redrawn w1 dq) osq = w2 at hb2 ⊢
          go_wp2_with fail
          refine wp_region_quiet_below (by kernel_rfl) (by kernel_rfl) ?_
          repeat (go_big_quiet_step (exact C2.out _ _ _))
          refine wpQuiet_nil ?_
          rintro _ ⟨⟨dq, osq⟩, rfl⟩
          have hb3 := below_regrown w2 dq osq
          generalize grow (redrawn w2 dq) osq = w3 at hb3 ⊢
          go_wp2_with fail
          dsimp +zetaDelta only [Exit.then, Exit.inBlock, Exit.noGoto]
          go_ret
          exact ⟨rfl, bUp hb2 hb3⟩
      · obtain ⟨x, y, t, rfl⟩ : ∃ x y t, bs = [x, y, t] := by
          match bs, hbl with
          | [x, y, t], _ => exact ⟨x, y, t, rfl⟩
        clear hbl
        go_wp2_with fail
        refine (HV.out _).mono ?_
        rintro e w1 ⟨rfl, rfl⟩
        go_wp2_with fail
        go_step3
        go_wp2_with fail
        go_loop [9] (fun i => i = .int .i64 3) (fun _ => 0)
        case atStart => rfl
        case round =>
          obtain rfl := hrel
          go_wp2_with fail
          (try rw [Exit.noGoto_ret])
          go_wp2_with fail
          go_ret
          exact ⟨rfl, Below.refl _ _⟩
end Go.Proofs.YtafmdeipcepaiaaDoor
