/- lines: comment, spanned of the reference -/
import Derived.Test.YtafmdeipcepaiaaDoorLn3
import Derived.BigQuiet
import Derived.Deep.QuietTactic
namespace Go.Proofs.YtafmdeipcepaiaaDoor
open Go.RowKit Go.Sort

theorem take_drop_get {l : List UInt8} {k : Nat} (hk : k < l.length) : l.take (k + 1) = l.take k ++ [l[k]] := List.take_succ_eq_append_getElem hk
section
variable {l : List UInt8} {k : Nat}
theorem cutB_hit {c : UInt8} (hk : k < l.length) (hb : l[k] = c) (h : cutB c l = (cutB c (l.drop k)).map fun p => (l.take k ++ p.1, p.2)) : cutB c l = some (l.take k, l.drop (k + 1)) := by
  rw [h, bytes_drop hk, cutB, if_pos hb]
  simp
theorem cutB_miss {c : UInt8} (hk : k < l.length) (hb : ¬ l[k] = c) (h : cutB c l = (cutB c (l.drop k)).map fun p => (l.take k ++ p.1, p.2)) : cutB c l = (cutB c (l.drop (k + 1))).map fun p => (l.take (k + 1) ++ p.1, p.2) := by
  have e : ∀ t, l.take (k + 1) ++ t = l.take k ++ l[k] :: t := fun t => by rw [take_drop_get hk, List.append_assoc]; rfl
  rw [h, bytes_drop hk, cutB, if_neg hb]
  cases cutB c (l.drop (k + 1)) <;> simp only [Option.map_some, Option.map_none, e]
theorem cutB_end {c : UInt8} (hk : l.length ≤ k) (h : cutB c l = (cutB c (l.drop k)).map fun p => (l.take k ++ p.1, p.2)) : cutB c l = none := by
  rw [h, List.drop_of_length_le hk, cutB]
  rfl
theorem cutDD_hit (hk : k + 1 < l.length) (h1 : l[k] = 46) (h2 : l[k + 1] = 46) (h : cutDD l = (cutDD (l.drop k)).map fun p => (l.take k ++ p.1, p.2)) : cutDD l = some (l.take k, l.drop (k + 2)) := by
  rw [h, bytes_drop (by omega), cutDD, if_pos ⟨h1, by rw [bytes_drop hk, h2]; rfl⟩, List.drop_drop]
  simp
theorem cutDD_miss (hk : k + 1 < l.length) (hb : ¬ (l[k] = 46 ∧ l[k + 1] = 46)) (h : cutDD l = (cutDD (l.drop k)).map fun p => (l.take k ++ p.1, p.2)) : cutDD l = (cutDD (l.drop (k + 1))).map fun p => (l.take (k + 1) ++ p.1, p.2) := by
  have hno : ¬ (l[k] = 46 ∧ (l.drop (k + 1)).head? = some 46) := by
    rintro ⟨h1, h2⟩
    rw [bytes_drop hk, List.head?_cons] at h2
    exact hb ⟨h1, Option.some.inj h2⟩
  have e : ∀ t, l.take (k + 1) ++ t = l.take k ++ l[k] :: t := fun t => by rw [take_drop_get (by omega), List.append_assoc]; rfl
  rw [h, bytes_drop (by omega), cutDD, if_neg hno]
  cases cutDD (l.drop (k + 1)) <;> simp only [Option.map_some, Option.map_none, e]
theorem cutDD_end (hk : l.length ≤ k + 1) (h : cutDD l = (cutDD (l.drop k)).map fun p => (l.take k ++ p.1, p.2)) : cutDD l = none := by
  rw [h]
  by_cases h0 : k < l.length
  · rw [bytes_drop h0, List.drop_of_length_le (by omega), cutDD, if_neg (by simp)]
    rfl
  · rw [List.drop_of_length_le (by omega), cutDD]
    rfl
end
def commentP (l : List UInt8) : List UInt8 × List UInt8 := match cutB 35 l with | some p => (p.1, trimL p.2) | none => (l, [])

set_option maxHeartbeats 1000000 in
set_option maxRecDepth 100000 in
theorem rfComment (l : List UInt8) (w : World) (hl : l.length ≤ 65536) :
    Calls Tryd.prog 26 #[.string ⟨l.toArray⟩] w fun e w' => e = .returned (.tuple #[.string ⟨(commentP l).1.toArray⟩, .string ⟨(commentP l).2.toArray⟩]) ∧ Below w.heap.size w w' := by
  go_enter Tryd.func26, Tryd.ntmps26
  go_wp2_with fail
  go_loop [4] (fun i => ∃ k : Nat, k ≤ l.length ∧ i = .int .i64 k ∧ Hid (cutB 35 l = (cutB 35 (l.drop k)).map fun p => (l.take k ++ p.1, p.2))) (fun i => l.length - (intOf i).toNat)
  case atStart => exact ⟨0, Nat.zero_le _, rfl, Lib.hid (by cases h : cutB 35 l <;> simp [h])⟩
  case round =>
    obtain ⟨k, hk, rfl, HE⟩ := hrel
    by_cases hlt : k < l.length
    · have hbt := btN_lt l k
      have hki : (k : Int) < l.length := by omega
      by_cases hb : btN l k = 35
      · have hb' : ((btN l k : Int) == 35) = true := by simp; omega
        have hb2 : l[k] = 35 := by rw [btN_get hlt] at hb; exact UInt8.toNat_inj.1 hb
        have HC := Lib.hid (show commentP l = (l.take k, trimL (l.drop (k + 1))) by rw [commentP, cutB_hit hlt hb2 HE.out])
        have hs1 := strSliceHi l hk
        have hs2 := strSliceLo l (j := k + 1) hlt
        rw [show ((k + 1 : Nat) : Int) = (k : Int) + 1 by omega] at hs2
        have hdl : (l.drop (k + 1)).length ≤ 65536 := by rw [List.length_drop]; omega
        have hwr : IntKind.i64.wrap ((k : Int) + 1) = (k : Int) + 1 := IntWalk.i64_in _ (by omega)
        generalize l.take k = a at HC hs1
        generalize l.drop (k + 1) = d at HC hs2 hdl
        have cT := callsS (w := w) (fun w' _ => rfTrim d w' (by omega))
        have CT := Lib.hid cT
        have Hb := Lib.hid hb
        clear cT hb
        clear hb2 HE
        go_wp2_with fail
        refine wp_region_quiet_below (by kernel_rfl) (by kernel_rfl) ?_
        repeat (go_big_quiet_step (exact CT.out _ _))
        refine wpQuiet_nil ?_
        rintro _ ⟨⟨dq, osq⟩, rfl⟩
        have hb2 := below_regrown w dq osq
        generalize grow (redrawn w dq) osq = w2 at hb2 ⊢
        go_wp2_with fail
        go_ret2
        exact ⟨by rw [HC.out]; rfl, hb2⟩
      · have hb' : ((btN l k : Int) == 35) = false := by simp; omega
        have hb2 : ¬ l[k] = 35 := by intro e; rw [btN_get hlt, e] at hb; exact hb rfl
        have HE' := Lib.hid (cutB_miss hlt hb2 HE.out)
        clear hb2 hb
        go_wp2_with fail
        go_round
        case rel => exact ⟨k + 1, by omega, by go_num, HE'⟩
        case measure => simp [intOf]; omega
    · have HC := Lib.hid (show commentP l = (l, []) by rw [commentP, cutB_end (by omega) HE.out])
      go_wp2_with fail
      go_ret2
      exact ⟨by rw [HC.out]; rfl, Below.refl _ _⟩

set_option maxHeartbeats 1000000 in
set_option maxRecDepth 100000 in
theorem rfSpanned (l : List UInt8) (w : World) (hl : l.length ≤ 65536) :
    Calls Tryd.prog 28 #[.string ⟨l.toArray⟩] w fun e w' => (∃ x y, e = .returned (.tuple #[.int .i64 x, .int .i64 y, .bool (spanP l).isSome]) ∧ ∀ q, spanP l = some q → q = (x, y)) ∧ w = w' := by
  go_enter Tryd.func28, Tryd.ntmps28
  go_wp2_with fail
  go_loop [5] (fun i => ∃ k : Nat, k ≤ l.length ∧ i = .int .i64 k ∧ Hid (cutDD l = (cutDD (l.drop k)).map fun p => (l.take k ++ p.1, p.2))) (fun i => l.length - (intOf i).toNat)
  case atStart => exact ⟨0, Nat.zero_le _, rfl, Lib.hid (by cases h : cutDD l <;> simp [h])⟩
  case round =>
    obtain ⟨k, hk, rfl, HE⟩ := hrel
    by_cases hlt : k + 1 < l.length
    · have hbt := btN_lt l k
      have hbt1 := btN_lt l (k + 1)
      have hki : (k : Int) + 1 < l.length := by omega
      have hki0 : (k : Int) < l.length := by omega
      have hg0 : btN l k = l[k].toNat := btN_get (by omega)
      have hg1 : btN l (k + 1) = l[k + 1].toNat := btN_get hlt
      by_cases hb : btN l k = 46 ∧ btN l (k + 1) = 46
      · obtain ⟨hb1, hb2⟩ := hb
        have q1 : ((btN l k : Int) == 46) = true := by simp; omega
        have q2 : ((btN l (k + 1) : Int) == 46) = true := by simp; omega
        have HC := Lib.hid (cutDD_hit hlt (UInt8.toNat_inj.1 (by rw [← hg0]; exact hb1)) (UInt8.toNat_inj.1 (by rw [← hg1]; exact hb2)) HE.out)
        have hs1 := strSliceHi l hk
        have hs2 := strSliceLo l (j := k + 2) (by omega)
        rw [show ((k + 2 : Nat) : Int) = (k : Int) + 2 by omega] at hs2
        have hal : (l.take k).length ≤ 65536 := by rw [List.length_take]; omega
        have hdl : (l.drop (k + 2)).length ≤ 65536 := by rw [List.length_drop]; omega
        generalize l.take k = a at HC hs1 hal
        generalize l.drop (k + 2) = d at HC hs2 hdl
        obtain ⟨x, e1, hx⟩ : ∃ x e1, parseV a = .tuple #[.int .i64 x, .int .i64 e1] := ⟨_, _, rfl⟩
        obtain ⟨y, e2, hy⟩ : ∃ y e2, parseV d = .tuple #[.int .i64 y, .int .i64 e2] := ⟨_, _, rfl⟩
        have HP := Lib.hid (fun w' => rfParse a w' (by omega))
        have HQ := Lib.hid (fun w' => rfParse d w' (by omega))
        rw [hx] at HP
        rw [hy] at HQ
        have hsp : (spanP l).isSome = (e1 == 0 && (e2 == 0 && decide (x ≤ y))) ∧ ∀ q, spanP l = some q → q = (x, y) := by
          cases hpa : parseCp a with
          | none =>
            rw [parseV_none hpa] at hx
            simp only [Value.tuple.injEq, Array.mk.injEq, List.cons.injEq, Value.int.injEq, true_and, and_true] at hx
            obtain ⟨_, rfl⟩ := hx
            simp [spanP, HC.out, hpa]
          | some xa =>
            rw [parseV_some hpa] at hx
            simp only [Value.tuple.injEq, Array.mk.injEq, List.cons.injEq, Value.int.injEq, true_and, and_true] at hx
            obtain ⟨rfl, rfl⟩ := hx
            cases hpr : parseCp d with
            | none =>
              rw [parseV_none hpr] at hy
              simp only [Value.tuple.injEq, Array.mk.injEq, List.cons.injEq, Value.int.injEq, true_and, and_true] at hy
              obtain ⟨_, rfl⟩ := hy
              simp [spanP, HC.out, hpa, hpr]
            | some yr =>
              rw [parseV_some hpr] at hy
              simp only [Value.tuple.injEq, Array.mk.injEq, List.cons.injEq, Value.int.injEq, true_and, and_true] at hy
              obtain ⟨rfl, rfl⟩ := hy
              by_cases hxy : xa ≤ yr
              · simp [spanP, HC.out, hpa, hpr, hxy]
              · simp [spanP, HC.out, hpa, hpr, hxy]
        have HS := Lib.hid hsp
        clear hsp HE hg0 hg1
        have Hb1 := Lib.hid hb1
        have Hb2 := Lib.hid hb2
        have Hx := Lib.hid hx
        have Hy := Lib.hid hy
        clear hb1 hb2 hx hy
        by_cases he1 : e1 = 0
        · subst he1
          by_cases he2 : e2 = 0
          · subst he2
            go_wp2_with fail
            refine (HP.out _).mono ?_
            rintro e w2 ⟨rfl, rfl⟩
            go_wp2_with fail
            refine (HQ.out _).mono ?_
            rintro e w2 ⟨rfl, rfl⟩
            go_wp2_with fail
            go_ret3
            exact ⟨⟨x, y, by rw [HS.out.1]; rfl, HS.out.2⟩, rfl⟩
          · have p2 : (e2 == 0) = false := by simpa using he2
            have He2 := Lib.hid he2
            clear he2
            go_wp2_with fail
            refine (HP.out _).mono ?_
            rintro e w2 ⟨rfl, rfl⟩
            go_wp2_with fail
            refine (HQ.out _).mono ?_
            rintro e w2 ⟨rfl, rfl⟩
            go_wp2_with fail
            go_ret3
            exact ⟨⟨x, y, by rw [HS.out.1, p2]; rfl, HS.out.2⟩, rfl⟩
        · have p1 : (e1 == 0) = false := by simpa using he1
          have He1 := Lib.hid he1
          clear he1
          go_wp2_with fail
          refine (HP.out _).mono ?_
          rintro e w2 ⟨rfl, rfl⟩
          go_wp2_with fail
          refine (HQ.out _).mono ?_
          rintro e w2 ⟨rfl, rfl⟩
          go_wp2_with fail
          go_ret3
          exact ⟨⟨x, y, by rw [HS.out.1, p1]; rfl, HS.out.2⟩, rfl⟩
      · have hno : ¬ (l[k] = 46 ∧ l[k + 1] = 46) := by
          rintro ⟨h1, h2⟩
          rw [h1] at hg0
          rw [h2] at hg1
          exact hb ⟨hg0, hg1⟩
        have HE' := Lib.hid (cutDD_miss hlt hno HE.out)
        clear HE hno hg0 hg1
        by_cases hb1 : btN l k = 46
        · have q1 : ((btN l k : Int) == 46) = true := by simp; omega
          have q2 : ((btN l (k + 1) : Int) == 46) = false := by simp; omega
          have Hb1 := Lib.hid hb1
          clear hb1
          clear hb
          go_wp2_with fail
          go_round
          case rel => exact ⟨k + 1, by omega, by go_num, HE'⟩
          case measure => simp [intOf]; omega
        · have q1 : ((btN l k : Int) == 46) = false := by simp; omega
          have Hb1 := Lib.hid hb1
          clear hb1
          clear hb
          go_wp2_with fail
          go_round
          case rel => exact ⟨k + 1, by omega, by go_num, HE'⟩
          case measure => simp [intOf]; omega
    · have hki : ¬ (k : Int) + 1 < l.length := by omega
      have HC := Lib.hid (cutDD_end (by omega) HE.out)
      obtain ⟨x, e1, hx⟩ : ∃ x e1, parseV l = .tuple #[.int .i64 x, .int .i64 e1] := ⟨_, _, rfl⟩
      have HP := Lib.hid (fun w' => rfParse l w' (by omega))
      rw [hx] at HP
      have hsp : (spanP l).isSome = (e1 == 0) ∧ ∀ q, spanP l = some q → q = (x, x) := by
        cases hpa : parseCp l with
        | none =>
          rw [parseV_none hpa] at hx
          simp only [Value.tuple.injEq, Array.mk.injEq, List.cons.injEq, Value.int.injEq, true_and, and_true] at hx
          obtain ⟨_, rfl⟩ := hx
          simp [spanP, HC.out, hpa]
        | some xa =>
          rw [parseV_some hpa] at hx
          simp only [Value.tuple.injEq, Array.mk.injEq, List.cons.injEq, Value.int.injEq, true_and, and_true] at hx
          obtain ⟨rfl, rfl⟩ := hx
          simp [spanP, HC.out, hpa]
      have HS := Lib.hid hsp
      clear hsp HE
      have Hx := Lib.hid hx
      clear hx
      go_wp2_with fail
      refine (HP.out _).mono ?_
      rintro e w2 ⟨rfl, rfl⟩
      go_wp2_with fail
      go_ret3
      exact ⟨⟨x, x, by rw [HS.out.1]; rfl, HS.out.2⟩, rfl⟩
end Go.Proofs.YtafmdeipcepaiaaDoor
