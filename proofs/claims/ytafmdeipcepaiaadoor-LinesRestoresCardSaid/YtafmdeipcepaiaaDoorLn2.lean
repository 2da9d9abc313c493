/- lines: Trim, Split, Has, comment, spanned of the reference; cut, codes of the program. -/
import Derived.Test.YtafmdeipcepaiaaDoorLn1
import Derived.WalkMore
namespace Go.Proofs.YtafmdeipcepaiaaDoor
open Go.RowKit Go.Sort

def bt (l : List UInt8) (k : Nat) : UInt8 := l.getD k 0
theorem bt_btN (l : List UInt8) (k : Nat) : btN l k = (bt l k).toNat := rfl
theorem bt_get {l : List UInt8} {k : Nat} (h : k < l.length) : bt l k = l[k] := by
  unfold bt
  rw [List.getD_eq_getElem?_getD, List.getElem?_eq_getElem h]
  rfl
theorem trimLft_hit {l : List UInt8} (h : 0 < l.length) (hb : isB (bt l 0) = true) : trimLft l = trimLft (l.drop 1) := by
  match l, h with
  | b :: r, _ =>
    have hb' : isB b = true := hb
    show (b :: r).dropWhile isB = r.dropWhile isB
    rw [List.dropWhile_cons, if_pos hb']
theorem trimLft_stop {l : List UInt8} (h : ¬ (0 < l.length ∧ isB (bt l 0) = true)) : trimLft l = l := by
  match l with
  | [] => rfl
  | b :: r =>
    have hb' : ¬ isB b = true := fun hb => h ⟨by simp, hb⟩
    show (b :: r).dropWhile isB = b :: r
    rw [List.dropWhile_cons, if_neg hb']
theorem last_split {l : List UInt8} (h : 0 < l.length) : l = l.take (l.length - 1) ++ [bt l (l.length - 1)] := by
  rw [bt_get (by omega)]
  conv => lhs; rw [← List.take_length (l := l), show l.length = (l.length - 1) + 1 by omega]
  rw [List.take_succ_eq_append_getElem (by omega)]
theorem trimRgt_hit {l : List UInt8} (h : 0 < l.length) (hb : isB (bt l (l.length - 1)) = true) : trimRgt l = trimRgt (l.take (l.length - 1)) := by
  have e := last_split h
  generalize bt l (l.length - 1) = b at e hb
  generalize l.take (l.length - 1) = a at e ⊢
  subst e
  unfold trimRgt
  rw [List.reverse_append, List.reverse_singleton, List.singleton_append, List.dropWhile_cons, if_pos hb]
theorem trimRgt_stop {l : List UInt8} (h : ¬ (0 < l.length ∧ isB (bt l (l.length - 1)) = true)) : trimRgt l = l := by
  by_cases h0 : 0 < l.length
  · have hb : ¬ isB (bt l (l.length - 1)) = true := fun hb => h ⟨h0, hb⟩
    have e := last_split h0
    generalize bt l (l.length - 1) = b at e hb
    generalize l.take (l.length - 1) = a at e
    subst e
    unfold trimRgt
    rw [List.reverse_append, List.reverse_singleton, List.singleton_append, List.dropWhile_cons, if_neg hb]
    simp
  · obtain rfl : l = [] := List.length_eq_zero_iff.1 (by omega)
    rfl
theorem rfBlankB (l : List UInt8) (k : Nat) (w : World) : Calls Tryd.prog 50 #[.int .u8 (btN l k)] w fun e w' => e = .returned (.bool (isB (bt l k))) ∧ w = w' := rfBlank (bt l k) w
theorem strSliceLo (l : List UInt8) {j : Nat} (h1 : j ≤ l.length) (w : World) : (Instr.slice 9 (.string ⟨l.toArray⟩) (some (.int .i64 j)) none none).run Tryd.prog w = .ok (.string ⟨(l.drop j).toArray⟩) w := by
  have h3 : (j : Int) ≤ l.length := by omega
  simp [go_sem, Tryd.underlying9, h3, seg_end]
theorem strSliceLo1 (l : List UInt8) (h1 : 1 ≤ l.length) (w : World) : (Instr.slice 9 (.string ⟨l.toArray⟩) (some (.int .i64 1)) none none).run Tryd.prog w = .ok (.string ⟨(l.drop 1).toArray⟩) w := strSliceLo l (j := 1) h1 w
theorem strSliceHi (l : List UInt8) {j : Nat} (h1 : j ≤ l.length) (w : World) : (Instr.slice 9 (.string ⟨l.toArray⟩) none (some (.int .i64 j)) none).run Tryd.prog w = .ok (.string ⟨(l.take j).toArray⟩) w := by
  have h3 : (j : Int) ≤ l.length := by omega
  simp [go_sem, Tryd.underlying9, h3, seg]

set_option maxHeartbeats 1000000 in
set_option maxRecDepth 100000 in
theorem rfTrim (l : List UInt8) (w : World) (hl : l.length ≤ 100000) :
    Calls Tryd.prog 27 #[.string ⟨l.toArray⟩] w fun e w' => e = .returned (.string ⟨(trimL l).toArray⟩) ∧ w = w' := by
  go_enter Tryd.func27, Tryd.ntmps27
  go_wp2_with fail
  go_loop [0] (fun s => ∃ m : List UInt8, m.length ≤ l.length ∧ s = .string ⟨m.toArray⟩ ∧ Hid (trimLft l = trimLft m)) (fun s => strLen s)
  case atStart => exact ⟨l, Nat.le_refl _, rfl, Lib.hid rfl⟩
  case round =>
    obtain ⟨m, hm, rfl, HE⟩ := hrel
    have hstop : ∀ (_ : ¬ (0 < m.length ∧ isB (bt m 0) = true)), Hid (trimL l = trimRgt m) := fun h => Lib.hid (by rw [← trim_comm, HE.out, trimLft_stop h])
    by_cases h0 : 0 < m.length
    · have p0 : decide ((0 : Int) < m.length) = true := decide_eq_true (by omega)
      have p1 : (0 : Int) < m.length := by omega
      cases hb : isB (bt m 0)
      · have HT := hstop (by rw [hb]; simp)
        have Hb := Lib.hid hb
        clear hb
        clear hstop HE
        go_wp2_with (go_at_call 50; refine (rfBlankB _ _ _).mono ?_; rintro e w' ⟨rfl, rfl⟩; rw [Hb.out])
        go_loop [0] (fun s => ∃ q : List UInt8, q.length ≤ l.length ∧ s = .string ⟨q.toArray⟩ ∧ Hid (trimL l = trimRgt q)) (fun s => strLen s)
        case atStart => exact ⟨m, hm, rfl, HT⟩
        case round =>
          obtain ⟨q, hq, rfl, HQ⟩ := hrel
          by_cases h0 : 0 < q.length
          · have p0 : decide ((0 : Int) < q.length) = true := decide_eq_true (by omega)
            have i1 : (0 : Int) ≤ (q.length : Int) - 1 := by omega
            have i2 : (q.length : Int) - 1 < q.length := by omega
            cases hb : isB (bt q (q.length - 1))
            · have HT := Lib.hid (HQ.out.trans (trimRgt_stop (by rw [hb]; simp)))
              have Hb := Lib.hid hb
              clear hb
              clear HQ
              go_wp2_with (go_at_call 50; refine (rfBlankB _ _ _).mono ?_; rintro e w' ⟨rfl, rfl⟩; rw [Hb.out])
              go_ret
              exact ⟨ret_str HT.out.symm, rfl⟩
            · have HT := Lib.hid (HQ.out.trans (trimRgt_hit h0 hb))
              have hsl := strSliceHi q (j := q.length - 1) (by omega)
              rw [show ((q.length - 1 : Nat) : Int) = (q.length : Int) - 1 by omega] at hsl
              have hdl : (q.take (q.length - 1)).length + 1 = q.length := by rw [List.length_take]; omega
              generalize q.take (q.length - 1) = d at hsl HT hdl
              have Hb := Lib.hid hb
              clear hb
              clear HQ
              go_wp2_with (go_at_call 50; refine (rfBlankB _ _ _).mono ?_; rintro e w' ⟨rfl, rfl⟩; rw [Hb.out])
              go_round
              case rel => exact ⟨d, by omega, rfl, HT⟩
              case measure => rw [strLen_mk, strLen_mk]; omega
          · have p0 : decide ((0 : Int) < q.length) = false := decide_eq_false (by omega)
            have HT := Lib.hid (HQ.out.trans (trimRgt_stop (fun h => h0 h.1)))
            clear HQ
            go_wp2_with fail
            go_ret
            exact ⟨ret_str HT.out.symm, rfl⟩
      · have HE' := Lib.hid (HE.out.trans (trimLft_hit h0 hb))
        have hsl := strSliceLo1 m (by omega)
        have hdl : (m.drop 1).length + 1 = m.length := by rw [List.length_drop]; omega
        generalize m.drop 1 = d at hsl HE' hdl
        have Hb := Lib.hid hb
        clear hb
        clear hstop HE
        go_wp2_with (go_at_call 50; refine (rfBlankB _ _ _).mono ?_; rintro e w' ⟨rfl, rfl⟩; rw [Hb.out])
        go_round
        case rel => exact ⟨d, by omega, rfl, HE'⟩
        case measure => rw [strLen_mk, strLen_mk]; omega
    · have p0 : decide ((0 : Int) < m.length) = false := decide_eq_false (by omega)
      have HT := hstop (fun h => h0 h.1)
      clear hstop HE
      go_wp2_with fail
      go_loop [0] (fun s => ∃ q : List UInt8, q.length ≤ l.length ∧ s = .string ⟨q.toArray⟩ ∧ Hid (trimL l = trimRgt q)) (fun s => strLen s)
      case atStart => exact ⟨m, hm, rfl, HT⟩
      case round =>
        obtain ⟨q, hq, rfl, HQ⟩ := hrel
        by_cases h0 : 0 < q.length
        · have p0 : decide ((0 : Int) < q.length) = true := decide_eq_true (by omega)
          have i1 : (0 : Int) ≤ (q.length : Int) - 1 := by omega
          have i2 : (q.length : Int) - 1 < q.length := by omega
          cases hb : isB (bt q (q.length - 1))
          · have HT := Lib.hid (HQ.out.trans (trimRgt_stop (by rw [hb]; simp)))
            have Hb := Lib.hid hb
            clear hb
            clear HQ
            go_wp2_with (go_at_call 50; refine (rfBlankB _ _ _).mono ?_; rintro e w' ⟨rfl, rfl⟩; rw [Hb.out])
            go_ret
            exact ⟨ret_str HT.out.symm, rfl⟩
          · have HT := Lib.hid (HQ.out.trans (trimRgt_hit h0 hb))
            have hsl := strSliceHi q (j := q.length - 1) (by omega)
            rw [show ((q.length - 1 : Nat) : Int) = (q.length : Int) - 1 by omega] at hsl
            have hdl : (q.take (q.length - 1)).length + 1 = q.length := by rw [List.length_take]; omega
            generalize q.take (q.length - 1) = d at hsl HT hdl
            have Hb := Lib.hid hb
            clear hb
            clear HQ
            go_wp2_with (go_at_call 50; refine (rfBlankB _ _ _).mono ?_; rintro e w' ⟨rfl, rfl⟩; rw [Hb.out])
            go_round
            case rel => exact ⟨d, by omega, rfl, HT⟩
            case measure => rw [strLen_mk, strLen_mk]; omega
        · have p0 : decide ((0 : Int) < q.length) = false := decide_eq_false (by omega)
          have HT := Lib.hid (HQ.out.trans (trimRgt_stop (fun h => h0 h.1)))
          clear HQ
          go_wp2_with fail
          go_ret
          exact ⟨ret_str HT.out.symm, rfl⟩
end Go.Proofs.YtafmdeipcepaiaaDoor
