/- element.Text -/
import Derived.Test.YthogkokifiibnaaDoorEl4
namespace Go.Proofs.YthogkokifiibnaaDoor
open Go.RowKit Go.Sort

theorem h4_bytes (z : Int) : (h4I z).map (fun n => UInt8.ofNat n.toNat) = hex4 z := by
  unfold h4I hex4 hexN hexN hexN hexN hexN
  simp only [List.map_cons, List.map_nil, Int.toNat_natCast, List.nil_append, List.cons_append]
  rw [show z.toNat / 16 / 16 / 16 = z.toNat / 4096 by omega, show z.toNat / 16 / 16 = z.toNat / 256 by omega]
theorem wI_three (p s t : Int) : (wI [p, s, t]).map (fun n => UInt8.ofNat n.toNat) = hex4 p ++ [46] ++ hex4 s ++ [46] ++ hex4 t := by
  have e : wI [p, s, t] = h4I p ++ [46] ++ h4I s ++ [46] ++ h4I t := rfl
  rw [e]
  simp only [List.map_append, h4_bytes]
  rfl
theorem catE (c : List UInt8) (f : List UInt8) : (⟨c.toArray⟩ : ByteArray) ++ ⟨f.toArray⟩ = ⟨(c ++ f).toArray⟩ := ba_app c f
theorem ok_rng {d : ElemD} (h : chkE d = 0) : (0 ≤ d.p ∧ d.p ≤ 65535) ∧ (0 ≤ d.s ∧ d.s ≤ 65535) ∧ (0 ≤ d.t ∧ d.t ≤ 65535) := by
  unfold chkE at h
  split at h
  · rename_i h1
    unfold inW at h1
    simp only [Bool.and_eq_true, decide_eq_true_eq] at h1
    omega
  · cases h

set_option maxHeartbeats 8000000 in
set_option maxRecDepth 100000 in
theorem elText (ls : List ElemD) (A : Option Addr) (cp : Nat) (w : World) (hA : ElemsAt w A ls) (hl : ls.length ≤ 1000) :
    Calls Tryd.prog 9 #[.slice A ls.length cp] w fun e w' => e = .returned (.tuple #[.string ⟨(textE ls).1.toArray⟩, .int .i64 (textE ls).2]) ∧ Below w.heap.size w w' := by
  have HC := Lib.hid (elChecks ls A cp w hA (by omega))
  have htx := textE_of ls
  by_cases hc : chksE ls = 0
  · rw [if_pos hc] at htx
    have hall := chksE_zero hc
    rw [hc] at HC
    rw [htx]
    have HA := Lib.hid hA
    have Hall := Lib.hid hall
    clear hA hall
    clear htx hc
    go_enter Tryd.func9, Tryd.ntmps9
    go_wp2_with fail
    refine HC.out.mono ?_
    rintro e w1 ⟨rfl, hb1⟩
    have HA1 := Lib.hid (HA.out.keep hb1)
    have H1 := Lib.hid hb1
    clear hb1
    go_wp2_with fail
    go_loopw [16] (fun i wr => ∃ (k : Nat) (acc : List UInt8), k ≤ ls.length ∧ i = .int .i64 k ∧ acc.length ≤ 17 * k ∧ Hid (acc = (ls.take k).flatMap oneE) ∧ Hid (Bld 55 [] w1.heap.size acc wr) ∧ Below w1.heap.size w1 wr) (fun i _ => ls.length - (intOf i).toNat)
    case atStart => exact ⟨0, [], Nat.zero_le _, rfl, by simp, Lib.hid rfl, Lib.hid (Bld.fresh _ _ _), bBox w1 _⟩
    case round =>
      obtain ⟨k, acc, hk, rfl, hal, HT, HB, hbr⟩ := hrel
      by_cases hlt : k < ls.length
      · obtain ⟨b1, o1, rfl, h1, p0, p1, p2, p3⟩ := (HA1.out.keep hbr).at_ hlt
        have hok := ok_rng (by have := List.all_eq_true.1 Hall.out _ (elemAt_mem hlt); simpa using this)
        have hst := flatE_snoc ls (elemAt_get hlt)
        have hki : (k : Int) < ls.length := by omega
        have hone : oneE (elemAt ls k) = [91, signE (elemAt ls k)] ++ hex4 (elemAt ls k).p ++ [46] ++ hex4 (elemAt ls k).s ++ [46] ++ hex4 (elemAt ls k).t ++ [93] := rfl
        have hol := oneE_length (elemAt ls k)
        generalize elemAt ls k = d at p0 p1 p2 p3 hok hst hone hol
        generalize oneE d = od at hst hone hol
        obtain ⟨p, s, t, v⟩ := d
        dsimp only at p0 p1 p2 p3 hok hone
        have HW := Lib.hid (fun w' (h : IntsAt w' (some ⟨wr.heap.size + 1, 0, none⟩) [p, s, t]) => elWeights [p, s, t] (some ⟨wr.heap.size + 1, 0, none⟩) 3 w' h (by simp) (by simp) (fun z hz => by simp at hz; rcases hz with rfl | rfl | rfl <;> omega))
        rw [wI_three] at HW
        have hwl : (hex4 p ++ [46] ++ hex4 s ++ [46] ++ hex4 t).length = 14 := by simp [hex4_length]
        have hone2 : od = [91] ++ [signE ⟨p, s, t, v⟩] ++ (hex4 p ++ [46] ++ hex4 s ++ [46] ++ hex4 t) ++ [93] := by rw [hone]; simp
        generalize hex4 p ++ [46] ++ hex4 s ++ [46] ++ hex4 t = ws at HW hwl hone2
        have hin : ∀ X : Obj, IntsAt ((wr.alloc X).alloc (.cells #[.int .i64 p, .int .i64 s, .int .i64 t] 3)) (some ⟨wr.heap.size + 1, 0, none⟩) [p, s, t] := fun X => by
          have h := ints_new (wr.alloc X) [p, s, t] 3
          rwa [show (wr.alloc X).heap.size = wr.heap.size + 1 by simp] at h
        have HIn := Lib.hid hin
        have Hone := Lib.hid hone
        have Hst := Lib.hid hst
        clear hone hst
        clear hin hok
        cases v
        · have hone3 : od = [91, 46] ++ ws ++ [93] := by rw [hone2]; rfl
          have c1 : (⟨#[91]⟩ : ByteArray) ++ ⟨#[46]⟩ = ⟨#[91, 46]⟩ := catE [91] [46]
          have c2 : (⟨#[91, 46]⟩ : ByteArray) ++ ⟨ws.toArray⟩ = ⟨([91, 46] ++ ws).toArray⟩ := catE [91, 46] ws
          have c3 : (⟨([91, 46] ++ ws).toArray⟩ : ByteArray) ++ ⟨#[93]⟩ = ⟨od.toArray⟩ := by rw [hone3]; exact catE ([91, 46] ++ ws) [93]
          have hl2 : ([91, 46] ++ ws).length = 16 := by simp [hwl]
          generalize [91, 46] ++ ws = q2 at c2 c3 hl2
          have HO := Lib.hid (show acc ++ od = (ls.take (k + 1)).flatMap oneE by rw [Hst.out, HT.out])
          have hwl' : ws.length ≤ 14 := by omega
          have hl2' : q2.length ≤ 16 := by omega
          clear hone2 hone3 hwl hl2
          go_wp2_with fail
          refine (HW.out _ (HIn.out _)).mono ?_
          rintro e w3 ⟨rfl, hb3⟩
          have h13 := bUp (bUp (bBox wr _) (bBox _ _)) hb3
          have HB3 := Lib.hid (HB.out.keep h13)
          have h03 := hbr.trans (h13.mono hbr.size)
          clear hb3 h13
          go_wp2_with fail
          refine (writeString bldTy0 HB3.out od (by omega) (by omega)).mono ?_
          rintro e w4 ⟨rfl, hbl4, hb4⟩
          have HB4 := Lib.hid hbl4
          clear hbl4
          have hl5 : (acc ++ od).length ≤ 17 * (k + 1) := by rw [List.length_append]; omega
          generalize acc ++ od = acc2 at HO HB4 hl5
          go_wp2_with fail
          go_roundw
          case rel => exact ⟨k + 1, acc2, by omega, by go_num, hl5, HO, HB4, h03.trans hb4⟩
          case measure => simp [intOf]; omega
        · have hone3 : od = [91, 42] ++ ws ++ [93] := by rw [hone2]; rfl
          have c1 : (⟨#[91]⟩ : ByteArray) ++ ⟨#[42]⟩ = ⟨#[91, 42]⟩ := catE [91] [42]
          have c2 : (⟨#[91, 42]⟩ : ByteArray) ++ ⟨ws.toArray⟩ = ⟨([91, 42] ++ ws).toArray⟩ := catE [91, 42] ws
          have c3 : (⟨([91, 42] ++ ws).toArray⟩ : ByteArray) ++ ⟨#[93]⟩ = ⟨od.toArray⟩ := by rw [hone3]; exact catE ([91, 42] ++ ws) [93]
          have hl2 : ([91, 42] ++ ws).length = 16 := by simp [hwl]
          generalize [91, 42] ++ ws = q2 at c2 c3 hl2
          have HO := Lib.hid (show acc ++ od = (ls.take (k + 1)).flatMap oneE by rw [Hst.out, HT.out])
          have hwl' : ws.length ≤ 14 := by omega
          have hl2' : q2.length ≤ 16 := by omega
          clear hone2 hone3 hwl hl2
          go_wp2_with fail
          refine (HW.out _ (HIn.out _)).mono ?_
          rintro e w3 ⟨rfl, hb3⟩
          have h13 := bUp (bUp (bBox wr _) (bBox _ _)) hb3
          have HB3 := Lib.hid (HB.out.keep h13)
          have h03 := hbr.trans (h13.mono hbr.size)
          clear hb3 h13
          go_wp2_with fail
          refine (writeString bldTy0 HB3.out od (by omega) (by omega)).mono ?_
          rintro e w4 ⟨rfl, hbl4, hb4⟩
          have HB4 := Lib.hid hbl4
          clear hbl4
          have hl5 : (acc ++ od).length ≤ 17 * (k + 1) := by rw [List.length_append]; omega
          generalize acc ++ od = acc2 at HO HB4 hl5
          go_wp2_with fail
          go_roundw
          case rel => exact ⟨k + 1, acc2, by omega, by go_num, hl5, HO, HB4, h03.trans hb4⟩
          case measure => simp [intOf]; omega
      · obtain rfl : k = ls.length := by omega
        have hki : ¬ (ls.length : Int) < ls.length := by omega
        have hfin := HT.out
        rw [List.take_length] at hfin
        have Hfin := Lib.hid hfin
        clear hfin
        go_wp2_with fail
        refine (bldString HB.out).mono ?_
        rintro e w2 ⟨rfl, hb2⟩
        go_wp2_with fail
        go_ret2
        exact ⟨by rw [Hfin.out]; rfl, bUp H1.out (hbr.trans hb2)⟩
  · rw [if_neg hc] at htx
    have hne : (chksE ls != 0) = true := by simp [hc]
    rw [htx]
    generalize chksE ls = ce at HC hne
    have HA := Lib.hid hA
    clear hA
    clear htx hc
    go_enter Tryd.func9, Tryd.ntmps9
    go_wp2_with fail
    refine HC.out.mono ?_
    rintro e w1 ⟨rfl, hb1⟩
    go_wp2_with fail
    go_ret2
    exact ⟨rfl, hb1⟩
end Go.Proofs.YthogkokifiibnaaDoor
