/- LinesJoins -/
import Derived.Test.YtafmdeipcepaiaaDoorLnP1
namespace Go.Proofs.YtafmdeipcepaiaaDoor
open Go.RowKit Go.Sort

theorem sizeElemLine (w : World) : (sizeOf (Tryd.prog.elem 23)).run Tryd.prog w = .ok 5 w := by kernel_rfl
theorem elemLine : Tryd.prog.underlying 23 = some (.slice (Tryd.prog.elem 23)) := by kernel_rfl
theorem LinesAt.left {w : World} {A : Option Addr} {ls ms : List LineD} (h : LinesAt w A (ls ++ ms)) : LinesAt w A ls := by
  intro hz
  obtain ⟨b, off, e, hb, hc⟩ := h (by simp; omega)
  refine ⟨b, off, e, hb, fun j hj => ?_⟩
  have := hc j (by simp; omega)
  rwa [show lineAt (ls ++ ms) j = lineAt ls j by unfold lineAt; rw [List.getD_eq_getElem?_getD, List.getD_eq_getElem?_getD, List.getElem?_append_left hj]] at this
theorem LinesAt.right {w : World} {A : Option Addr} {ls ms : List LineD} (h : LinesAt w A (ls ++ ms)) (B : Option Addr) (hB : 0 < ms.length → B = A.map (·.add (ls.length * 5))) : LinesAt w B ms := by
  intro hz
  obtain ⟨b, off, rfl, hb, hc⟩ := h (by simp; omega)
  refine ⟨b, off + ls.length * 5, by rw [hB hz]; simp [Addr.add], hb, fun j hj => ?_⟩
  have := hc (ls.length + j) (by simp; omega)
  rwa [show lineAt (ls ++ ms) (ls.length + j) = lineAt ms j by unfold lineAt; rw [List.getD_eq_getElem?_getD, List.getD_eq_getElem?_getD, List.getElem?_append_right (by omega), Nat.add_sub_cancel_left], show off + (ls.length + j) * 5 = off + ls.length * 5 + j * 5 by omega] at this
theorem sliceHiL (A : Option Addr) (n m c : Nat) (h : n ≤ m) (hc : m ≤ c) (w : World) : (Instr.slice 23 (.slice A m c) none (some (.int .i64 n)) none).run Tryd.prog w = .ok (.slice A n c) w := by
  rw [run_slice_h w _ _ _ c elemLine _ _ (by omega) (by omega), sizeElemLine]
  simp [sliced, Result.andThen, Addr.add]
theorem sliceLoL (A : Option Addr) (n m c : Nat) (h : n ≤ m) (w : World) : (Instr.slice 23 (.slice A m c) (some (.int .i64 n)) none none).run Tryd.prog w = .ok (.slice (if c = n then A else A.map (·.add (n * 5))) (m - n) (c - n)) w := by
  rw [run_slice_l w _ _ _ c elemLine _ _ (by omega) (by omega), sizeElemLine]
  simp [sliced, Result.andThen]
theorem fltK_le (l : List UInt8) : 0 ≤ fltK l ∧ fltK l ≤ 65537 := by
  unfold fltK
  cases h : badL (linesOf l) with
  | none => simp
  | some k =>
    unfold badL at h
    cases hf : (linesOf l).find? (fun x => (lineQ x.1).isNone) with
    | none => rw [hf] at h; cases h
    | some y =>
      rw [hf] at h
      simp at h
      have := y.2.1
      simp only
      omega

set_option maxHeartbeats 8000000 in
set_option maxRecDepth 100000 in
theorem lawLJoins (a b : List UInt8) (w : World) (hla : a.length ≤ 9223372036854775807) (hlb : b.length ≤ 9223372036854775807) (hE : Env w) :
    Calls Tryd.prog 6 #[.string ⟨a.toArray⟩, .string ⟨b.toArray⟩] w fun e w' => e = .returned (.bool true) ∧ Below w.heap.size w w' := by
  have HE := Lib.hid hE
  clear hE
  by_cases hlen : a.length ≤ 1000 ∧ b.length ≤ 1000
  · have hd1 : decide ((1000 : Int) < a.length) = false := decide_eq_false (by omega)
    have hd2 : decide ((1000 : Int) < b.length) = false := decide_eq_false (by omega)
    have hlj : (a ++ 10 :: b).length ≤ 65536 := by simp; omega
    have HSp := Lib.hid (rfSplit9 10 a w (by omega))
    have HP1 := Lib.hid (fun w' (h : Env w') => lnParse a w' h (by omega))
    have HP2 := Lib.hid (fun w' (h : Env w') => lnParse b w' h (by omega))
    have HP3 := Lib.hid (fun w' (h : Env w') => lnParse (a ++ 10 :: b) w' h hlj)
    have hcat : (⟨a.toArray⟩ : ByteArray) ++ ⟨#[10]⟩ ++ ⟨b.toArray⟩ = ⟨(a ++ 10 :: b).toArray⟩ := by
      have h1 : (⟨a.toArray⟩ : ByteArray) ++ ⟨#[10]⟩ = ⟨(a ++ [10]).toArray⟩ := ba_app a [10]
      rw [h1, ba_app]
      simp
    have HJ := Lib.hid (join_res hlj)
    have hka := fltK_le a
    have hkb := fltK_le b
    have hra := resL_length (l := a) (by omega)
    have hrb := resL_length (l := b) (by omega)
    have HSa := Lib.hid (fun d (h : d ∈ resL a) => small_res h)
    have HSb := Lib.hid (fun d (h : d ∈ resL b) => small_res h)
    have hnl : (splitL 10 a).length ≤ 1001 := by
      rw [splitL_length]
      have := List.count_le_length (a := (10 : UInt8)) (l := a)
      omega
    have hea := fltE_or a
    have heb := fltE_or b
    generalize a ++ 10 :: b = j at HP3 hcat HJ
    go_enter Tryd.func6, Tryd.ntmps6
    go_wp2_with fail
    refine HSp.out.mono ?_
    rintro e w1 ⟨⟨A0, c0, rfl, _, _⟩, hb1⟩
    have HE1 := Lib.hid (HE.out.keep hb1)
    go_wp2_with fail
    refine (HP1.out _ HE1.out).mono ?_
    rintro e w2 ⟨hO, hb2⟩
    obtain ⟨A, ca, rfl, hA, _⟩ := hO.out
    have hb02 := bUp hb1 hb2
    have HE2 := Lib.hid (HE.out.keep (bUp hb02 (bBox w2 (.cells #[.int .i64 (fltE a), .int .i64 (fltK a)] 26))))
    have F1 := Lib.hid (Blk.new w2 #[.int .i64 (fltE a), .int .i64 (fltK a)] 26)
    have HA := Lib.hid (hA.keep (bBox w2 (.cells #[.int .i64 (fltE a), .int .i64 (fltK a)] 26)))
    clear hO hA
    go_wp2_with fail
    refine (HP2.out _ HE2.out).mono ?_
    rintro e w3 ⟨hO, hb3⟩
    obtain ⟨B, cb, rfl, hB, _⟩ := hO.out
    have hb03 := bUp (bUp hb02 (bBox _ _)) hb3
    have F1' := Lib.hid ((F1.out.keep hb3).alloc (.cells #[.int .i64 (fltE b), .int .i64 (fltK b)] 26))
    have F2 := Lib.hid (Blk.new w3 #[.int .i64 (fltE b), .int .i64 (fltK b)] 26)
    have HA' := Lib.hid ((HA.out.keep hb3).keep (bBox w3 (.cells #[.int .i64 (fltE b), .int .i64 (fltK b)] 26)))
    have HB := Lib.hid (hB.keep (bBox w3 (.cells #[.int .i64 (fltE b), .int .i64 (fltK b)] 26)))
    have HE3 := Lib.hid (HE.out.keep (bUp hb03 (bBox w3 (.cells #[.int .i64 (fltE b), .int .i64 (fltK b)] 26))))
    clear hO hB F1 HA
    go_wp2_with fail
    refine (HP3.out _ HE3.out).mono ?_
    rintro e w4 ⟨hO, hb4⟩
    obtain ⟨C, cc, rfl, hC, hcc⟩ := hO.out
    have hb04 := bUp (bUp hb03 (bBox _ _)) hb4
    have HA := Lib.hid (HA'.out.keep hb4)
    have HB' := Lib.hid (HB.out.keep hb4)
    have HC := Lib.hid hC
    have H4 := Lib.hid hb04
    have f1 := F1'.out.keep hb4
    have f2 := F2.out.keep hb4
    have x1 := f1.cell 0
    have x2 := f1.cell 1
    have x3 := f1.lt
    have y1 := f2.cell 0
    have y2 := f2.cell 1
    have y3 := f2.lt
    clear hO hC F1' F2 HA' HB hb1 hb2 hb3 hb4 hb02 hb03 hb04 f1 f2
    rcases hea with ea | ea
    · obtain ⟨j1, j2, j3⟩ := HJ.out.1 ea
      clear HJ
      go_wp2_with fail
      refine (lnAlive _ (HE.out.keep (bUp H4.out (bBox _ _)))).mono ?_
      rintro e w6 ⟨rfl, hb6⟩
      go_wp2_with fail
      go_ret
      exact ⟨rfl, bUp (bUp H4.out (bBox _ _)) hb6⟩
    · rcases heb with eb | eb
      · obtain ⟨j1, j2, j3⟩ := HJ.out.2.1 ea eb
        clear HJ
        generalize splitL 10 a = pa at hnl j2
        generalize fltK b = kb at hkb j2 y2
        go_wp2_with fail
        refine (lnAlive _ (HE.out.keep (bUp H4.out (bBox _ _)))).mono ?_
        rintro e w6 ⟨rfl, hb6⟩
        go_wp2_with fail
        go_ret
        exact ⟨rfl, bUp (bUp H4.out (bBox _ _)) hb6⟩
      · obtain ⟨j1, j2, j3⟩ := HJ.out.2.2 ea eb
        clear HJ
        rw [j3] at HC hcc ⊢
        rw [List.length_append, shiftL_length] at hcc ⊢
        generalize splitL 10 a = pa at hnl HC hcc j3
        generalize resL a = ra at HA HC hcc HSa hra j3
        generalize resL b = rb at HB' HC hcc HSb hrb j3
        clear j3
        have s1 := fun w => sliceHiL C ra.length (ra.length + rb.length) cc (by omega) hcc w
        have s2 := fun w => sliceLoL C ra.length (ra.length + rb.length) cc (by omega) w
        rw [Nat.add_sub_cancel_left] at s2
        have HC1 := Lib.hid (show LinesAt w4 C (shiftL 0 ra) by rw [shiftL_zero]; exact HC.out.left)
        have HC2 := Lib.hid (HC.out.right (if cc = ra.length then C else C.map (·.add (ra.length * 5))) (fun hz => by
          rw [if_neg]
          rw [shiftL_length] at hz
          omega))
        generalize (if cc = ra.length then C else C.map (·.add (ra.length * 5))) = C2 at s2 HC2
        have HS1 := Lib.hid (fun o => rfSame 0 ra A C ca cc (w4.alloc o) (HA.out.keep (bBox _ _)) (HC1.out.keep (bBox _ _)) (by omega) (by omega) (fun d hd => by have := (HSa.out d hd).num; omega) (fun d hd => by have := (HSa.out d hd).cnt; omega))
        have HS2 := Lib.hid (fun w' (h : Below w4.heap.size w4 w') => rfSame pa.length rb B C2 cb (cc - ra.length) w' (HB'.out.keep h) (HC2.out.keep h) (by omega) (by omega) (fun d hd => by have := (HSb.out d hd).num; omega) (fun d hd => by have := (HSb.out d hd).cnt; omega))
        go_wp2_with fail
        refine (HS1.out _).mono ?_
        rintro e w5 ⟨rfl, hb5⟩
        have h45 := bUp (bBox w4 _) hb5
        go_wp2_with fail
        refine (HS2.out _ h45).mono ?_
        rintro e w6 ⟨rfl, hb6⟩
        have h06 := bUp (bUp H4.out h45) hb6
        go_wp2_with fail
        refine (lnAlive _ (HE.out.keep h06)).mono ?_
        rintro e w7 ⟨rfl, hb7⟩
        go_wp2_with fail
        go_ret
        exact ⟨rfl, bUp h06 hb7⟩
  · have hd : (decide ((1000 : Int) < a.length) || decide ((1000 : Int) < b.length)) = true := by simp; omega
    go_enter Tryd.func6, Tryd.ntmps6
    by_cases h1 : (1000 : Int) < a.length
    · have hd1 : decide ((1000 : Int) < a.length) = true := decide_eq_true h1
      go_wp2_with fail
      refine (lnAlive _ HE.out).mono ?_
      rintro e w1 ⟨rfl, hb1⟩
      go_wp2_with fail
      go_ret
      exact ⟨rfl, hb1⟩
    · have hd1 : decide ((1000 : Int) < a.length) = false := decide_eq_false h1
      have hd2 : decide ((1000 : Int) < b.length) = true := decide_eq_true (by omega)
      clear hd
      go_wp2_with fail
      refine (lnAlive _ HE.out).mono ?_
      rintro e w1 ⟨rfl, hb1⟩
      go_wp2_with fail
      go_ret
      exact ⟨rfl, hb1⟩
end Go.Proofs.YtafmdeipcepaiaaDoor
