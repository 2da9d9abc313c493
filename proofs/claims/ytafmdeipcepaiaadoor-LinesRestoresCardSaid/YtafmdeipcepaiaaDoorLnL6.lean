/- LinesTexts -/
import Derived.Test.YtafmdeipcepaiaaDoorLn22
import Derived.Test.YtafmdeipcepaiaaDoorLn15
import Derived.Test.YtafmdeipcepaiaaDoorFrameL
namespace Go.Proofs.YtafmdeipcepaiaaDoor
open Go.RowKit Go.Sort

theorem wf3 {ls : List LineD} (h : ∀ d ∈ ls, WfLine d) : ∀ d ∈ ls, d.fields.length ≤ 9223372036854775807 ∧ (∀ f ∈ d.fields, f.length ≤ 9223372036854775807) ∧ d.com.length ≤ 9223372036854775807 := fun d hd => ⟨(h d hd).cnt, (h d hd).len, (h d hd).com⟩
theorem few_all {ls : List LineD} (h : fewB ls = true) : ls.length ≤ 40 ∧ ∀ d ∈ ls, FewL d := by
  obtain ⟨h1, h2⟩ := fewD_of h
  exact ⟨h1, fun d hd => ⟨(h2 d hd).1, (h2 d hd).2.1, (h2 d hd).2.2⟩⟩

set_option maxHeartbeats 8000000 in
set_option maxRecDepth 100000 in
theorem lawLTexts (ls : List LineD) (A : Option Addr) (cp : Nat) (w : World) (hA : LinesAt w A ls) (hl : ls.length ≤ 9223372036854775807) (hw : ∀ d ∈ ls, WfLine d) (hE : Env w) :
    Calls Tryd.prog 8 #[.slice A ls.length cp] w fun e w' => e = .returned (.bool true) ∧ Below w.heap.size w w' := by
  have HW := Lib.hid (lnFew ls A cp w hA hl (wf3 hw))
  have HE := Lib.hid hE
  have HA := Lib.hid hA
  have Hw := Lib.hid hw
  clear hE hA hw
  go_enter Tryd.func8, Tryd.ntmps8
  cases hfew : fewB ls with
  | false =>
    rw [hfew] at HW
    have Hfew := Lib.hid hfew
    clear hfew
    go_wp2_with fail
    refine HW.out.mono ?_
    rintro e w1 ⟨rfl, rfl⟩
    go_wp2_with fail
    refine (lnAlive _ HE.out).mono ?_
    rintro e w1 ⟨rfl, hb1⟩
    go_wp2_with fail
    go_ret
    exact ⟨rfl, hb1⟩
  | true =>
    rw [hfew] at HW
    obtain ⟨h40, hfw⟩ := few_all hfew
    have Hfew := Lib.hid hfew
    have Hfw := Lib.hid hfw
    clear hfew hfw
    go_wp2_with fail
    refine HW.out.mono ?_
    rintro e w1 ⟨rfl, rfl⟩
    go_wp2_with fail
    go_loopw [3] (fun i wr => ∃ k : Nat, k ≤ ls.length ∧ i = .int .i64 k ∧ Below w.heap.size w wr) (fun i _ => ls.length - (intOf i).toNat)
    case atStart => exact ⟨0, Nat.zero_le _, rfl, Below.refl _ _⟩
    case round =>
      obtain ⟨k, hk, rfl, hbr⟩ := hrel
      by_cases hlt : k < ls.length
      · obtain ⟨b1, o1, rfl, h1, p0, p1, p2, ⟨F1, d1, p3, s1⟩, p4⟩ := (HA.out.keep hbr).at_ hlt
        have hfd := Hfw.out _ (by simp [lineAt, hlt] : lineAt ls k ∈ ls)
        have CL := Lib.hid (fun dq osq => Calls.regrown_of (w := wr) (d := dq) (os := osq) (lnCheck (lineAt ls k) F1 d1 (grow (redrawn wr dq) osq) (s1.keep (below_regrown wr dq osq)) (by have := hfd.cnt; omega) (fun f hf => ⟨by have := hfd.len f hf; omega, anyAll (by have := hfd.len f hf; omega)⟩) (by have := hfd.com; omega)))
        have CR := Lib.hid (fun dq osq => Calls.regrown_of (w := wr) (d := dq) (os := osq) (rfCheck (lineAt ls k) F1 d1 (grow (redrawn wr dq) osq) (s1.keep (below_regrown wr dq osq)) (by have := hfd.cnt; omega) (fun f hf => by have := hfd.len f hf; omega) (by have := hfd.com; omega)))
        have hki : (k : Int) < ls.length := by omega
        generalize lineAt ls k = d at p0 p1 p2 p3 p4 CL CR
        generalize chkL d = cc at CL CR
        obtain ⟨num, lo, hi, fs, com⟩ := d
        dsimp only at p0 p1 p2 p3 p4 CL CR
        clear s1 hfd
        have k0 := cell_regrown p0
        have k1 := cell_regrown p1
        have k2 := cell_regrown p2
        have k3 := cell_regrown p3
        have k4 := cell_regrown p4
        go_wp2_with fail
        refine wp_region_quiet_below (by kernel_rfl) (by kernel_rfl) ?_
        repeat (go_big_quiet_step (first | exact CL.out _ _ | exact CR.out _ _))
        refine wpQuiet_nil ?_
        rintro _ ⟨⟨dq, osq⟩, rfl⟩
        have hb2 := below_regrown wr dq osq
        generalize grow (redrawn wr dq) osq = w2 at hb2 ⊢
        go_wp2_with fail
        go_roundw
        case rel => exact ⟨k + 1, by omega, by go_num, hbr.trans (hb2.mono hbr.size)⟩
        case measure => simp [intOf]; omega
      · obtain rfl : k = ls.length := by omega
        have hki : ¬ (ls.length : Int) < ls.length := by omega
        have HT1 := Lib.hid (lnText ls A cp wr (HE.out.keep hbr) (HA.out.keep hbr) h40 Hfw.out)
        have HT2 := Lib.hid (fun w' (h : Below w.heap.size w w') => rfText9 ls A cp w' (HA.out.keep h) h40 Hfw.out)
        generalize (textT ls).1 = tx at HT1 HT2
        generalize (textT ls).2 = te at HT1 HT2
        go_wp2_with fail
        refine HT1.out.mono ?_
        rintro e w2 ⟨rfl, hb2⟩
        have h02 := hbr.trans (hb2.mono hbr.size)
        go_wp2_with fail
        refine (HT2.out _ h02).mono ?_
        rintro e w3 ⟨rfl, hb3⟩
        have h03 := bUp h02 hb3
        go_wp2_with fail
        refine (lnAlive _ (HE.out.keep h03)).mono ?_
        rintro e w4 ⟨rfl, hb4⟩
        go_wp2_with fail
        go_ret
        exact ⟨rfl, bUp h03 hb4⟩
end Go.Proofs.YtafmdeipcepaiaaDoor
