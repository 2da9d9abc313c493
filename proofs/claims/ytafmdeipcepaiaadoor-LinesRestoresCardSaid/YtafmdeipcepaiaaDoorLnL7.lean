/- LinesRestores -/
import Derived.Test.YtafmdeipcepaiaaDoorLnP4
import Derived.Test.YtafmdeipcepaiaaDoorLnL6
namespace Go.Proofs.YtafmdeipcepaiaaDoor
open Go.RowKit Go.Sort

theorem text_err {ls : List LineD} (h : ls.all (fun d => chkL d == 0) = false) : (textT ls).1 = [] ∧ ¬ (textT ls).2 = 0 := by
  unfold textT
  cases hf : ls.find? (fun d => chkL d != 0) with
  | none =>
    rw [← Bool.not_eq_true] at h
    refine absurd (List.all_eq_true.2 fun d hd => ?_) h
    have := List.find?_eq_none.1 hf d hd
    simpa using this
  | some d =>
    have := List.find?_some hf
    exact ⟨rfl, by simpa using this⟩
theorem flat_le {ls : List LineD} (h : ∀ d ∈ ls, FewL d) : (ls.flatMap oneL).length ≤ 1200 * ls.length := by
  induction ls with
  | nil => simp
  | cons d r ih =>
    have h1 := oneL_le (h d (by simp))
    have h2 := ih (fun x hx => h x (by simp [hx]))
    rw [List.flatMap_cons, List.length_append, List.length_cons]
    omega

set_option maxHeartbeats 8000000 in
set_option maxRecDepth 100000 in
theorem lawLRestores (ls : List LineD) (A : Option Addr) (cp : Nat) (w : World) (hA : LinesAt w A ls) (hl : ls.length ≤ 9223372036854775807) (hw : ∀ d ∈ ls, WfLine d) (hE : Env w) :
    Calls Tryd.prog 9 #[.slice A ls.length cp] w fun e w' => e = .returned (.bool true) ∧ Below w.heap.size w w' := by
  have HW := Lib.hid (lnFew ls A cp w hA hl (wf3 hw))
  have HE := Lib.hid hE
  have HA := Lib.hid hA
  have Hw := Lib.hid hw
  clear hE hA hw
  go_enter Tryd.func9, Tryd.ntmps9
  cases hfew : fewB ls with
  | false =>
    rw [hfew] at HW
    have Hfew := Lib.hid hfew
    clear hfew
    go_wp2_with fail
    refine HW.out.mono ?_
    rintro e w1 ⟨rfl, rfl⟩
    go_wp2_with fail
    refine (lnAlive _ HE.out).mono ?_
    rintro e w1 ⟨rfl, hb1⟩
    go_wp2_with fail
    go_ret
    exact ⟨rfl, hb1⟩
  | true =>
    rw [hfew] at HW
    obtain ⟨h40, hfw⟩ := few_all hfew
    have HT1 := Lib.hid (lnText ls A cp w HE.out HA.out h40 hfw)
    have hfl := flat_le hfw
    have HF := Lib.hid (fun d (hd : d ∈ ls) => (hfw d hd).cnt)
    have Hfew := Lib.hid hfew
    clear hfew
    clear hfw
    cases hall : ls.all (fun d => chkL d == 0) with
    | false =>
      obtain ⟨t1, t2⟩ := text_err hall
      rw [t1] at HT1
      have hne : ((textT ls).2 != 0) = true := by simpa using t2
      generalize (textT ls).2 = te at HT1 hne
      have T2 := Lib.hid t2
      have Hall := Lib.hid hall
      clear t2 hall
      clear t1 hfl
      go_wp2_with fail
      refine HW.out.mono ?_
      rintro e w1 ⟨rfl, rfl⟩
      go_wp2_with fail
      refine HT1.out.mono ?_
      rintro e w2 ⟨rfl, hb2⟩
      go_wp2_with fail
      refine (lnAlive _ (HE.out.keep hb2)).mono ?_
      rintro e w3 ⟨rfl, hb3⟩
      go_wp2_with fail
      go_ret
      exact ⟨rfl, bUp hb2 hb3⟩
    | true =>
      have ht := text_good hall
      rw [ht] at HT1
      dsimp only at HT1
      obtain ⟨r1, r2, r3⟩ := text_res hall (by omega)
      have HP := Lib.hid (fun w' (h : Env w') => lnParse (ls.flatMap oneL) w' h (by omega))
      generalize ls.flatMap oneL = tx at HT1 HP r1 r2 r3 hfl
      have hd : decide ((65536 : Int) < tx.length) = false := decide_eq_false (by omega)
      have Hall := Lib.hid hall
      have Ht := Lib.hid ht
      have R1 := Lib.hid r1
      have R2 := Lib.hid r2
      have R3 := Lib.hid r3
      clear hall ht r1 r2 r3
      go_wp2_with fail
      refine HW.out.mono ?_
      rintro e w1 ⟨rfl, rfl⟩
      go_wp2_with fail
      refine HT1.out.mono ?_
      rintro e w2 ⟨rfl, hb2⟩
      go_wp2_with fail
      refine (HP.out _ (HE.out.keep hb2)).mono ?_
      rintro e w3 ⟨hO, hb3⟩
      obtain ⟨B, cb, rfl, hB, _⟩ := hO.out
      rw [R1.out, R2.out, R3.out, renum_length]
      rw [R3.out] at hB
      have h03 := bUp hb2 hb3
      have HB := Lib.hid hB
      clear hO hB hb2 hb3
      go_wp2_with fail
      go_loopw [7] (fun i wr => ∃ k : Nat, k ≤ ls.length ∧ i = .int .i64 k ∧ Below w3.heap.size w3 wr) (fun i _ => ls.length - (intOf i).toNat)
      case atStart => exact ⟨0, Nat.zero_le _, rfl, bBox w3 _⟩
      case round =>
        obtain ⟨k, hk, rfl, hbr⟩ := hrel
        have h0r := bUp h03 hbr
        by_cases hlt : k < ls.length
        · obtain ⟨b1, o1, rfl, h1, p0, p1, p2, ⟨F1, d1, p3, s1⟩, p4⟩ := (HA.out.keep h0r).at_ hlt
          obtain ⟨b2, o2, rfl, h2, q0, q1, q2, ⟨F2, d2, q3, s2⟩, q4⟩ := (HB.out.keep hbr).at_ (k := k) (by rw [renum_length]; exact hlt)
          rw [renum_at 1 ls k hlt] at q0 q1 q2 q3 q4 s2
          dsimp only at q0 q1 q2 q3 q4 s2
          have q0' : wr.cell? ⟨b2, o2 + k * 5, none⟩ = some (.int .i64 ((k : Int) + 1)) := by rw [q0]; congr 2; omega
          have hfb := HF.out _ (by simp [lineAt, hlt] : lineAt ls k ∈ ls)
          generalize lineAt ls k = d at p0 p1 p2 p3 p4 q1 q2 q3 q4 s1 s2 hfb
          obtain ⟨num, lo, hi, fs, com⟩ := d
          dsimp only at p0 p1 p2 p3 p4 q1 q2 q3 q4 s1 s2 hfb
          have hki : (k : Int) < ls.length := by omega
          have HS := Lib.hid (fun dq osq => Calls.regrown_of (w := wr) (d := dq) (os := osq) (rfStrings fs F2 F1 d2 d1 (grow (redrawn wr dq) osq) (s2.keep (below_regrown wr dq osq)) (s1.keep (below_regrown wr dq osq)) (by omega)))
          clear s1 s2 q0 p0
          have k1 := cell_regrown p1
          have k2 := cell_regrown p2
          have k3 := cell_regrown p3
          have k4 := cell_regrown p4
          have j0 := cell_regrown q0'
          have j1 := cell_regrown q1
          have j2 := cell_regrown q2
          have j3 := cell_regrown q3
          have j4 := cell_regrown q4
          go_wp2_with fail
          refine wp_region_quiet_below (by kernel_rfl) (by kernel_rfl) ?_
          repeat (go_big_quiet_step (exact HS.out _ _))
          refine wpQuiet_nil ?_
          rintro _ ⟨⟨dq, osq⟩, rfl⟩
          have hb5 := below_regrown wr dq osq
          generalize grow (redrawn wr dq) osq = w5 at hb5 ⊢
          go_wp2_with fail
          go_roundw
          case rel => exact ⟨k + 1, by omega, by go_num, bUp hbr hb5⟩
          case measure => simp [intOf]; omega
        · obtain rfl : k = ls.length := by omega
          have hki : ¬ (ls.length : Int) < ls.length := by omega
          go_wp2_with fail
          refine (lnAlive _ (HE.out.keep h0r)).mono ?_
          rintro e w6 ⟨rfl, hb6⟩
          go_wp2_with fail
          go_ret
          exact ⟨rfl, bUp h0r hb6⟩
end Go.Proofs.YtafmdeipcepaiaaDoor
