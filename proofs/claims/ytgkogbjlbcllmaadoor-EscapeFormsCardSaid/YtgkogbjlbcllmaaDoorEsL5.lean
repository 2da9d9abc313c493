/- The laws EscapeBack and EscapeAgain -/
import Derived.Test.YtgkogbjlbcllmaaDoorEsL1
import Derived.Test.YtgkogbjlbcllmaaDoorEsP3
import Derived.Test.YtgkogbjlbcllmaaDoorEs10
namespace Go.Proofs.YtgkogbjlbcllmaaDoor
open Go.RowKit Go.Sort

theorem esParsed {l : List UInt8} {zs : List Int} {er n : Int} (w : World) (hs : l.length ≤ 9223372036854775807) (h : parseE l = (zs, er, n)) :
    Calls Tryd.prog 19 #[.string ⟨l.toArray⟩] w fun e w' => (∃ A c, e = .returned (.tuple #[.slice A zs.length c, .agg #[.int .i64 er, .int .i64 n]]) ∧ IntsAt w' A zs) ∧ Below w.heap.size w w' :=
  (esParse l w hs).mono fun e w' ho => by
    rw [h] at ho
    obtain ⟨A, c, he, hA, hb⟩ := ho
    exact ⟨⟨A, c, he, hA⟩, hb⟩
theorem esCoded {l : List UInt8} {zs : List Int} {er : Int} (w : World) (hE : Env w) (hl : l.length ≤ 100000) (h : parseCodesR l = (zs, er)) :
    Calls Tryd.prog 15 #[.string ⟨l.toArray⟩] w fun e w' => (∃ A c, e = .returned (.tuple #[.slice A zs.length c, .int .i64 er]) ∧ IntsAt w' A zs) ∧ Below w.heap.size w w' :=
  (esParseCodes l w hE hl).mono fun e w' ho => by
    rw [h] at ho
    obtain ⟨A, c, he, hA, hb⟩ := ho
    exact ⟨⟨A, c, he, hA⟩, hb⟩
theorem esCodesYes (zs : List Int) (A : Option Addr) (cap : Nat) (w : World) (hA : IntsAt w A zs) (hl : zs.length ≤ 100000) (hD : Dig w) (hv : allValid zs = true) :
    Calls Tryd.prog 20 #[.slice A zs.length cap] w fun e w' => e = .returned (strErr (codesL zs) 0) ∧ Below w.heap.size w w' :=
  (esCodes zs A cap w hA hl hD).mono fun _ _ ⟨h, h'⟩ => ⟨by rw [h, codesV, hv]; rfl, h'⟩
theorem wf_valid {t : List Int} (h : allValid t = true) : WfInts t := fun z hz => by
  have := valid_range (allValid_mem h z hz)
  omega

set_option maxHeartbeats 1000000 in
set_option maxRecDepth 100000 in
theorem lawBack5 (zs : List Int) (A : Option Addr) (cap : Nat) (w : World) (hA : IntsAt w A zs) (hl : zs.length ≤ 9223372036854775807) (hT : WfInts zs) (hE : Env w) :
    Calls Tryd.prog 10 #[.slice A zs.length cap] w fun e w' => e = .returned (.bool true) ∧ Below w.heap.size w w' := by
  by_cases h40 : zs.length ≤ 40
  · have hg : decide ((40 : Int) < (zs.length : Int)) = false := by simp; omega
    have h1 := esText zs A cap w hA hT (by omega) hE.dig
    have h2 := fun w' (hb : Below w.heap.size w w') => esCodes zs A cap w' (hA.keep hb) (by omega) (hE.keep hb).dig
    cases hv : allValid zs
    · rw [show textEV zs = strErr [] 1 by rw [textEV, hv]; rfl] at h1
      rw [show codesV zs = strErr [] 1 by rw [codesV, hv]; rfl] at h2
      have H1 := Lib.hid h1
      have H2 := Lib.hid h2
      have HA := Lib.hid hA
      have HT := Lib.hid hT
      have HE := Lib.hid hE
      have Hv := Lib.hid hv
      clear h1 h2 hA hT hE hv
      go_enter Tryd.func10, Tryd.ntmps10
      go_wp2_with fail
      refine H1.out.mono ?_
      rintro e w1 ⟨rfl, hb1⟩
      unfold strErr
      go_wp2_with fail
      refine (H2.out _ hb1).mono ?_
      rintro e w2 ⟨rfl, hb2⟩
      unfold strErr
      go_wp2_with fail
      refine (alive05 _ (HE.out.keep (bUp hb1 hb2))).mono ?_
      rintro e w3 ⟨rfl, hb3⟩
      go_wp2_with fail
      go_ret
      exact ⟨rfl, bUp (bUp hb1 hb2) hb3⟩
    · rw [show textEV zs = strErr (textE zs) 0 by rw [textEV, hv]; rfl] at h1
      rw [show codesV zs = strErr (codesL zs) 0 by rw [codesV, hv]; rfl] at h2
      have k1 := textE_le zs
      have k2 := codesL_le zs
      have h3 := fun w' => esParsed (l := textE zs) w' (by omega) (back_text hv (by omega))
      have h4 := fun w' (hb : Below w.heap.size w w') => esCoded (l := codesL zs) w' (hE.keep hb) (by omega) (back_codes hv)
      have q1 := eqFaultSame 0 0
      generalize textE zs = s at h1 h3 k1
      generalize codesL zs = t at h2 h4 k2
      have H1 := Lib.hid h1
      have H2 := Lib.hid h2
      have H3 := Lib.hid h3
      have H4 := Lib.hid h4
      have HA := Lib.hid hA
      have HT := Lib.hid hT
      have HE := Lib.hid hE
      have Hv := Lib.hid hv
      clear h1 h2 h3 h4 hA hT hE hv
      go_enter Tryd.func10, Tryd.ntmps10
      go_wp2_with fail
      refine H1.out.mono ?_
      rintro e w1 ⟨rfl, hb1⟩
      unfold strErr
      go_wp2_with fail
      refine (H2.out _ hb1).mono ?_
      rintro e w2 ⟨rfl, hb2⟩
      unfold strErr
      have hw2 : Below w.heap.size w w2 := bUp hb1 hb2
      go_wp2_with fail
      refine (H3.out _).mono ?_
      rintro e w3 ⟨⟨B, b, rfl, hB⟩, hb3⟩
      have HB := Lib.hid hB
      clear hB
      have hw3 : Below w.heap.size w (w3.alloc (.cells #[.int .i64 0, .int .i64 0] 36)) := bUp (bUp hw2 hb3) (bBox _ _)
      go_wp2_with fail
      refine (H4.out _ hw3).mono ?_
      rintro e w4 ⟨⟨C, c, rfl, hC⟩, hb4⟩
      have HC := Lib.hid hC
      clear hC
      obtain ⟨bc_w4, bf_w4⟩ := bcell hb4
      have z0_w4 : w3.heap.size < w4.heap.size := by have hsz := hb4.size; (try simp only [World.size_alloc] at hsz); omega
      have y0_w4 : w3.heap.size ≤ w4.heap.size := Nat.le_of_lt z0_w4
      have x0_w4 : w3.heap.size ≤ w4.heap.size + 1 := Nat.le_succ_of_le y0_w4
      have hw4 : Below w.heap.size w w4 := bUp hw3 hb4
      go_wp2_with fail
      refine (rfSame zs B A b cap _ (HB.out.keep (bUp (bBox _ _) hb4)) (HA.out.keep hw4) (by omega)).mono ?_
      rintro e w5 ⟨rfl, hb5⟩
      obtain ⟨bc_w5, bf_w5⟩ := bcell hb5
      have z0_w5 : w3.heap.size < w5.heap.size := by have hsz := hb5.size; (try simp only [World.size_alloc] at hsz); omega
      have y0_w5 : w3.heap.size ≤ w5.heap.size := Nat.le_of_lt z0_w5
      have x0_w5 : w3.heap.size ≤ w5.heap.size + 1 := Nat.le_succ_of_le y0_w5
      have hw5 : Below w.heap.size w w5 := bUp hw4 hb5
      go_wp2_with fail
      refine (rfSame zs C A c cap _ (HC.out.keep hb5) (HA.out.keep hw5) (by omega)).mono ?_
      rintro e w6 ⟨rfl, hb6⟩
      have hw6 : Below w.heap.size w w6 := bUp hw5 hb6
      go_wp2_with fail
      refine (alive05 _ (HE.out.keep hw6)).mono ?_
      rintro e w7 ⟨rfl, hb7⟩
      go_wp2_with fail
      go_ret
      exact ⟨rfl, bUp hw6 hb7⟩
  · have hg : decide ((40 : Int) < (zs.length : Int)) = true := by simp; omega
    have HA := Lib.hid hA
    have HT := Lib.hid hT
    have HE := Lib.hid hE
    clear hA hT hE
    go_enter Tryd.func10, Tryd.ntmps10
    go_wp2_with fail
    refine (alive05 _ HE.out).mono ?_
    rintro e w3 ⟨rfl, hb3⟩
    go_wp2_with fail
    go_ret
    exact ⟨rfl, hb3⟩

set_option maxHeartbeats 1000000 in
set_option maxRecDepth 100000 in
theorem again00 (l d : List UInt8) (w : World) (hE : Env w) (h1 : l.length ≤ 400) (h2 : d.length ≤ 400) {a : List Int} {er n : Int} (hp : parseE l = (a, er, n)) (hx : ¬ er = 0) {c : List Int} {eh : Int} (hq : parseCodesR d = (c, eh)) (hy : ¬ eh = 0) :
    Calls Tryd.prog 11 #[.string ⟨l.toArray⟩, .string ⟨d.toArray⟩] w fun e w' => e = .returned (.bool true) ∧ Below w.heap.size w w' := by
  have hg : decide ((400 : Int) < (l.length : Int)) = false := by simp; omega
  have hg2 : decide ((400 : Int) < (d.length : Int)) = false := by simp; omega
  have hpv := parse_valid l
  have hag := again_codes d
  rw [hp] at hpv
  rw [hq] at hag
  dsimp only at hpv hag
  have H1 := Lib.hid (fun w' => esParsed (l := l) w' (by omega) hp)
  have H2 := Lib.hid (fun w' (hb : Below w.heap.size w w') => esCoded (l := d) w' (hE.keep hb) (by omega) hq)
  have p1 : (er == 0) = false := by simpa using hx
  have hc0 : c = [] := by
    rcases hag with h | h
    · exact h.2
    · exact absurd h.1 hy
  subst hc0
  have p2 : (eh != 0) = true := by simpa using hy
  have H5 := Lib.hid (fun C b w' (hb : Below w.heap.size w w') (hC : IntsAt w' C []) => esCodesYes [] C b w' hC (by simp) (hE.keep hb).dig rfl)
  have Hp := Lib.hid hp
  have Hq := Lib.hid hq
  have Hpv := Lib.hid hpv
  have HE := Lib.hid hE
  have Hag := Lib.hid hag
  clear hp hq hpv hE hag
  have Hx := Lib.hid hx
  clear hx
  go_enter Tryd.func11, Tryd.ntmps11
  go_wp2_with fail
  refine (H1.out _).mono ?_
  rintro e w1 ⟨⟨B, b, rfl, hB⟩, hb1⟩
  have HB := Lib.hid hB
  clear hB
  have hw1 : Below w.heap.size w (w1.alloc (.cells #[.int .i64 er, .int .i64 n] 36)) := bUp hb1 (bBox _ _)
  have HB1 := Lib.hid (HB.out.keep (bBox w1 (.cells #[.int .i64 er, .int .i64 n] 36)))
  go_wp2_with fail
  refine (H2.out _ hw1).mono ?_
  rintro e w5 ⟨⟨D, dd, rfl, hD⟩, hb5⟩
  have HD := Lib.hid hD
  clear hD
  have hw5 : Below w.heap.size w w5 := bUp hw1 hb5
  go_wp2_with fail
  refine (H5.out D dd _ hw5 HD.out).mono ?_
  rintro e w6 ⟨rfl, hb6⟩
  unfold strErr
  have hw6 : Below w.heap.size w w6 := bUp hw5 hb6
  go_wp2_with fail
  refine (alive05 _ (HE.out.keep hw6)).mono ?_
  rintro e w7 ⟨rfl, hb7⟩
  go_wp2_with fail
  go_ret
  exact ⟨rfl, bUp hw6 hb7⟩

set_option maxHeartbeats 1000000 in
set_option maxRecDepth 100000 in
theorem again01 (l d : List UInt8) (w : World) (hE : Env w) (h1 : l.length ≤ 400) (h2 : d.length ≤ 400) {a : List Int} {er n : Int} (hp : parseE l = (a, er, n)) (hx : ¬ er = 0) {c : List Int} {eh : Int} (hq : parseCodesR d = (c, eh)) (hy : eh = 0) :
    Calls Tryd.prog 11 #[.string ⟨l.toArray⟩, .string ⟨d.toArray⟩] w fun e w' => e = .returned (.bool true) ∧ Below w.heap.size w w' := by
  have hg : decide ((400 : Int) < (l.length : Int)) = false := by simp; omega
  have hg2 : decide ((400 : Int) < (d.length : Int)) = false := by simp; omega
  have hpv := parse_valid l
  have hag := again_codes d
  rw [hp] at hpv
  rw [hq] at hag
  dsimp only at hpv hag
  have H1 := Lib.hid (fun w' => esParsed (l := l) w' (by omega) hp)
  have H2 := Lib.hid (fun w' (hb : Below w.heap.size w w') => esCoded (l := d) w' (hE.keep hb) (by omega) hq)
  have p1 : (er == 0) = false := by simpa using hx
  subst hy
  have hag' := hag.resolve_left (fun h => h.1 rfl)
  have hcl : c.length ≤ 401 := by have := parseCodesR_len d; rw [hq] at this; dsimp only at this; omega
  have h5 := fun C b w' (hb : Below w.heap.size w w') (hC : IntsAt w' C c) => esCodesYes c C b w' hC (by omega) (hE.keep hb).dig hag'.2.1
  rw [hag'.2.2] at h5
  have H5 := Lib.hid h5
  clear h5
  have hdd : (d == d) = true := by simp
  clear hag'
  have Hp := Lib.hid hp
  have Hq := Lib.hid hq
  have Hpv := Lib.hid hpv
  have HE := Lib.hid hE
  have Hag := Lib.hid hag
  clear hp hq hpv hE hag
  have Hx := Lib.hid hx
  clear hx
  go_enter Tryd.func11, Tryd.ntmps11
  go_wp2_with fail
  refine (H1.out _).mono ?_
  rintro e w1 ⟨⟨B, b, rfl, hB⟩, hb1⟩
  have HB := Lib.hid hB
  clear hB
  have hw1 : Below w.heap.size w (w1.alloc (.cells #[.int .i64 er, .int .i64 n] 36)) := bUp hb1 (bBox _ _)
  have HB1 := Lib.hid (HB.out.keep (bBox w1 (.cells #[.int .i64 er, .int .i64 n] 36)))
  go_wp2_with fail
  refine (H2.out _ hw1).mono ?_
  rintro e w5 ⟨⟨D, dd, rfl, hD⟩, hb5⟩
  have HD := Lib.hid hD
  clear hD
  have hw5 : Below w.heap.size w w5 := bUp hw1 hb5
  go_wp2_with fail
  refine (H5.out D dd _ hw5 HD.out).mono ?_
  rintro e w6 ⟨rfl, hb6⟩
  unfold strErr
  have hw6 : Below w.heap.size w w6 := bUp hw5 hb6
  go_wp2_with fail
  refine (alive05 _ (HE.out.keep hw6)).mono ?_
  rintro e w7 ⟨rfl, hb7⟩
  go_wp2_with fail
  go_ret
  exact ⟨rfl, bUp hw6 hb7⟩

set_option maxHeartbeats 1000000 in
set_option maxRecDepth 100000 in
theorem again10 (l d : List UInt8) (w : World) (hE : Env w) (h1 : l.length ≤ 400) (h2 : d.length ≤ 400) {a : List Int} {er n : Int} (hp : parseE l = (a, er, n)) (hx : er = 0) {c : List Int} {eh : Int} (hq : parseCodesR d = (c, eh)) (hy : ¬ eh = 0) :
    Calls Tryd.prog 11 #[.string ⟨l.toArray⟩, .string ⟨d.toArray⟩] w fun e w' => e = .returned (.bool true) ∧ Below w.heap.size w w' := by
  have hg : decide ((400 : Int) < (l.length : Int)) = false := by simp; omega
  have hg2 : decide ((400 : Int) < (d.length : Int)) = false := by simp; omega
  have hpv := parse_valid l
  have hag := again_codes d
  rw [hp] at hpv
  rw [hq] at hag
  dsimp only at hpv hag
  have H1 := Lib.hid (fun w' => esParsed (l := l) w' (by omega) hp)
  have H2 := Lib.hid (fun w' (hb : Below w.heap.size w w') => esCoded (l := d) w' (hE.keep hb) (by omega) hq)
  subst hx
  have k1 := textE_le a
  have H3 := Lib.hid (fun B b w' (hb : Below w.heap.size w w') (hB : IntsAt w' B a) => esTextYes a B b w' hB (wf_valid hpv.1) (by omega) (hE.keep hb).dig hpv.1)
  have H4 := Lib.hid (fun w' => esParsed (l := textE a) w' (by omega) (back_text hpv.1 (by omega)))
  have hal : a.length ≤ 400 := by omega
  generalize textE a = s at H3 H4 k1
  have hc0 : c = [] := by
    rcases hag with h | h
    · exact h.2
    · exact absurd h.1 hy
  subst hc0
  have p2 : (eh != 0) = true := by simpa using hy
  have H5 := Lib.hid (fun C b w' (hb : Below w.heap.size w w') (hC : IntsAt w' C []) => esCodesYes [] C b w' hC (by simp) (hE.keep hb).dig rfl)
  have Hp := Lib.hid hp
  have Hq := Lib.hid hq
  have Hpv := Lib.hid hpv
  have HE := Lib.hid hE
  have Hag := Lib.hid hag
  clear hp hq hpv hE hag
  go_enter Tryd.func11, Tryd.ntmps11
  go_wp2_with fail
  refine (H1.out _).mono ?_
  rintro e w1 ⟨⟨B, b, rfl, hB⟩, hb1⟩
  have HB := Lib.hid hB
  clear hB
  have hw1 : Below w.heap.size w (w1.alloc (.cells #[.int .i64 0, .int .i64 n] 36)) := bUp hb1 (bBox _ _)
  have HB1 := Lib.hid (HB.out.keep (bBox w1 (.cells #[.int .i64 0, .int .i64 n] 36)))
  go_wp2_with fail
  refine (H3.out B b _ hw1 HB1.out).mono ?_
  rintro e w2 ⟨rfl, hb2⟩
  unfold strErr
  have hw2 : Below w.heap.size w w2 := bUp hw1 hb2
  go_wp2_with fail
  refine (H4.out _).mono ?_
  rintro e w3 ⟨⟨C, c', rfl, hC⟩, hb3⟩
  have HC := Lib.hid hC
  clear hC
  have hw3 : Below w.heap.size w (w3.alloc (.cells #[.int .i64 0, .int .i64 0] 36)) := bUp (bUp hw2 hb3) (bBox _ _)
  go_wp2_with fail
  refine (rfSame a B C b c' _ ((HB1.out.keep (bUp hb2 hb3)).keep (bBox _ _)) (HC.out.keep (bBox _ _)) (by omega)).mono ?_
  rintro e w4 ⟨rfl, hb4⟩
  have hw4 : Below w.heap.size w w4 := bUp hw3 hb4
  go_wp2_with fail
  refine (H2.out _ hw4).mono ?_
  rintro e w5 ⟨⟨D, dd, rfl, hD⟩, hb5⟩
  have HD := Lib.hid hD
  clear hD
  have hw5 : Below w.heap.size w w5 := bUp hw4 hb5
  go_wp2_with fail
  refine (H5.out D dd _ hw5 HD.out).mono ?_
  rintro e w6 ⟨rfl, hb6⟩
  unfold strErr
  have hw6 : Below w.heap.size w w6 := bUp hw5 hb6
  go_wp2_with fail
  refine (alive05 _ (HE.out.keep hw6)).mono ?_
  rintro e w7 ⟨rfl, hb7⟩
  go_wp2_with fail
  go_ret
  exact ⟨rfl, bUp hw6 hb7⟩

set_option maxHeartbeats 1000000 in
set_option maxRecDepth 100000 in
theorem again11 (l d : List UInt8) (w : World) (hE : Env w) (h1 : l.length ≤ 400) (h2 : d.length ≤ 400) {a : List Int} {er n : Int} (hp : parseE l = (a, er, n)) (hx : er = 0) {c : List Int} {eh : Int} (hq : parseCodesR d = (c, eh)) (hy : eh = 0) :
    Calls Tryd.prog 11 #[.string ⟨l.toArray⟩, .string ⟨d.toArray⟩] w fun e w' => e = .returned (.bool true) ∧ Below w.heap.size w w' := by
  have hg : decide ((400 : Int) < (l.length : Int)) = false := by simp; omega
  have hg2 : decide ((400 : Int) < (d.length : Int)) = false := by simp; omega
  have hpv := parse_valid l
  have hag := again_codes d
  rw [hp] at hpv
  rw [hq] at hag
  dsimp only at hpv hag
  have H1 := Lib.hid (fun w' => esParsed (l := l) w' (by omega) hp)
  have H2 := Lib.hid (fun w' (hb : Below w.heap.size w w') => esCoded (l := d) w' (hE.keep hb) (by omega) hq)
  subst hx
  have k1 := textE_le a
  have H3 := Lib.hid (fun B b w' (hb : Below w.heap.size w w') (hB : IntsAt w' B a) => esTextYes a B b w' hB (wf_valid hpv.1) (by omega) (hE.keep hb).dig hpv.1)
  have H4 := Lib.hid (fun w' => esParsed (l := textE a) w' (by omega) (back_text hpv.1 (by omega)))
  have hal : a.length ≤ 400 := by omega
  generalize textE a = s at H3 H4 k1
  subst hy
  have hag' := hag.resolve_left (fun h => h.1 rfl)
  have hcl : c.length ≤ 401 := by have := parseCodesR_len d; rw [hq] at this; dsimp only at this; omega
  have h5 := fun C b w' (hb : Below w.heap.size w w') (hC : IntsAt w' C c) => esCodesYes c C b w' hC (by omega) (hE.keep hb).dig hag'.2.1
  rw [hag'.2.2] at h5
  have H5 := Lib.hid h5
  clear h5
  have hdd : (d == d) = true := by simp
  clear hag'
  have Hp := Lib.hid hp
  have Hq := Lib.hid hq
  have Hpv := Lib.hid hpv
  have HE := Lib.hid hE
  have Hag := Lib.hid hag
  clear hp hq hpv hE hag
  go_enter Tryd.func11, Tryd.ntmps11
  go_wp2_with fail
  refine (H1.out _).mono ?_
  rintro e w1 ⟨⟨B, b, rfl, hB⟩, hb1⟩
  have HB := Lib.hid hB
  clear hB
  have hw1 : Below w.heap.size w (w1.alloc (.cells #[.int .i64 0, .int .i64 n] 36)) := bUp hb1 (bBox _ _)
  have HB1 := Lib.hid (HB.out.keep (bBox w1 (.cells #[.int .i64 0, .int .i64 n] 36)))
  go_wp2_with fail
  refine (H3.out B b _ hw1 HB1.out).mono ?_
  rintro e w2 ⟨rfl, hb2⟩
  unfold strErr
  have hw2 : Below w.heap.size w w2 := bUp hw1 hb2
  go_wp2_with fail
  refine (H4.out _).mono ?_
  rintro e w3 ⟨⟨C, c', rfl, hC⟩, hb3⟩
  have HC := Lib.hid hC
  clear hC
  have hw3 : Below w.heap.size w (w3.alloc (.cells #[.int .i64 0, .int .i64 0] 36)) := bUp (bUp hw2 hb3) (bBox _ _)
  go_wp2_with fail
  refine (rfSame a B C b c' _ ((HB1.out.keep (bUp hb2 hb3)).keep (bBox _ _)) (HC.out.keep (bBox _ _)) (by omega)).mono ?_
  rintro e w4 ⟨rfl, hb4⟩
  have hw4 : Below w.heap.size w w4 := bUp hw3 hb4
  go_wp2_with fail
  refine (H2.out _ hw4).mono ?_
  rintro e w5 ⟨⟨D, dd, rfl, hD⟩, hb5⟩
  have HD := Lib.hid hD
  clear hD
  have hw5 : Below w.heap.size w w5 := bUp hw4 hb5
  go_wp2_with fail
  refine (H5.out D dd _ hw5 HD.out).mono ?_
  rintro e w6 ⟨rfl, hb6⟩
  unfold strErr
  have hw6 : Below w.heap.size w w6 := bUp hw5 hb6
  go_wp2_with fail
  refine (alive05 _ (HE.out.keep hw6)).mono ?_
  rintro e w7 ⟨rfl, hb7⟩
  go_wp2_with fail
  go_ret
  exact ⟨rfl, bUp hw6 hb7⟩

set_option maxHeartbeats 1000000 in
set_option maxRecDepth 100000 in
theorem lawAgain (l d : List UInt8) (w : World) (hl : l.length ≤ 9223372036854775807) (hd : d.length ≤ 9223372036854775807) (hE : Env w) :
    Calls Tryd.prog 11 #[.string ⟨l.toArray⟩, .string ⟨d.toArray⟩] w fun e w' => e = .returned (.bool true) ∧ Below w.heap.size w w' := by
  by_cases h1 : l.length ≤ 400
  · by_cases h2 : d.length ≤ 400
    · obtain ⟨a, er, n, hp⟩ : ∃ a er n, parseE l = (a, er, n) := ⟨_, _, _, rfl⟩
      obtain ⟨c, eh, hq⟩ : ∃ c eh, parseCodesR d = (c, eh) := ⟨_, _, rfl⟩
      by_cases hx : er = 0 <;> by_cases hy : eh = 0
      · exact again11 l d w hE h1 h2 hp hx hq hy
      · exact again10 l d w hE h1 h2 hp hx hq hy
      · exact again01 l d w hE h1 h2 hp hx hq hy
      · exact again00 l d w hE h1 h2 hp hx hq hy
    · have hg : decide ((400 : Int) < (l.length : Int)) = false := by simp; omega
      have hg2 : decide ((400 : Int) < (d.length : Int)) = true := by simp; omega
      have HE := Lib.hid hE
      clear hE
      go_enter Tryd.func11, Tryd.ntmps11
      go_wp2_with fail
      refine (alive05 _ HE.out).mono ?_
      rintro e w3 ⟨rfl, hb3⟩
      go_wp2_with fail
      go_ret
      exact ⟨rfl, hb3⟩
  · have hg : decide ((400 : Int) < (l.length : Int)) = true := by simp; omega
    have HE := Lib.hid hE
    clear hE
    go_enter Tryd.func11, Tryd.ntmps11
    go_wp2_with fail
    refine (alive05 _ HE.out).mono ?_
    rintro e w3 ⟨rfl, hb3⟩
    go_wp2_with fail
    go_ret
    exact ⟨rfl, hb3⟩
end Go.Proofs.YtgkogbjlbcllmaaDoor
