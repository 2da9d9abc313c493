/- The law CharsetBack: its walk -/
import Derived.Test.YthpiopjpipdgnaaDoorCsB
namespace Go.Proofs.YthpiopjpipdgnaaDoor
open Go.RowKit Go.Sort

set_option maxHeartbeats 1000000 in
set_option maxRecDepth 100000 in
theorem backA (zs text : List Int) (A B : Option Addr) (cap cap2 : Nat) (l : List UInt8) (w : World) (hA : IntsAt w A zs) (hl : zs.length ≤ 9223372036854775807) (hB : IntsAt w B text) (hl2 : text.length ≤ 9223372036854775807) (hT : WfInts text) (hl3 : l.length ≤ 9223372036854775807) (hE : Env w) (h : 300 < zs.length) :
    Calls Tryd.prog 9 #[.agg #[.slice A zs.length cap], .slice B text.length cap2, .string ⟨l.toArray⟩] w fun e w' => e = .returned (.bool true) ∧ Below w.heap.size w w' := by
  have hf : fewB zs = false := by simp [fewB]; omega
  clear hA hB hT
  have HE := Lib.hid hE
  have Hf := Lib.hid hf
  clear hE hf
  go_enter Tryd.func9, Tryd.ntmps9
  go_wp2_with fail
  refine (csFew zs A cap _ hl).mono ?_
  rintro e w1 ⟨rfl, hb1⟩
  rw [Hf.out]
  obtain ⟨bc_w1, bf_w1⟩ := bcell hb1
  have z0_w1 : w.heap.size < w1.heap.size := by have hsz := hb1.size; (try simp only [World.size_alloc] at hsz); omega
  have y0_w1 : w.heap.size ≤ w1.heap.size := Nat.le_of_lt z0_w1
  have hw1 : Below w.heap.size w w1 := bUp (bBox _ _) hb1
  go_wp2_with fail
  refine (alive06 _ (HE.out.keep hw1)).mono ?_
  rintro e w9 ⟨rfl, hb9⟩
  go_wp2_with fail
  go_ret
  exact ⟨rfl, bUp (hw1) hb9⟩

set_option maxHeartbeats 1000000 in
set_option maxRecDepth 100000 in
theorem backB (zs text : List Int) (A B : Option Addr) (cap cap2 : Nat) (l : List UInt8) (w : World) (hA : IntsAt w A zs) (hl : zs.length ≤ 9223372036854775807) (hB : IntsAt w B text) (hl2 : text.length ≤ 9223372036854775807) (hT : WfInts text) (hl3 : l.length ≤ 9223372036854775807) (hE : Env w) (h : zs.length ≤ 300) (h2 : 40 < text.length) :
    Calls Tryd.prog 9 #[.agg #[.slice A zs.length cap], .slice B text.length cap2, .string ⟨l.toArray⟩] w fun e w' => e = .returned (.bool true) ∧ Below w.heap.size w w' := by
  have hf : fewB zs = true := by simp [fewB]; omega
  have hg : decide ((40 : Int) < (text.length : Int)) = true := by simp; omega
  clear hA hB hT
  have HE := Lib.hid hE
  have Hf := Lib.hid hf
  clear hE hf
  go_enter Tryd.func9, Tryd.ntmps9
  go_wp2_with fail
  refine (csFew zs A cap _ hl).mono ?_
  rintro e w1 ⟨rfl, hb1⟩
  rw [Hf.out]
  obtain ⟨bc_w1, bf_w1⟩ := bcell hb1
  have z0_w1 : w.heap.size < w1.heap.size := by have hsz := hb1.size; (try simp only [World.size_alloc] at hsz); omega
  have y0_w1 : w.heap.size ≤ w1.heap.size := Nat.le_of_lt z0_w1
  have hw1 : Below w.heap.size w w1 := bUp (bBox _ _) hb1
  go_wp2_with fail
  refine (alive06 _ (HE.out.keep hw1)).mono ?_
  rintro e w9 ⟨rfl, hb9⟩
  go_wp2_with fail
  go_ret
  exact ⟨rfl, bUp (hw1) hb9⟩

set_option maxHeartbeats 1000000 in
set_option maxRecDepth 100000 in
theorem backC (zs text : List Int) (A B : Option Addr) (cap cap2 : Nat) (l : List UInt8) (w : World) (hA : IntsAt w A zs) (hl : zs.length ≤ 9223372036854775807) (hB : IntsAt w B text) (hl2 : text.length ≤ 9223372036854775807) (hT : WfInts text) (hl3 : l.length ≤ 9223372036854775807) (hE : Env w) (h : zs.length ≤ 300) (h2 : text.length ≤ 40) (h3 : 60 < l.length) :
    Calls Tryd.prog 9 #[.agg #[.slice A zs.length cap], .slice B text.length cap2, .string ⟨l.toArray⟩] w fun e w' => e = .returned (.bool true) ∧ Below w.heap.size w w' := by
  have hf : fewB zs = true := by simp [fewB]; omega
  have hg : decide ((40 : Int) < (text.length : Int)) = false := by simp; omega
  have hg2 : decide ((60 : Int) < (l.length : Int)) = true := by simp; omega
  clear hA hB hT
  have HE := Lib.hid hE
  have Hf := Lib.hid hf
  clear hE hf
  go_enter Tryd.func9, Tryd.ntmps9
  go_wp2_with fail
  refine (csFew zs A cap _ hl).mono ?_
  rintro e w1 ⟨rfl, hb1⟩
  rw [Hf.out]
  obtain ⟨bc_w1, bf_w1⟩ := bcell hb1
  have z0_w1 : w.heap.size < w1.heap.size := by have hsz := hb1.size; (try simp only [World.size_alloc] at hsz); omega
  have y0_w1 : w.heap.size ≤ w1.heap.size := Nat.le_of_lt z0_w1
  have hw1 : Below w.heap.size w w1 := bUp (bBox _ _) hb1
  go_wp2_with fail
  refine (alive06 _ (HE.out.keep hw1)).mono ?_
  rintro e w9 ⟨rfl, hb9⟩
  go_wp2_with fail
  go_ret
  exact ⟨rfl, bUp (hw1) hb9⟩

set_option maxHeartbeats 1000000 in
set_option maxRecDepth 100000 in
theorem back00 (zs text : List Int) (A B : Option Addr) (cap cap2 : Nat) (l : List UInt8) (w : World) (hA : IntsAt w A zs) (hl : zs.length ≤ 9223372036854775807) (hB : IntsAt w B text) (hl2 : text.length ≤ 9223372036854775807) (hT : WfInts text) (hl3 : l.length ≤ 9223372036854775807) (hE : Env w) (h : zs.length ≤ 300) (h2 : text.length ≤ 40) (h3 : l.length ≤ 60) {b : List UInt8} {er n : Int} (hv : encV zs text 1 (idxF zs) = strFault b er n) {cs : List Int} {er2 n2 : Int} (hv2 : decR zs l 1 = (cs, er2, n2)) (hx : ¬ er = 0) (hy : ¬ er2 = 0) (hcs : cs = []) :
    Calls Tryd.prog 9 #[.agg #[.slice A zs.length cap], .slice B text.length cap2, .string ⟨l.toArray⟩] w fun e w' => e = .returned (.bool true) ∧ Below w.heap.size w w' := by
  subst hcs
  have hf : fewB zs = true := by simp [fewB, h]
  have hg : decide ((40 : Int) < (text.length : Int)) = false := by simp; omega
  have hg2 : decide ((60 : Int) < (l.length : Int)) = false := by simp; omega
  have h1 := fun w' (hb : Below w.heap.size w w') => csEncode zs text A B cap cap2 1 w' (hA.keep hb) h (hB.keep hb) (by omega) hT (hE.keep hb).dig
  have h2 := fun w' (hb : Below w.heap.size w w') => csDecode zs A cap l 1 w' (hA.keep hb) h (by omega) (hE.keep hb).dig
  rw [hv] at h1
  rw [hv2] at h2
  have hx' : (er == 0) = false := by simpa using hx
  have hy' : (er2 != 0) = true := by simpa using hy
  have H1 := Lib.hid h1
  have H2 := Lib.hid h2
  have HA := Lib.hid hA
  have HB := Lib.hid hB
  have HT := Lib.hid hT
  have HE := Lib.hid hE
  have Hf := Lib.hid hf
  have Hv := Lib.hid hv
  have Hv2 := Lib.hid hv2
  clear h1 h2 hA hB hT hE hf hv hv2
  go_enter Tryd.func9, Tryd.ntmps9
  go_wp2_with fail
  refine (csFew zs A cap _ hl).mono ?_
  rintro e w1 ⟨rfl, hb1⟩
  rw [Hf.out]
  obtain ⟨bc_w1, bf_w1⟩ := bcell hb1
  have z0_w1 : w.heap.size < w1.heap.size := by have hsz := hb1.size; (try simp only [World.size_alloc] at hsz); omega
  have y0_w1 : w.heap.size ≤ w1.heap.size := Nat.le_of_lt z0_w1
  have hw1 : Below w.heap.size w w1 := bUp (bBox _ _) hb1
  go_wp2_with fail
  refine (H1.out _ hw1).mono ?_
  rintro e w2 ⟨rfl, hb2⟩
  unfold strFault
  obtain ⟨bc_w2, bf_w2⟩ := bcell hb2
  have z0_w2 : w.heap.size < w2.heap.size := by have hsz := hb2.size; (try simp only [World.size_alloc] at hsz); omega
  have y0_w2 : w.heap.size ≤ w2.heap.size := Nat.le_of_lt z0_w2
  have hw2 : Below w.heap.size w w2 := bUp hw1 hb2
  have hw3 : Below w.heap.size w (w2.alloc (.cells #[.int .i64 er, .int .i64 n] 30)) := bUp hw2 (bBox _ _)
  go_wp2_with fail
  refine (H2.out _ hw3).mono ?_
  rintro e w6 ⟨C2, c2, rfl, hC2, hb6⟩
  dsimp only at hC2 ⊢
  have HC2 := Lib.hid hC2
  clear hC2
  obtain ⟨bc_w6, bf_w6⟩ := bcell hb6
  have z0_w6 : w.heap.size < w6.heap.size := by have hsz := hb6.size; (try simp only [World.size_alloc] at hsz); omega
  have y0_w6 : w.heap.size ≤ w6.heap.size := Nat.le_of_lt z0_w6
  have hw6 : Below w.heap.size w w6 := bUp hw3 hb6
  go_wp2_with fail
  refine (alive06 _ (HE.out.keep (bUp hw6 (bBox _ _)))).mono ?_
  rintro e w9 ⟨rfl, hb9⟩
  go_wp2_with fail
  go_ret
  exact ⟨rfl, bUp (bUp hw6 (bBox _ _)) hb9⟩

set_option maxHeartbeats 1000000 in
set_option maxRecDepth 100000 in
theorem back01 (zs text : List Int) (A B : Option Addr) (cap cap2 : Nat) (l : List UInt8) (w : World) (hA : IntsAt w A zs) (hl : zs.length ≤ 9223372036854775807) (hB : IntsAt w B text) (hl2 : text.length ≤ 9223372036854775807) (hT : WfInts text) (hl3 : l.length ≤ 9223372036854775807) (hE : Env w) (h : zs.length ≤ 300) (h2 : text.length ≤ 40) (h3 : l.length ≤ 60) {b : List UInt8} {er n : Int} (hv : encV zs text 1 (idxF zs) = strFault b er n) {cs : List Int} {er2 n2 : Int} (hv2 : decR zs l 1 = (cs, er2, n2)) (hx : ¬ er = 0) (hy : er2 = 0) (he : encV zs cs 1 (idxF zs) = strFault l 0 0) (hcl : cs.length = l.length) (hwf : WfInts cs) :
    Calls Tryd.prog 9 #[.agg #[.slice A zs.length cap], .slice B text.length cap2, .string ⟨l.toArray⟩] w fun e w' => e = .returned (.bool true) ∧ Below w.heap.size w w' := by
  have hf : fewB zs = true := by simp [fewB, h]
  have hg : decide ((40 : Int) < (text.length : Int)) = false := by simp; omega
  have hg2 : decide ((60 : Int) < (l.length : Int)) = false := by simp; omega
  have h1 := fun w' (hb : Below w.heap.size w w') => csEncode zs text A B cap cap2 1 w' (hA.keep hb) h (hB.keep hb) (by omega) hT (hE.keep hb).dig
  have h2 := fun w' (hb : Below w.heap.size w w') => csDecode zs A cap l 1 w' (hA.keep hb) h (by omega) (hE.keep hb).dig
  rw [hv] at h1
  rw [hv2] at h2
  have hx' : (er == 0) = false := by simpa using hx
  obtain rfl : er2 = 0 := hy
  have h4 := fun C c w' (hb : Below w.heap.size w w') (hC : IntsAt w' C cs) => csEncode zs cs A C cap c 1 w' (hA.keep hb) h hC (by omega) hwf (hE.keep hb).dig
  rw [he] at h4
  have hss : (l == l) = true := by simp
  have H4 := Lib.hid h4
  have He := Lib.hid he
  clear h4 he
  clear hcl
  have H1 := Lib.hid h1
  have H2 := Lib.hid h2
  have HA := Lib.hid hA
  have HB := Lib.hid hB
  have HT := Lib.hid hT
  have HE := Lib.hid hE
  have Hf := Lib.hid hf
  have Hv := Lib.hid hv
  have Hv2 := Lib.hid hv2
  clear h1 h2 hA hB hT hE hf hv hv2
  go_enter Tryd.func9, Tryd.ntmps9
  go_wp2_with fail
  refine (csFew zs A cap _ hl).mono ?_
  rintro e w1 ⟨rfl, hb1⟩
  rw [Hf.out]
  obtain ⟨bc_w1, bf_w1⟩ := bcell hb1
  have z0_w1 : w.heap.size < w1.heap.size := by have hsz := hb1.size; (try simp only [World.size_alloc] at hsz); omega
  have y0_w1 : w.heap.size ≤ w1.heap.size := Nat.le_of_lt z0_w1
  have hw1 : Below w.heap.size w w1 := bUp (bBox _ _) hb1
  go_wp2_with fail
  refine (H1.out _ hw1).mono ?_
  rintro e w2 ⟨rfl, hb2⟩
  unfold strFault
  obtain ⟨bc_w2, bf_w2⟩ := bcell hb2
  have z0_w2 : w.heap.size < w2.heap.size := by have hsz := hb2.size; (try simp only [World.size_alloc] at hsz); omega
  have y0_w2 : w.heap.size ≤ w2.heap.size := Nat.le_of_lt z0_w2
  have hw2 : Below w.heap.size w w2 := bUp hw1 hb2
  have hw3 : Below w.heap.size w (w2.alloc (.cells #[.int .i64 er, .int .i64 n] 30)) := bUp hw2 (bBox _ _)
  go_wp2_with fail
  refine (H2.out _ hw3).mono ?_
  rintro e w6 ⟨C2, c2, rfl, hC2, hb6⟩
  dsimp only at hC2 ⊢
  have HC2 := Lib.hid hC2
  clear hC2
  obtain ⟨bc_w6, bf_w6⟩ := bcell hb6
  have z0_w6 : w.heap.size < w6.heap.size := by have hsz := hb6.size; (try simp only [World.size_alloc] at hsz); omega
  have y0_w6 : w.heap.size ≤ w6.heap.size := Nat.le_of_lt z0_w6
  have hw6 : Below w.heap.size w w6 := bUp hw3 hb6
  go_wp2_with fail
  refine (H4.out C2 c2 _ (bUp hw6 (bBox _ _)) (HC2.out.keep (bBox _ _))).mono ?_
  rintro e w7 ⟨rfl, hb7⟩
  unfold strFault
  have hw7 : Below w.heap.size w w7 := bUp (bUp hw6 (bBox _ _)) hb7
  go_wp2_with fail
  refine (alive06 _ (HE.out.keep (bUp hw7 (bBox _ _)))).mono ?_
  rintro e w9 ⟨rfl, hb9⟩
  go_wp2_with fail
  go_ret
  exact ⟨rfl, bUp (bUp hw7 (bBox _ _)) hb9⟩

set_option maxHeartbeats 1000000 in
set_option maxRecDepth 100000 in
theorem back10 (zs text : List Int) (A B : Option Addr) (cap cap2 : Nat) (l : List UInt8) (w : World) (hA : IntsAt w A zs) (hl : zs.length ≤ 9223372036854775807) (hB : IntsAt w B text) (hl2 : text.length ≤ 9223372036854775807) (hT : WfInts text) (hl3 : l.length ≤ 9223372036854775807) (hE : Env w) (h : zs.length ≤ 300) (h2 : text.length ≤ 40) (h3 : l.length ≤ 60) {b : List UInt8} {er n : Int} (hv : encV zs text 1 (idxF zs) = strFault b er n) {cs : List Int} {er2 n2 : Int} (hv2 : decR zs l 1 = (cs, er2, n2)) (hx : er = 0) (hd : decR zs b 1 = (text, 0, 0)) (hbl : b.length = text.length) (hy : ¬ er2 = 0) (hcs : cs = []) :
    Calls Tryd.prog 9 #[.agg #[.slice A zs.length cap], .slice B text.length cap2, .string ⟨l.toArray⟩] w fun e w' => e = .returned (.bool true) ∧ Below w.heap.size w w' := by
  subst hcs
  have hf : fewB zs = true := by simp [fewB, h]
  have hg : decide ((40 : Int) < (text.length : Int)) = false := by simp; omega
  have hg2 : decide ((60 : Int) < (l.length : Int)) = false := by simp; omega
  have h1 := fun w' (hb : Below w.heap.size w w') => csEncode zs text A B cap cap2 1 w' (hA.keep hb) h (hB.keep hb) (by omega) hT (hE.keep hb).dig
  have h2 := fun w' (hb : Below w.heap.size w w') => csDecode zs A cap l 1 w' (hA.keep hb) h (by omega) (hE.keep hb).dig
  rw [hv] at h1
  rw [hv2] at h2
  obtain rfl : er = 0 := hx
  have h3 := fun w' (hb : Below w.heap.size w w') => csDecode zs A cap b 1 w' (hA.keep hb) h (by omega) (hE.keep hb).dig
  rw [hd] at h3
  have hll : ((b.length : Int) != (text.length : Int)) = false := by rw [hbl]; simp
  have H3 := Lib.hid h3
  have Hd := Lib.hid hd
  clear h3 hd
  clear hbl
  have hy' : (er2 != 0) = true := by simpa using hy
  have H1 := Lib.hid h1
  have H2 := Lib.hid h2
  have HA := Lib.hid hA
  have HB := Lib.hid hB
  have HT := Lib.hid hT
  have HE := Lib.hid hE
  have Hf := Lib.hid hf
  have Hv := Lib.hid hv
  have Hv2 := Lib.hid hv2
  clear h1 h2 hA hB hT hE hf hv hv2
  go_enter Tryd.func9, Tryd.ntmps9
  go_wp2_with fail
  refine (csFew zs A cap _ hl).mono ?_
  rintro e w1 ⟨rfl, hb1⟩
  rw [Hf.out]
  obtain ⟨bc_w1, bf_w1⟩ := bcell hb1
  have z0_w1 : w.heap.size < w1.heap.size := by have hsz := hb1.size; (try simp only [World.size_alloc] at hsz); omega
  have y0_w1 : w.heap.size ≤ w1.heap.size := Nat.le_of_lt z0_w1
  have hw1 : Below w.heap.size w w1 := bUp (bBox _ _) hb1
  go_wp2_with fail
  refine (H1.out _ hw1).mono ?_
  rintro e w2 ⟨rfl, hb2⟩
  unfold strFault
  obtain ⟨bc_w2, bf_w2⟩ := bcell hb2
  have z0_w2 : w.heap.size < w2.heap.size := by have hsz := hb2.size; (try simp only [World.size_alloc] at hsz); omega
  have y0_w2 : w.heap.size ≤ w2.heap.size := Nat.le_of_lt z0_w2
  have hw2 : Below w.heap.size w w2 := bUp hw1 hb2
  have hw3 : Below w.heap.size w (w2.alloc (.cells #[.int .i64 0, .int .i64 n] 30)) := bUp hw2 (bBox _ _)
  go_wp2_with fail
  refine (H3.out _ hw3).mono ?_
  rintro e w4 ⟨C1, c1, rfl, hC1, hb4⟩
  dsimp only at hC1 ⊢
  have HC1 := Lib.hid hC1
  clear hC1
  obtain ⟨bc_w4, bf_w4⟩ := bcell hb4
  have z0_w4 : w.heap.size < w4.heap.size := by have hsz := hb4.size; (try simp only [World.size_alloc] at hsz); omega
  have y0_w4 : w.heap.size ≤ w4.heap.size := Nat.le_of_lt z0_w4
  have z1_w4 : w2.heap.size < w4.heap.size := by have hsz := hb4.size; (try simp only [World.size_alloc] at hsz); omega
  have y1_w4 : w2.heap.size ≤ w4.heap.size := Nat.le_of_lt z1_w4
  have hw4 : Below w.heap.size w w4 := bUp hw3 hb4
  go_wp2_with fail
  refine (rfSame text C1 B c1 cap2 _ (HC1.out.keep (bBox _ _)) (HB.out.keep (bUp hw4 (bBox _ _))) (by omega)).mono ?_
  rintro e w5 ⟨rfl, hb5⟩
  obtain ⟨bc_w5, bf_w5⟩ := bcell hb5
  have z0_w5 : w.heap.size < w5.heap.size := by have hsz := hb5.size; (try simp only [World.size_alloc] at hsz); omega
  have y0_w5 : w.heap.size ≤ w5.heap.size := Nat.le_of_lt z0_w5
  have z1_w5 : w2.heap.size < w5.heap.size := by have hsz := hb5.size; (try simp only [World.size_alloc] at hsz); omega
  have y1_w5 : w2.heap.size ≤ w5.heap.size := Nat.le_of_lt z1_w5
  have z2_w5 : w4.heap.size < w5.heap.size := by have hsz := hb5.size; (try simp only [World.size_alloc] at hsz); omega
  have y2_w5 : w4.heap.size ≤ w5.heap.size := Nat.le_of_lt z2_w5
  have hw5 : Below w.heap.size w w5 := bUp (bUp hw4 (bBox _ _)) hb5
  go_wp2_with fail
  refine (H2.out _ hw5).mono ?_
  rintro e w6 ⟨C2, c2, rfl, hC2, hb6⟩
  dsimp only at hC2 ⊢
  have HC2 := Lib.hid hC2
  clear hC2
  obtain ⟨bc_w6, bf_w6⟩ := bcell hb6
  have z0_w6 : w.heap.size < w6.heap.size := by have hsz := hb6.size; (try simp only [World.size_alloc] at hsz); omega
  have y0_w6 : w.heap.size ≤ w6.heap.size := Nat.le_of_lt z0_w6
  have hw6 : Below w.heap.size w w6 := bUp hw5 hb6
  go_wp2_with fail
  refine (alive06 _ (HE.out.keep (bUp hw6 (bBox _ _)))).mono ?_
  rintro e w9 ⟨rfl, hb9⟩
  go_wp2_with fail
  go_ret
  exact ⟨rfl, bUp (bUp hw6 (bBox _ _)) hb9⟩

set_option maxHeartbeats 1000000 in
set_option maxRecDepth 100000 in
theorem back11 (zs text : List Int) (A B : Option Addr) (cap cap2 : Nat) (l : List UInt8) (w : World) (hA : IntsAt w A zs) (hl : zs.length ≤ 9223372036854775807) (hB : IntsAt w B text) (hl2 : text.length ≤ 9223372036854775807) (hT : WfInts text) (hl3 : l.length ≤ 9223372036854775807) (hE : Env w) (h : zs.length ≤ 300) (h2 : text.length ≤ 40) (h3 : l.length ≤ 60) {b : List UInt8} {er n : Int} (hv : encV zs text 1 (idxF zs) = strFault b er n) {cs : List Int} {er2 n2 : Int} (hv2 : decR zs l 1 = (cs, er2, n2)) (hx : er = 0) (hd : decR zs b 1 = (text, 0, 0)) (hbl : b.length = text.length) (hy : er2 = 0) (he : encV zs cs 1 (idxF zs) = strFault l 0 0) (hcl : cs.length = l.length) (hwf : WfInts cs) :
    Calls Tryd.prog 9 #[.agg #[.slice A zs.length cap], .slice B text.length cap2, .string ⟨l.toArray⟩] w fun e w' => e = .returned (.bool true) ∧ Below w.heap.size w w' := by
  have hf : fewB zs = true := by simp [fewB, h]
  have hg : decide ((40 : Int) < (text.length : Int)) = false := by simp; omega
  have hg2 : decide ((60 : Int) < (l.length : Int)) = false := by simp; omega
  have h1 := fun w' (hb : Below w.heap.size w w') => csEncode zs text A B cap cap2 1 w' (hA.keep hb) h (hB.keep hb) (by omega) hT (hE.keep hb).dig
  have h2 := fun w' (hb : Below w.heap.size w w') => csDecode zs A cap l 1 w' (hA.keep hb) h (by omega) (hE.keep hb).dig
  rw [hv] at h1
  rw [hv2] at h2
  obtain rfl : er = 0 := hx
  have h3 := fun w' (hb : Below w.heap.size w w') => csDecode zs A cap b 1 w' (hA.keep hb) h (by omega) (hE.keep hb).dig
  rw [hd] at h3
  have hll : ((b.length : Int) != (text.length : Int)) = false := by rw [hbl]; simp
  have H3 := Lib.hid h3
  have Hd := Lib.hid hd
  clear h3 hd
  clear hbl
  obtain rfl : er2 = 0 := hy
  have h4 := fun C c w' (hb : Below w.heap.size w w') (hC : IntsAt w' C cs) => csEncode zs cs A C cap c 1 w' (hA.keep hb) h hC (by omega) hwf (hE.keep hb).dig
  rw [he] at h4
  have hss : (l == l) = true := by simp
  have H4 := Lib.hid h4
  have He := Lib.hid he
  clear h4 he
  clear hcl
  have H1 := Lib.hid h1
  have H2 := Lib.hid h2
  have HA := Lib.hid hA
  have HB := Lib.hid hB
  have HT := Lib.hid hT
  have HE := Lib.hid hE
  have Hf := Lib.hid hf
  have Hv := Lib.hid hv
  have Hv2 := Lib.hid hv2
  clear h1 h2 hA hB hT hE hf hv hv2
  go_enter Tryd.func9, Tryd.ntmps9
  go_wp2_with fail
  refine (csFew zs A cap _ hl).mono ?_
  rintro e w1 ⟨rfl, hb1⟩
  rw [Hf.out]
  obtain ⟨bc_w1, bf_w1⟩ := bcell hb1
  have z0_w1 : w.heap.size < w1.heap.size := by have hsz := hb1.size; (try simp only [World.size_alloc] at hsz); omega
  have y0_w1 : w.heap.size ≤ w1.heap.size := Nat.le_of_lt z0_w1
  have hw1 : Below w.heap.size w w1 := bUp (bBox _ _) hb1
  go_wp2_with fail
  refine (H1.out _ hw1).mono ?_
  rintro e w2 ⟨rfl, hb2⟩
  unfold strFault
  obtain ⟨bc_w2, bf_w2⟩ := bcell hb2
  have z0_w2 : w.heap.size < w2.heap.size := by have hsz := hb2.size; (try simp only [World.size_alloc] at hsz); omega
  have y0_w2 : w.heap.size ≤ w2.heap.size := Nat.le_of_lt z0_w2
  have hw2 : Below w.heap.size w w2 := bUp hw1 hb2
  have hw3 : Below w.heap.size w (w2.alloc (.cells #[.int .i64 0, .int .i64 n] 30)) := bUp hw2 (bBox _ _)
  go_wp2_with fail
  refine (H3.out _ hw3).mono ?_
  rintro e w4 ⟨C1, c1, rfl, hC1, hb4⟩
  dsimp only at hC1 ⊢
  have HC1 := Lib.hid hC1
  clear hC1
  obtain ⟨bc_w4, bf_w4⟩ := bcell hb4
  have z0_w4 : w.heap.size < w4.heap.size := by have hsz := hb4.size; (try simp only [World.size_alloc] at hsz); omega
  have y0_w4 : w.heap.size ≤ w4.heap.size := Nat.le_of_lt z0_w4
  have z1_w4 : w2.heap.size < w4.heap.size := by have hsz := hb4.size; (try simp only [World.size_alloc] at hsz); omega
  have y1_w4 : w2.heap.size ≤ w4.heap.size := Nat.le_of_lt z1_w4
  have hw4 : Below w.heap.size w w4 := bUp hw3 hb4
  go_wp2_with fail
  refine (rfSame text C1 B c1 cap2 _ (HC1.out.keep (bBox _ _)) (HB.out.keep (bUp hw4 (bBox _ _))) (by omega)).mono ?_
  rintro e w5 ⟨rfl, hb5⟩
  obtain ⟨bc_w5, bf_w5⟩ := bcell hb5
  have z0_w5 : w.heap.size < w5.heap.size := by have hsz := hb5.size; (try simp only [World.size_alloc] at hsz); omega
  have y0_w5 : w.heap.size ≤ w5.heap.size := Nat.le_of_lt z0_w5
  have z1_w5 : w2.heap.size < w5.heap.size := by have hsz := hb5.size; (try simp only [World.size_alloc] at hsz); omega
  have y1_w5 : w2.heap.size ≤ w5.heap.size := Nat.le_of_lt z1_w5
  have z2_w5 : w4.heap.size < w5.heap.size := by have hsz := hb5.size; (try simp only [World.size_alloc] at hsz); omega
  have y2_w5 : w4.heap.size ≤ w5.heap.size := Nat.le_of_lt z2_w5
  have hw5 : Below w.heap.size w w5 := bUp (bUp hw4 (bBox _ _)) hb5
  go_wp2_with fail
  refine (H2.out _ hw5).mono ?_
  rintro e w6 ⟨C2, c2, rfl, hC2, hb6⟩
  dsimp only at hC2 ⊢
  have HC2 := Lib.hid hC2
  clear hC2
  obtain ⟨bc_w6, bf_w6⟩ := bcell hb6
  have z0_w6 : w.heap.size < w6.heap.size := by have hsz := hb6.size; (try simp only [World.size_alloc] at hsz); omega
  have y0_w6 : w.heap.size ≤ w6.heap.size := Nat.le_of_lt z0_w6
  have hw6 : Below w.heap.size w w6 := bUp hw5 hb6
  go_wp2_with fail
  refine (H4.out C2 c2 _ (bUp hw6 (bBox _ _)) (HC2.out.keep (bBox _ _))).mono ?_
  rintro e w7 ⟨rfl, hb7⟩
  unfold strFault
  have hw7 : Below w.heap.size w w7 := bUp (bUp hw6 (bBox _ _)) hb7
  go_wp2_with fail
  refine (alive06 _ (HE.out.keep (bUp hw7 (bBox _ _)))).mono ?_
  rintro e w9 ⟨rfl, hb9⟩
  go_wp2_with fail
  go_ret
  exact ⟨rfl, bUp (bUp hw7 (bBox _ _)) hb9⟩

theorem lawBack (zs text : List Int) (A B : Option Addr) (cap cap2 : Nat) (l : List UInt8) (w : World) (hA : IntsAt w A zs) (hl : zs.length ≤ 9223372036854775807) (hB : IntsAt w B text) (hl2 : text.length ≤ 9223372036854775807) (hT : WfInts text) (hl3 : l.length ≤ 9223372036854775807) (hE : Env w) :
    Calls Tryd.prog 9 #[.agg #[.slice A zs.length cap], .slice B text.length cap2, .string ⟨l.toArray⟩] w fun e w' => e = .returned (.bool true) ∧ Below w.heap.size w w' := by
  by_cases h : zs.length ≤ 300
  · by_cases h2 : text.length ≤ 40
    · by_cases h3 : l.length ≤ 60
      · obtain ⟨b, er, n, hv, hk⟩ := backEnc zs text
        obtain ⟨cs, er2, n2, hv2, hk1, hk2⟩ := backDec zs l
        by_cases hx : er = 0 <;> by_cases hy : er2 = 0
        · exact back11 zs text A B cap cap2 l w hA hl hB hl2 hT hl3 hE h h2 h3 hv hv2 hx (hk hx).1 (hk hx).2 hy (hk2 hy).1 (hk2 hy).2.1 (hk2 hy).2.2
        · exact back10 zs text A B cap cap2 l w hA hl hB hl2 hT hl3 hE h h2 h3 hv hv2 hx (hk hx).1 (hk hx).2 hy (hk1 hy)
        · exact back01 zs text A B cap cap2 l w hA hl hB hl2 hT hl3 hE h h2 h3 hv hv2 hx hy (hk2 hy).1 (hk2 hy).2.1 (hk2 hy).2.2
        · exact back00 zs text A B cap cap2 l w hA hl hB hl2 hT hl3 hE h h2 h3 hv hv2 hx hy (hk1 hy)
      · exact backC zs text A B cap cap2 l w hA hl hB hl2 hT hl3 hE h h2 (by omega)
    · exact backB zs text A B cap cap2 l w hA hl hB hl2 hT hl3 hE h (by omega)
  · exact backA zs text A B cap cap2 l w hA hl hB hl2 hT hl3 hE (by omega)
end Go.Proofs.YthpiopjpipdgnaaDoor
