/- The law CharsetRestores: its walk -/
import Derived.Test.YthpiopjpipdgnaaDoorCsR
import Derived.Test.YthpiopjpipdgnaaDoorCsL4
namespace Go.Proofs.YthpiopjpipdgnaaDoor
open Go.RowKit Go.Sort

theorem turn_ba (p t : List UInt8) : (⟨#[10]⟩ : ByteArray) ++ ⟨p.toArray⟩ ++ ⟨t.toArray⟩ = ⟨(10 :: p ++ t).toArray⟩ := by
  have h1 : (⟨#[10]⟩ : ByteArray) ++ ⟨p.toArray⟩ = ⟨([10] ++ p).toArray⟩ := ba_app [10] p
  rw [h1, ba_app]
  rfl
theorem turn_step {ps : List (List UInt8)} {k : Nat} (h : k < ps.length) : turnR (ps.take (k + 1)).reverse = 10 :: piece ps k ++ turnR (ps.take k).reverse := by
  rw [List.take_succ_eq_append_getElem h, List.reverse_append]
  have : piece ps k = ps[k] := by unfold piece; rw [List.getD_eq_getElem?_getD, List.getElem?_eq_getElem h]; rfl
  rw [this]
  rfl
theorem csParsed {l : List UInt8} {zs : List Int} (w : World) (hE : Env w) (hs : l.length ≤ 9223372036854775807) (h : parseC l = (some zs, 0, 0)) :
    Calls Tryd.prog 17 #[.string ⟨l.toArray⟩] w fun e w' => (∃ A c, e = .returned (.tuple #[.agg #[.slice A zs.length c], .agg #[.int .i64 0, .int .i64 0]]) ∧ IntsAt w' A zs) ∧ Below w.heap.size w w' :=
  (csParse l w hE hs).mono fun e w' ho => by
    rw [h] at ho
    obtain ⟨A, c, he, hA, hb⟩ := ho
    exact ⟨⟨A, c, he, hA⟩, hb⟩

set_option maxHeartbeats 1000000 in
set_option maxRecDepth 100000 in
theorem restA (zs : List Int) (A : Option Addr) (cap : Nat) (w : World) (hl : zs.length ≤ 9223372036854775807) (hE : Env w) (h : 300 < zs.length) :
    Calls Tryd.prog 7 #[.agg #[.slice A zs.length cap]] w fun e w' => e = .returned (.bool true) ∧ Below w.heap.size w w' := by
  have hf : fewB zs = false := by simp [fewB]; omega
  have HE := Lib.hid hE
  have Hf := Lib.hid hf
  clear hE hf
  go_enter Tryd.func7, Tryd.ntmps7
  go_wp2_with fail
  refine (csFew zs A cap _ hl).mono ?_
  rintro e w1 ⟨rfl, hb1⟩
  rw [Hf.out]
  have hw1 : Below w.heap.size w w1 := bUp (bBox _ _) hb1
  go_wp2_with fail
  refine (alive06 _ (HE.out.keep hw1)).mono ?_
  rintro e w9 ⟨rfl, hb9⟩
  go_wp2_with fail
  go_ret
  exact ⟨rfl, bUp hw1 hb9⟩

set_option maxHeartbeats 1000000 in
set_option maxRecDepth 100000 in
theorem restB (zs : List Int) (A : Option Addr) (cap : Nat) (w : World) (hA : IntsAt w A zs) (hl : zs.length ≤ 9223372036854775807) (hE : Env w) (h : zs.length ≤ 300) (hc : ¬ checkC zs = 0) :
    Calls Tryd.prog 7 #[.agg #[.slice A zs.length cap]] w fun e w' => e = .returned (.bool true) ∧ Below w.heap.size w w' := by
  have hf : fewB zs = true := by simp [fewB, h]
  have h1 := fun w' (hb : Below w.heap.size w w') => csText zs A cap w' (hA.keep hb) h (hE.keep hb).dig
  have h2 := fun w' (hb : Below w.heap.size w w') => refCheck zs A cap w' (hA.keep hb) h
  rw [show textV zs = strErr [] (checkC zs) by simp [textV, hc]] at h1
  generalize checkC zs = er at h1 h2 hc
  have q1 : (er != 0) = true := by simpa using hc
  have q2 : (er == er) = true := by simp
  have H1 := Lib.hid h1
  have H2 := Lib.hid h2
  have HE := Lib.hid hE
  have Hf := Lib.hid hf
  have Hc := Lib.hid hc
  clear h1 h2 hE hf hc
  clear hA
  go_enter Tryd.func7, Tryd.ntmps7
  go_wp2_with fail
  refine (csFew zs A cap _ hl).mono ?_
  rintro e w1 ⟨rfl, hb1⟩
  rw [Hf.out]
  obtain ⟨bc_w1, bf_w1⟩ := bcell hb1
  have z0_w1 : w.heap.size < w1.heap.size := by have hsz := hb1.size; (try simp only [World.size_alloc] at hsz); omega
  have y0_w1 : w.heap.size ≤ w1.heap.size := Nat.le_of_lt z0_w1
  have x0_w1 : w.heap.size ≤ w1.heap.size + 1 := Nat.le_succ_of_le y0_w1
  have hw1 : Below w.heap.size w w1 := bUp (bBox _ _) hb1
  go_wp2_with fail
  refine (H1.out _ hw1).mono ?_
  rintro e w2 ⟨rfl, hb2⟩
  unfold strErr
  obtain ⟨bc_w2, bf_w2⟩ := bcell hb2
  have z0_w2 : w.heap.size < w2.heap.size := by have hsz := hb2.size; (try simp only [World.size_alloc] at hsz); omega
  have y0_w2 : w.heap.size ≤ w2.heap.size := Nat.le_of_lt z0_w2
  have x0_w2 : w.heap.size ≤ w2.heap.size + 1 := Nat.le_succ_of_le y0_w2
  have hw2 : Below w.heap.size w w2 := bUp hw1 hb2
  go_wp2_with fail
  refine (H2.out _ hw2).mono ?_
  rintro e w3 ⟨rfl, hb3⟩
  have hw3 : Below w.heap.size w w3 := bUp hw2 hb3
  go_wp2_with fail
  refine (alive06 _ (HE.out.keep hw3)).mono ?_
  rintro e w9 ⟨rfl, hb9⟩
  go_wp2_with fail
  go_ret
  exact ⟨rfl, bUp hw3 hb9⟩

set_option maxHeartbeats 2000000 in
set_option maxRecDepth 100000 in
theorem restC (zs : List Int) (A : Option Addr) (cap : Nat) (w : World) (hA : IntsAt w A zs) (hl : zs.length ≤ 9223372036854775807) (hE : Env w) (h : zs.length ≤ 300) (hc : checkC zs = 0) :
    Calls Tryd.prog 7 #[.agg #[.slice A zs.length cap]] w fun e w' => e = .returned (.bool true) ∧ Below w.heap.size w w' := by
  have hf : fewB zs = true := by simp [fewB, h]
  have h1 := fun w' (hb : Below w.heap.size w w') => csText zs A cap w' (hA.keep hb) h (hE.keep hb).dig
  rw [show textV zs = strErr (textFrom zs 0) 0 by simp [textV, hc]] at h1
  obtain ⟨hp1, hp2, htl⟩ := restore hc
  have hsl : (textFrom zs 0).length ≤ 3000 := by have := textFrom_len zs 0; omega
  have hple := splitL_piece_le 10 (textFrom zs 0)
  have hpn : (splitL 10 (textFrom zs 0)).length ≤ 3001 := by rw [splitL_length]; have := List.count_le_length (a := (10 : UInt8)) (l := textFrom zs 0); omega
  generalize textFrom zs 0 = s at h1 hp1 hp2 htl hsl hple hpn
  have h3 := fun w' => rfSplit s w' (by omega)
  generalize splitL 10 s = ps at h3 hp2 htl hple hpn
  have heq := eqFaultSame 0 0
  have H1 := Lib.hid h1
  have H3 := Lib.hid h3
  have HA := Lib.hid hA
  have HE := Lib.hid hE
  have Hf := Lib.hid hf
  have Hc := Lib.hid hc
  have Hple := Lib.hid hple
  have Hp1 := Lib.hid hp1
  have Hp2 := Lib.hid hp2
  clear h1 h3 hA hE hf hc hple hp1 hp2
  go_enter Tryd.func7, Tryd.ntmps7
  go_wp2_with fail
  refine (csFew zs A cap _ hl).mono ?_
  rintro e w1 ⟨rfl, hb1⟩
  rw [Hf.out]
  obtain ⟨bc_w1, bf_w1⟩ := bcell hb1
  have z0_w1 : w.heap.size < w1.heap.size := by have hsz := hb1.size; (try simp only [World.size_alloc] at hsz); omega
  have y0_w1 : w.heap.size ≤ w1.heap.size := Nat.le_of_lt z0_w1
  have x0_w1 : w.heap.size ≤ w1.heap.size + 1 := Nat.le_succ_of_le y0_w1
  have a1 : w1.cell? ⟨w.heap.size, 0, none⟩ = some (.slice A zs.length cap) := by rw [bc_w1 _ _ (by simp)]; exact cell_box _ _ _ 0
  have hw1 : Below w.heap.size w w1 := bUp (bBox _ _) hb1
  go_wp2_with fail
  refine (H1.out _ hw1).mono ?_
  rintro e w2 ⟨rfl, hb2⟩
  unfold strErr
  obtain ⟨bc_w2, bf_w2⟩ := bcell hb2
  have z0_w2 : w.heap.size < w2.heap.size := by have hsz := hb2.size; (try simp only [World.size_alloc] at hsz); omega
  have y0_w2 : w.heap.size ≤ w2.heap.size := Nat.le_of_lt z0_w2
  have x0_w2 : w.heap.size ≤ w2.heap.size + 1 := Nat.le_succ_of_le y0_w2
  have hw2 : Below w.heap.size w w2 := bUp hw1 hb2
  go_wp2_with fail
  refine (H3.out _).mono ?_
  rintro e w3 ⟨⟨C, c, rfl, hstr, _⟩, hb3⟩
  obtain ⟨bc_w3, bf_w3⟩ := bcell hb3
  have z0_w3 : w.heap.size < w3.heap.size := by have hsz := hb3.size; (try simp only [World.size_alloc] at hsz); omega
  have y0_w3 : w.heap.size ≤ w3.heap.size := Nat.le_of_lt z0_w3
  have x0_w3 : w.heap.size ≤ w3.heap.size + 1 := Nat.le_succ_of_le y0_w3
  have hw3 : Below w.heap.size w w3 := bUp hw2 hb3
  have Hstr := Lib.hid hstr
  clear hstr
  go_wp2_with fail
  go_loop [5, 7] (fun t i => ∃ k : Nat, k ≤ ps.length ∧ i = .int .i64 k ∧ t = .string ⟨(turnR (ps.take k).reverse).toArray⟩) (fun _ i => ps.length - (intOf i).toNat)
  case atStart => exact ⟨0, Nat.zero_le _, rfl, rfl⟩
  case round =>
    obtain ⟨k, hk, rfl, rfl⟩ := hrel
    by_cases hlt : k < ps.length
    · obtain ⟨b, off, rfl, hblt, hcp⟩ := (show ∃ b off, C = some ⟨b, off, none⟩ ∧ b < w3.heap.size ∧ w3.cell? ⟨b, off + k, none⟩ = some (.string ⟨(piece ps k).toArray⟩) by
        obtain ⟨b, off, e, h1, h2⟩ := Hstr.out (by omega)
        exact ⟨b, off, e, h1, h2 k hlt⟩)
      have HS := Lib.hid (turn_step hlt)
      have hl1 := Hple.out _ (piece_mem hlt)
      have hl2 : (turnR (ps.take k).reverse).length ≤ 10000000 := by
        have h1 := turnR_len (m := 3000) (ps.take k).reverse (fun p hp => Nat.le_trans (Hple.out p (List.mem_of_mem_take (List.mem_reverse.1 hp))) hsl)
        rw [List.length_reverse, List.length_take] at h1
        omega
      generalize turnR (ps.take k).reverse = t at HS hl2
      generalize piece ps k = pk at HS hl1 hcp
      go_wp2_with fail
      go_round
      case rel => exact ⟨k + 1, by omega, by go_num, by rw [HS.out, turn_ba]⟩
      case measure => simp [intOf]; omega
    · obtain rfl : k = ps.length := by omega
      rw [List.take_length]
      generalize turnR ps.reverse = t at htl Hp2
      go_wp2_with fail
      refine (csParsed _ (HE.out.keep hw3) (by omega) Hp1.out).mono ?_
      rintro e w4 ⟨⟨C1, c1, rfl, hC1⟩, hb4⟩
      have HC1 := Lib.hid hC1
      clear hC1
      obtain ⟨bc_w4, bf_w4⟩ := bcell hb4
      have z0_w4 : w.heap.size < w4.heap.size := by have hsz := hb4.size; (try simp only [World.size_alloc] at hsz); omega
      have y0_w4 : w.heap.size ≤ w4.heap.size := Nat.le_of_lt z0_w4
      have x0_w4 : w.heap.size ≤ w4.heap.size + 1 := Nat.le_succ_of_le y0_w4
      have a4 := cell_keep (bUp (bUp hb2 hb3) hb4) a1
      have hw4 : Below w.heap.size w w4 := bUp hw3 hb4
      have hw5 : Below w.heap.size w ((w4.alloc (.cells #[.slice C1 zs.length c1] 24)).alloc (.cells #[.int .i64 0, .int .i64 0] 30)) := bUp (bUp hw4 (bBox _ _)) (bBox _ _)
      go_wp2_with fail
      refine (csParsed _ (HE.out.keep hw5) (by omega) Hp2.out).mono ?_
      rintro e w6 ⟨⟨C2, c2, rfl, hC2⟩, hb6⟩
      have HC2 := Lib.hid hC2
      clear hC2
      obtain ⟨bc_w6, bf_w6⟩ := bcell hb6
      have z0_w6 : w.heap.size < w6.heap.size := by have hsz := hb6.size; (try simp only [World.size_alloc] at hsz); omega
      have y0_w6 : w.heap.size ≤ w6.heap.size := Nat.le_of_lt z0_w6
      have x0_w6 : w.heap.size ≤ w6.heap.size + 1 := Nat.le_succ_of_le y0_w6
      have z1_w6 : w4.heap.size < w6.heap.size := by have hsz := hb6.size; (try simp only [World.size_alloc] at hsz); omega
      have y1_w6 : w4.heap.size ≤ w6.heap.size := Nat.le_of_lt z1_w6
      have x1_w6 : w4.heap.size ≤ w6.heap.size + 1 := Nat.le_succ_of_le y1_w6
      have z2_w6 : w4.heap.size + 1 < w6.heap.size := by have hsz := hb6.size; (try simp only [World.size_alloc] at hsz); omega
      have y2_w6 : w4.heap.size + 1 ≤ w6.heap.size := Nat.le_of_lt z2_w6
      have x2_w6 : w4.heap.size + 1 ≤ w6.heap.size + 1 := Nat.le_succ_of_le y2_w6
      have a6 := cell_keep (bUp (bUp (bBox _ _) (bBox _ _)) hb6) a4
      have n6 : w6.heap.size ≠ w.heap.size := by omega
      have n7 : w6.heap.size + 1 ≠ w.heap.size := by omega
      have hw6 : Below w.heap.size w w6 := bUp hw5 hb6
      have hw7 : Below w.heap.size w ((w6.alloc (.cells #[.slice C2 zs.length c2] 24)).alloc (.cells #[.int .i64 0, .int .i64 0] 30)) := bUp (bUp hw6 (bBox _ _)) (bBox _ _)
      have HC1' := Lib.hid (HC1.out.keep (bUp (bUp (bUp (bUp (bBox _ _) (bBox _ _)) hb6) (bBox w6 (.cells #[.slice C2 zs.length c2] 24))) (bBox _ (.cells #[.int .i64 0, .int .i64 0] 30))))
      have HC2' := Lib.hid (HC2.out.keep (bUp (bBox w6 (.cells #[.slice C2 zs.length c2] 24)) (bBox _ (.cells #[.int .i64 0, .int .i64 0] 30))))
      go_wp2_with fail
      refine (rfSame zs C1 A c1 cap _ HC1'.out (HA.out.keep hw7) (by omega)).mono ?_
      rintro e w8 ⟨rfl, hb8⟩
      obtain ⟨bc_w8, bf_w8⟩ := bcell hb8
      have z0_w8 : w.heap.size < w8.heap.size := by have hsz := hb8.size; (try simp only [World.size_alloc] at hsz); omega
      have y0_w8 : w.heap.size ≤ w8.heap.size := Nat.le_of_lt z0_w8
      have x0_w8 : w.heap.size ≤ w8.heap.size + 1 := Nat.le_succ_of_le y0_w8
      have z1_w8 : w4.heap.size < w8.heap.size := by have hsz := hb8.size; (try simp only [World.size_alloc] at hsz); omega
      have y1_w8 : w4.heap.size ≤ w8.heap.size := Nat.le_of_lt z1_w8
      have x1_w8 : w4.heap.size ≤ w8.heap.size + 1 := Nat.le_succ_of_le y1_w8
      have z2_w8 : w4.heap.size + 1 < w8.heap.size := by have hsz := hb8.size; (try simp only [World.size_alloc] at hsz); omega
      have y2_w8 : w4.heap.size + 1 ≤ w8.heap.size := Nat.le_of_lt z2_w8
      have x2_w8 : w4.heap.size + 1 ≤ w8.heap.size + 1 := Nat.le_succ_of_le y2_w8
      have z3_w8 : w6.heap.size < w8.heap.size := by have hsz := hb8.size; (try simp only [World.size_alloc] at hsz); omega
      have y3_w8 : w6.heap.size ≤ w8.heap.size := Nat.le_of_lt z3_w8
      have x3_w8 : w6.heap.size ≤ w8.heap.size + 1 := Nat.le_succ_of_le y3_w8
      have z4_w8 : w6.heap.size + 1 < w8.heap.size := by have hsz := hb8.size; (try simp only [World.size_alloc] at hsz); omega
      have y4_w8 : w6.heap.size + 1 ≤ w8.heap.size := Nat.le_of_lt z4_w8
      have x4_w8 : w6.heap.size + 1 ≤ w8.heap.size + 1 := Nat.le_succ_of_le y4_w8
      have a8 := cell_keep (bUp (bUp (bBox _ _) (bBox _ _)) hb8) a6
      have hw8 : Below w.heap.size w w8 := bUp hw7 hb8
      go_wp2_with fail
      refine (rfSame zs C2 A c2 cap _ (HC2'.out.keep hb8) (HA.out.keep hw8) (by omega)).mono ?_
      rintro e w9 ⟨rfl, hb9⟩
      have hw9 : Below w.heap.size w w9 := bUp hw8 hb9
      go_wp2_with fail
      refine (alive06 _ (HE.out.keep hw9)).mono ?_
      rintro e w10 ⟨rfl, hb10⟩
      go_wp2_with fail
      go_ret
      exact ⟨rfl, bUp hw9 hb10⟩

theorem lawRestores (zs : List Int) (A : Option Addr) (cap : Nat) (w : World) (hA : IntsAt w A zs) (hl : zs.length ≤ 9223372036854775807) (hE : Env w) :
    Calls Tryd.prog 7 #[.agg #[.slice A zs.length cap]] w fun e w' => e = .returned (.bool true) ∧ Below w.heap.size w w' := by
  by_cases h : zs.length ≤ 300
  · by_cases hc : checkC zs = 0
    · exact restC zs A cap w hA hl hE h hc
    · exact restB zs A cap w hA hl hE h hc
  · exact restA zs A cap w hl hE (by omega)
end Go.Proofs.YthpiopjpipdgnaaDoor
