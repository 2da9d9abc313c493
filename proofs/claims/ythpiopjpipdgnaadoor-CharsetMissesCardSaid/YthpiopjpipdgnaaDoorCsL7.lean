/- The law CharsetMisses: its walk -/
import Derived.Test.YthpiopjpipdgnaaDoorCsM3
import Derived.Test.YthpiopjpipdgnaaDoorCsB
namespace Go.Proofs.YthpiopjpipdgnaaDoor
open Go.RowKit Go.Sort

theorem missEnc (zs text : List Int) : ∃ b er n, encV zs text 1 (idxF zs) = strFault b er n ∧ (er == 11) = (checkC zs != 0) ∧ (er == 10) = decide (0 < (missR zs text).length) := by
  by_cases hc : checkC zs = 0
  · have e : missR zs text = missFrom (byteF zs) text [] := by simp [missR, hc]
    rw [idxF_eq hc]
    have e2 : encV zs text 1 (byteF zs) = encFrom (byteF zs) 1 text 0 [] := by simp [encV, hc, polB]
    rw [e2, e]
    by_cases ha : ∀ x ∈ text, (byteF zs x).isSome = true
    · refine ⟨_, 0, 0, encAll _ _ _ _ ha, by simp [hc], ?_⟩
      have : missFrom (byteF zs) text [] = [] := by
        refine List.eq_nil_iff_forall_not_mem.2 fun y hy => ?_
        rcases (missFrom_mem _ y text []).1 hy with h | ⟨h1, h2⟩
        · cases h
        · rw [ha y h1] at h2; cases h2
      simp [this]
    · have hx : ∃ x ∈ text, (byteF zs x).isSome = false := by
        refine Decidable.byContradiction fun hno => ha fun x hx => ?_
        cases hb : (byteF zs x).isSome
        · exact absurd ⟨x, hx, hb⟩ hno
        · rfl
      obtain ⟨n, hn⟩ := encStop (byteF zs) text 0 [] hx
      refine ⟨[], 10, n, hn, by simp [hc], ?_⟩
      obtain ⟨x, h1, h2⟩ := hx
      have := List.length_pos_of_mem ((missFrom_mem (byteF zs) x text []).2 (.inr ⟨h1, h2⟩))
      simp [this]
  · refine ⟨[], 11, 0, by simp [encV, hc], by simp [hc], ?_⟩
    simp [missR, hc]
theorem missR_len (zs text : List Int) : (missR zs text).length ≤ text.length := by
  unfold missR
  split
  · simp
  · have := missFrom_len (byteF zs) text []
    simpa using this

set_option maxHeartbeats 1000000 in
set_option maxRecDepth 100000 in
theorem lawMisses (zs text : List Int) (A B : Option Addr) (cap cap2 : Nat) (w : World) (hA : IntsAt w A zs) (hl : zs.length ≤ 9223372036854775807) (hB : IntsAt w B text) (hl2 : text.length ≤ 9223372036854775807) (hT : WfInts text) (hE : Env w) :
    Calls Tryd.prog 10 #[.agg #[.slice A zs.length cap], .slice B text.length cap2] w fun e w' => e = .returned (.bool true) ∧ Below w.heap.size w w' := by
  by_cases h : zs.length ≤ 300
  · have hf : fewB zs = true := by simp [fewB, h]
    by_cases h40 : text.length ≤ 40
    · have hg : decide ((40 : Int) < (text.length : Int)) = false := by simp; omega
      obtain ⟨b, er, n, hv, h11, h10⟩ := missEnc zs text
      have h1 := fun w' (hb : Below w.heap.size w w') => csEncode zs text A B cap cap2 1 w' (hA.keep hb) h (hB.keep hb) (by omega) hT (hE.keep hb).dig
      have h2 := fun w' (hb : Below w.heap.size w w') => csMissing zs text A B cap cap2 w' (hA.keep hb) h (hB.keep hb) (by omega) hT
      have h3 := fun w' (hb : Below w.heap.size w w') => rfMissing zs text A B cap cap2 w' (hA.keep hb) h (hB.keep hb) (by omega)
      have h4 := fun w' (hb : Below w.heap.size w w') => refCheck zs A cap w' (hA.keep hb) h
      have hrl := missR_len zs text
      rw [hv] at h1
      generalize missR zs text = r at h2 h3 hrl h10
      generalize checkC zs = ck at h11 h4
      obtain ⟨bb, hbb⟩ : ∃ bb, (ck != 0) = bb := ⟨_, rfl⟩
      obtain ⟨cc, hcc⟩ : ∃ cc, decide (0 < r.length) = cc := ⟨_, rfl⟩
      rw [hbb] at h11
      rw [hcc] at h10
      have hcc' : decide ((0 : Int) < (r.length : Int)) = cc := by rw [← hcc]; simp
      have H1 := Lib.hid h1
      have H2 := Lib.hid h2
      have H3 := Lib.hid h3
      have H4 := Lib.hid h4
      have HA := Lib.hid hA
      have HB := Lib.hid hB
      have HT := Lib.hid hT
      have HE := Lib.hid hE
      have Hf := Lib.hid hf
      have Hv := Lib.hid hv
      clear h1 h2 h3 h4 hA hB hT hE hf hv
      go_enter Tryd.func10, Tryd.ntmps10
      go_wp2_with fail
      refine (csFew zs A cap _ hl).mono ?_
      rintro e w1 ⟨rfl, hb1⟩
      rw [Hf.out]
      have a1 := ((Blk.new w #[.slice A zs.length cap] 24).keep hb1).cell 0
      have hw1 : Below w.heap.size w w1 := bUp (bBox _ _) hb1
      go_wp2_with fail
      refine (H2.out _ hw1).mono ?_
      rintro e w2 ⟨C, c, rfl, hC, hb2⟩
      have a2 := cell_keep hb2 (show w1.cell? ⟨w.heap.size, 0, none⟩ = some (.slice A zs.length cap) from a1)
      have hw2 : Below w.heap.size w w2 := bUp hw1 hb2
      have HC := Lib.hid hC
      clear hC
      clear a1
      go_wp2_with fail
      refine (H3.out _ hw2).mono ?_
      rintro e w3 ⟨D, d, rfl, hD, hb3⟩
      have a3 := cell_keep hb3 a2
      have hw3 : Below w.heap.size w w3 := bUp hw2 hb3
      have HD := Lib.hid hD
      clear hD
      clear a2
      go_wp2_with fail
      refine (rfSame r C D c d _ (HC.out.keep hb3) HD.out (by omega)).mono ?_
      rintro e w4 ⟨rfl, hb4⟩
      have a4 := cell_keep hb4 a3
      have hw4 : Below w.heap.size w w4 := bUp hw3 hb4
      clear a3
      go_wp2_with fail
      refine (H1.out _ hw4).mono ?_
      rintro e w5 ⟨rfl, hb5⟩
      unfold strFault
      have a5 := cell_keep (bUp hb5 (bBox w5 (.cells #[.int .i64 er, .int .i64 n] 30))) a4
      have a50 := cell_keep hb5 a4
      have f5 := cell_box w5 #[.int .i64 er, .int .i64 n] 30 0
      have hw5 : Below w.heap.size w (w5.alloc (.cells #[.int .i64 er, .int .i64 n] 30)) := bUp (bUp hw4 hb5) (bBox _ _)
      clear a4
      have cC := callsQ (w := w5.alloc (.cells #[.int .i64 er, .int .i64 n] 30)) (fun w' hb => H4.out w' (bUp hw5 hb))
      have cA := callsQ (w := w5.alloc (.cells #[.int .i64 er, .int .i64 n] 30)) (fun w' hb => alive06 w' (HE.out.keep (bUp hw5 hb)))
      have k0 := cell_regrown a5
      have k1 := cell_regrown (show (w5.alloc (.cells #[.int .i64 er, .int .i64 n] 30)).cell? ⟨w5.heap.size, 0, none⟩ = some (.int .i64 er) from f5)
      have CC := Lib.hid cC
      have CA := Lib.hid cA
      clear cC cA
      go_wp2_with fail
      generalize hW : w5.alloc (.cells #[.int .i64 er, .int .i64 n] 30) = W at hw5 CC CA k0 k1 ⊢
      clear hW
      refine wp_region_quiet_below (by kernel_rfl) (by kernel_rfl) ?_
      repeat (go_big_quiet_step (first | exact CC.out _ _ | exact CA.out _ _))
      refine wpQuiet_nil ?_
      rintro _ ⟨⟨dq, osq⟩, rfl⟩
      have hb6 := below_regrown W dq osq
      generalize grow (redrawn W dq) osq = w6 at hb6 ⊢
      go_wp2_with fail
      go_ret
      exact ⟨rfl, bUp hw5 hb6⟩
    · have hg : decide ((40 : Int) < (text.length : Int)) = true := by simp; omega
      have HA := Lib.hid hA
      have HB := Lib.hid hB
      have HT := Lib.hid hT
      have HE := Lib.hid hE
      have Hf := Lib.hid hf
      clear hA hB hT hE hf
      go_enter Tryd.func10, Tryd.ntmps10
      go_wp2_with fail
      refine (csFew zs A cap _ hl).mono ?_
      rintro e w1 ⟨rfl, hb1⟩
      rw [Hf.out]
      have hbw1 : Below w.heap.size w w1 := bUp (bBox _ _) hb1
      go_wp2_with fail
      refine (alive06 _ (HE.out.keep hbw1)).mono ?_
      rintro e w4 ⟨rfl, hb4⟩
      go_wp2_with fail
      go_ret
      exact ⟨rfl, bUp hbw1 hb4⟩
  · have hf : fewB zs = false := by simp [fewB, h]
    have HA := Lib.hid hA
    have HB := Lib.hid hB
    have HT := Lib.hid hT
    have HE := Lib.hid hE
    have Hf := Lib.hid hf
    clear hA hB hT hE hf
    go_enter Tryd.func10, Tryd.ntmps10
    go_wp2_with fail
    refine (csFew zs A cap _ hl).mono ?_
    rintro e w1 ⟨rfl, hb1⟩
    rw [Hf.out]
    have hbw1 : Below w.heap.size w w1 := bUp (bBox _ _) hb1
    go_wp2_with fail
    refine (alive06 _ (HE.out.keep hbw1)).mono ?_
    rintro e w4 ⟨rfl, hb4⟩
    go_wp2_with fail
    go_ret
    exact ⟨rfl, bUp hbw1 hb4⟩
end Go.Proofs.YthpiopjpipdgnaaDoor
