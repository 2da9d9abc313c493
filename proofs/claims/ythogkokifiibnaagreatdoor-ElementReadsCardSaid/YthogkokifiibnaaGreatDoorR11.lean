/- The reference: entry -/
import Derived.Test.YthogkokifiibnaaGreatDoorR10
import Derived.Test.YthogkokifiibnaaGreatDoorR4
namespace Go.Proofs.YthogkokifiibnaaGreatDoor
open Go.RowKit Go.Sort

theorem entP_hit {l : List UInt8} {k : Nat} (h : Lib.index l [59, 32] = (k : Int)) : entP l = if (parseCodesR (seg l 0 k)).2 ≠ 0 then none else (readE (l.drop (k + 2))).map fun es => ⟨(parseCodesR (seg l 0 k)).1, es⟩ := by
  unfold entP
  rw [cut_hit h, seg_zero]
  rfl
theorem entP_miss {l : List UInt8} (h : Lib.index l [59, 32] = -1) : entP l = none := by
  unfold entP
  rw [cut_miss h]
  rfl
theorem shI_zero (n : Int) : shI 0 n = n := by
  unfold shI
  by_cases h : n = -1
  · rw [if_pos h, h]
  · rw [if_neg h]
    simp
theorem shI_hit (k : Nat) : shI k 0 = (k : Int) := by
  unfold shI
  rw [if_neg (by decide)]
  simp
/-- what entry gives back -/
def EntOutR (l : List UInt8) (w : World) (e : Ending) (w' : World) : Prop :=
  ∃ (A1 A2 : Option Addr) (c1 c2 : Nat) (cs : List Int) (es : List ElemD), e = .returned (.tuple #[.agg #[.slice A1 cs.length c1, .slice A2 es.length c2], .bool (entP l).isSome]) ∧ OwnI w' w.heap.size (.slice A1 cs.length c1) cs ∧ OwnE w' w.heap.size (.slice A2 es.length c2) es ∧ (∀ x, entP l = some x → x = ⟨cs, es⟩) ∧ Below w.heap.size w w' ∧ cs.length ≤ 70000 ∧ es.length ≤ 70000
theorem own_two {w1 : World} {N base : Nat} {A1 A2 : Option Addr} {c1 c2 : Nat} {cs : List Int} {es : List ElemD} {bx : Array Value} (hB : Blk w1 N bx 50) (h1 : OwnI w1 base (.slice A1 cs.length c1) cs) (h2 : OwnE w1 base (.slice A2 es.length c2) es) (u0 u1 : Value) :
    OwnI ((w1.setCell ⟨N, 0, none⟩ u0).setCell ⟨N, 1, none⟩ u1) base (.slice A1 cs.length c1) cs ∧ OwnE ((w1.setCell ⟨N, 0, none⟩ u0).setCell ⟨N, 1, none⟩ u1) base (.slice A2 es.length c2) es :=
  ⟨ownsRow_keptT (ownsRow_keptT h1 (KeptT.set hB (by decide) 0 u0)) (KeptT.set (hB.put 0 u0) (by decide) 1 u1), ownsRow_keptT (ownsRow_keptT h2 (KeptT.set hB (by decide) 0 u0)) (KeptT.set (hB.put 0 u0) (by decide) 1 u1)⟩

set_option maxHeartbeats 2000000 in
set_option maxRecDepth 100000 in
theorem rfEntry (l : List UInt8) (w : World) (hl : l.length ≤ 65536) :
    Calls Tryz.prog 46 #[.string ⟨l.toArray⟩] w (EntOutR l w) := by
  go_enter Tryz.func46, Tryz.ntmps46
  go_wp2_with fail
  have hBx := Blk.new w #[.slice none 0 0, .slice none 0 0] 50
  have hw1 := bBox w (.cells #[.slice none 0 0, .slice none 0 0] 50)
  have hz1 : w.heap.size ≤ (w.alloc (.cells #[.slice none 0 0, .slice none 0 0] 50)).heap.size := hw1.size
  generalize w.alloc (.cells #[.slice none 0 0, .slice none 0 0] 50) = w1 at hBx hw1 hz1 ⊢
  have HB := Lib.hid hBx
  have HW := Lib.hid hw1
  clear hBx hw1
  go_loop [4] (fun i => ∃ k : Nat, k ≤ l.length ∧ i = .int .i64 k ∧ Hid (Lib.index l [59, 32] = shI k (Lib.index (l.drop k) [59, 32]))) (fun i => l.length - (intOf i).toNat)
  case atStart => exact ⟨0, Nat.zero_le _, rfl, Lib.hid (by rw [shI_zero]; rfl)⟩
  case round =>
    obtain ⟨k, hk, rfl, HI⟩ := hrel
    by_cases hlt : k + 1 < l.length
    · have hki : (k : Int) + 1 < l.length := by omega
      have hki0 : (k : Int) < l.length := by omega
      have hbt := btN_lt l k
      have hbt1 := btN_lt l (k + 1)
      have hi1 : ∀ w', (Instr.index 9 (.string ⟨l.toArray⟩) (.int .i64 ((k : Int) + 1))).run Tryz.prog w' = .ok (.int .u8 (btN l (k + 1))) w' := fun w' => by
        have := idxAt l (j := k + 1) hlt w'
        rwa [show ((k + 1 : Nat) : Int) = (k : Int) + 1 by omega] at this
      by_cases h59 : btN l k = 59
      · have e1 : ((btN l k : Int) == 59) = true := by simp; omega
        by_cases h32 : btN l (k + 1) = 32
        · have e2 : ((btN l (k + 1) : Int) == 32) = true := by simp; omega
          have hix : Lib.index l [59, 32] = (k : Int) := by rw [HI.out, semi_hit hlt h59 h32, shI_hit]
          have hE := entP_hit hix
          have hs1 := strHi l (j := k) (by omega)
          have hs2 : ∀ w', (Instr.slice 9 (.string ⟨l.toArray⟩) (some (.int .i64 ((k : Int) + 2))) none none).run Tryz.prog w' = .ok (.string ⟨(l.drop (k + 2)).toArray⟩) w' := fun w' => by
            have := strLo l (j := k + 2) (by omega) w'
            rwa [show ((k + 2 : Nat) : Int) = (k : Int) + 2 by omega] at this
          have HP := Lib.hid (fun w' => rfParseCodes (seg l 0 k) w' (by rw [seg_length (by omega)]; omega))
          have HF := Lib.hid (fun w' => rfForm (l.drop (k + 2)) w' (by simp; omega))
          have hpl := parseCodes_len (seg l 0 k)
          have hsl : (seg l 0 k).length ≤ 65536 := by rw [seg_length (by omega)]; omega
          have hdl : (l.drop (k + 2)).length ≤ 65536 := by simp; omega
          unfold IntsErr at HP
          unfold ReadOut at HF
          generalize seg l 0 k = x1 at hs1 HP hpl hE hsl
          generalize parseCodesR x1 = pr at HP hpl hE
          obtain ⟨cs, er⟩ := pr
          dsimp only at HP hpl hE
          generalize l.drop (k + 2) = x2 at hs2 HF hE hdl
          have hkk : (k : Int) + 2 ≤ 70000 := by omega
          cases hr : readE x2 with
          | none =>
            rw [hr] at HF hE
            have HN := Lib.hid (show entP l = none by rw [hE]; split <;> rfl)
            have H59 := Lib.hid h59
            have H32 := Lib.hid h32
            have Hix := Lib.hid hix
            have Hr := Lib.hid hr
            have HE := Lib.hid hE
            have Hpl := Lib.hid hpl
            have Hsl := Lib.hid hsl
            have Hdl := Lib.hid hdl
            clear h59 h32 hix hr hE hpl hsl hdl
            clear HI
            go_wp2_with fail
            refine (HP.out _).mono ?_
            rintro e w2 ⟨A1, c1, rfl, hO2, hb2⟩
            have HO2 := Lib.hid (hO2.mono hz1)
            clear hO2
            go_wp2_with fail
            refine (HF.out _).mono ?_
            rintro e w3 ⟨rfl, hb3⟩
            have HB3 := Lib.hid ((HB.out.keep hb2).keep hb3)
            have HW3 := Lib.hid (bUp (bUp HW.out hb2) hb3)
            have HO3 := Lib.hid (HO2.out.keep hb3)
            clear hb2 hb3
            have a0 := HB3.out.cell 0
            have a1 := HB3.out.cell 1
            have f0 := HB3.out.frozen 0
            have f1 := HB3.out.frozen 1
            go_wp2_with fail
            refine bodyPost_ret (v := .tuple #[.agg #[.slice A1 cs.length c1, .slice none 0 0], .bool false]) (by simp [results, Tryz.results46, go_sem, a0, a1]) rfl ?_
            have h2 := own_two HB3.out HO3.out (OwnE.nil w3 w.heap.size) (.slice A1 cs.length c1) (.slice none 0 0)
            exact ⟨A1, none, c1, 0, cs, [], by rw [HN.out]; rfl, h2.1, h2.2, (fun x h => by rw [HN.out] at h; cases h), (HW3.out.setCell (p := ⟨w.heap.size, 0, none⟩) (Nat.le_refl _) _).setCell (p := ⟨w.heap.size, 1, none⟩) (Nat.le_refl _) _, by have := Hpl.out; have := Hsl.out; omega, by simp⟩
          | some es =>
            rw [hr] at HF hE
            have hel := readE_len x2.length (Nat.le_refl _) hr
            have hel2 : es.length ≤ 70000 := by omega
            have heb : ∃ eb : Bool, (er == 0) = eb := ⟨_, rfl⟩
            obtain ⟨eb, heb⟩ := heb
            have HN := Lib.hid (show (entP l).isSome = eb by rw [hE, ← heb]; by_cases h0 : er = 0 <;> simp [h0])
            have HVal := Lib.hid (show ∀ x, entP l = some x → x = ⟨cs, es⟩ from fun x hx => by
              rw [hE] at hx
              split at hx
              · cases hx
              · simp at hx
                exact hx.symm)
            have H59 := Lib.hid h59
            have H32 := Lib.hid h32
            have Hix := Lib.hid hix
            have Hr := Lib.hid hr
            have HE := Lib.hid hE
            have Hpl := Lib.hid hpl
            have Hsl := Lib.hid hsl
            have Hdl := Lib.hid hdl
            have Hel := Lib.hid hel
            clear h59 h32 hix hr hE hpl hsl hdl hel
            clear HI
            go_wp2_with fail
            refine (HP.out _).mono ?_
            rintro e w2 ⟨A1, c1, rfl, hO2, hb2⟩
            have HO2 := Lib.hid (hO2.mono hz1)
            have hz2 : w.heap.size ≤ w2.heap.size := by have := hb2.size; omega
            clear hO2
            go_wp2_with fail
            refine (HF.out _).mono ?_
            rintro e w3 ⟨⟨A2, c2, rfl, hE3⟩, hb3⟩
            have HB3 := Lib.hid ((HB.out.keep hb2).keep hb3)
            have HW3 := Lib.hid (bUp (bUp HW.out hb2) hb3)
            have HO3 := Lib.hid (HO2.out.keep hb3)
            have HE3 := Lib.hid (hE3.mono hz2)
            clear hb2 hb3 hE3
            have a0 := HB3.out.cell 0
            have a1 := HB3.out.cell 1
            have f0 := HB3.out.frozen 0
            have f1 := HB3.out.frozen 1
            go_wp2_with fail
            refine bodyPost_ret (v := .tuple #[.agg #[.slice A1 cs.length c1, .slice A2 es.length c2], .bool eb]) (by simp [results, Tryz.results46, go_sem, a0, a1]) rfl ?_
            have h2 := own_two HB3.out HO3.out HE3.out (.slice A1 cs.length c1) (.slice A2 es.length c2)
            exact ⟨A1, A2, c1, c2, cs, es, by rw [HN.out], h2.1, h2.2, HVal.out, (HW3.out.setCell (p := ⟨w.heap.size, 0, none⟩) (Nat.le_refl _) _).setCell (p := ⟨w.heap.size, 1, none⟩) (Nat.le_refl _) _, by have := Hpl.out; have := Hsl.out; omega, hel2⟩
        · have e2 : ((btN l (k + 1) : Int) == 32) = false := by simp; omega
          have HI2 := Lib.hid (show Lib.index l [59, 32] = shI (k + 1) (Lib.index (l.drop (k + 1)) [59, 32]) by rw [HI.out, semi_miss hlt (fun h => h32 h.2), shI_shI _ _ (Lib.index_ge _ _)])
          have H59 := Lib.hid h59
          have H32 := Lib.hid h32
          clear h59 h32
          clear HI
          go_wp2_with fail
          go_round
          case rel => exact ⟨k + 1, by omega, by go_num, HI2⟩
          case measure => simp [intOf]; omega
      · have e1 : ((btN l k : Int) == 59) = false := by simp; omega
        have HI2 := Lib.hid (show Lib.index l [59, 32] = shI (k + 1) (Lib.index (l.drop (k + 1)) [59, 32]) by rw [HI.out, semi_miss hlt (fun h => h59 h.1), shI_shI _ _ (Lib.index_ge _ _)])
        have H59 := Lib.hid h59
        clear h59
        clear HI
        go_wp2_with fail
        go_round
        case rel => exact ⟨k + 1, by omega, by go_num, HI2⟩
        case measure => simp [intOf]; omega
    · have hki : ¬ (k : Int) + 1 < l.length := by omega
      have HN := Lib.hid (entP_miss (l := l) (by rw [HI.out, semi_end (by omega)]; rfl))
      have a0 := HB.out.cell 0
      have a1 := HB.out.cell 1
      have f0 := HB.out.frozen 0
      have f1 := HB.out.frozen 1
      clear HI
      go_wp2_with fail
      refine bodyPost_ret (v := .tuple #[.agg #[.slice none 0 0, .slice none 0 0], .bool false]) (by simp [results, Tryz.results46, go_sem, a0, a1]) rfl ?_
      exact ⟨none, none, 0, 0, [], [], by rw [HN.out]; rfl, OwnI.nil _ _, OwnE.nil _ _, (fun x h => by rw [HN.out] at h; cases h), (HW.out.setCell (p := ⟨w.heap.size, 0, none⟩) (Nat.le_refl _) _).setCell (p := ⟨w.heap.size, 1, none⟩) (Nat.le_refl _) _, by simp, by simp⟩
end Go.Proofs.YthogkokifiibnaaGreatDoor
