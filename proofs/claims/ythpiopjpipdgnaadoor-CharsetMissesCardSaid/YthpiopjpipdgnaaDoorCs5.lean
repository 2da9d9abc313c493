/- charset.Encode -/
import Derived.Test.YthpiopjpipdgnaaDoorCs4
namespace Go.Proofs.YthpiopjpipdgnaaDoor
open Go.RowKit Go.Sort

/-- a string and a fault -/
def strFault (l : List UInt8) (e i : Int) : Value := .tuple #[.string ⟨l.toArray⟩, .agg #[.int .i64 e, .int .i64 i]]
/-- what becomes of an element without a byte -/
def missL (f : Int → Option Int) (pol x : Int) : List UInt8 :=
  if pol = 2 then (if (f 63).isSome then putL f 63 else putL f 26) else if pol = 4 then putsL f (escL x) else []
def encFrom (f : Int → Option Int) (pol : Int) : List Int → Nat → List UInt8 → Value
  | [], _, acc => strFault acc 0 0
  | x :: r, i, acc => if (f x).isSome then encFrom f pol r (i + 1) (acc ++ putL f x) else if pol = 1 then strFault [] 10 i else encFrom f pol r (i + 1) (acc ++ missL f pol x)
def polB (pol : Int) : Bool := decide (1 ≤ pol ∧ pol ≤ 4)
def encV (zs text : List Int) (pol : Int) (f : Int → Option Int) : Value :=
  if checkC zs ≠ 0 then strFault [] 11 0 else if polB pol = false then strFault [] 8 0 else encFrom f pol text 0 []

theorem putL_none {f : Int → Option Int} {x : Int} (h : (f x).isSome = false) : putL f x = [] := by
  unfold putL; cases hf : f x with
  | none => rfl
  | some c => rw [hf] at h; simp at h
theorem missL_le (f : Int → Option Int) (pol x : Int) : (missL f pol x).length ≤ 10 := by
  have h1 := putL_le f 63
  have h2 := putL_le f 26
  have h3 := putsL_le f (escL x)
  have h4 := escL_le x
  unfold missL
  split
  · split <;> omega
  · split
    · omega
    · simp
theorem csKnown (c : Int) (w : World) : Calls Tryd.prog 30 #[.int .i64 c] w fun e w' => e = .returned (.bool (polB c)) ∧ w = w' := by
  by_cases h1 : 1 ≤ c <;> by_cases h2 : c ≤ 4
  all_goals
    go_enter Tryd.func30, Tryd.ntmps30
    go_wp2
    go_ret
    exact ⟨by simp [polB, h1, h2], rfl⟩

theorem codes_of_check {zs : List Int} (h : checkC zs = 0) : zs.length = 256 ∧ rangeBad zs = false ∧ twiceFrom zs zs 0 = false := by
  unfold checkC at h
  by_cases h1 : zs.length = 256
  · cases h2 : rangeBad zs
    · cases h3 : twiceFrom zs zs 0
      · exact ⟨h1, rfl, rfl⟩
      · simp [h1, h2, h3] at h
    · simp [h1, h2] at h
  · simp [h1] at h
theorem codes_ok {zs : List Int} (h : rangeBad zs = false) : Codes zs := fun z hz => by
  rcases wf_of_range h z hz with h | ⟨h1, h2, _⟩
  · exact .inl h
  · exact .inr ⟨h1, h2⟩

theorem idxOf_byte : ∀ (zs : List Int) (i : Nat) (f : Int → Option Int), (∀ x c, f x = some c → 0 ≤ c ∧ c ≤ 255) → i + zs.length ≤ 256 → ∀ x c, idxOf zs i f x = some c → 0 ≤ c ∧ c ≤ 255
  | [], _, f, hf, _, x, c, h => hf x c h
  | z :: r, i, f, hf, hl, x, c, h => by
    simp only [List.length_cons] at hl
    refine idxOf_byte r (i + 1) _ ?_ (by omega) x c h
    intro y d hd
    split at hd
    · exact hf y d hd
    · dsimp only at hd
      split at hd
      · cases hd; omega
      · exact hf y d hd

set_option maxHeartbeats 4000000 in
set_option maxRecDepth 100000 in
theorem csEncode (zs text : List Int) (A B : Option Addr) (cap cap2 : Nat) (pol : Int) (w : World) (hA : IntsAt w A zs) (hl : zs.length ≤ 300) (hB : IntsAt w B text) (hl2 : text.length ≤ 100) (hT : WfInts text) (hD : Dig w) :
    Calls Tryd.prog 15 #[.agg #[.slice A zs.length cap], .slice B text.length cap2, .int .i64 pol] w fun e w' => e = .returned (encV zs text pol (idxF zs)) ∧ Below w.heap.size w w' := by
  have HC := Lib.hid (fun w' hb => csCheck zs A cap w' (IntsAt.keep hA hb) hl)
  have HA := Lib.hid hA
  have HB := Lib.hid hB
  have HT := Lib.hid hT
  have HD := Lib.hid hD
  clear hA hB hT hD
  by_cases hc : checkC zs = 0
  · have hc' : (checkC zs != 0) = false := by simpa using hc
    obtain ⟨hn, hr, ht⟩ := codes_of_check hc
    have hcod := codes_ok hr
    have hl' : zs.length ≤ 256 := by omega
    cases hp : polB pol
    · have HV := Lib.hid (show encV zs text pol (idxF zs) = strFault [] 8 0 by simp [encV, hc, hp])
      have Hc := Lib.hid hc
      have Hp := Lib.hid hp
      have Hn := Lib.hid hn
      have Hr := Lib.hid hr
      have Ht := Lib.hid ht
      have Hcod := Lib.hid hcod
      clear hc hp hn hr ht hcod
      go_enter Tryd.func15, Tryd.ntmps15
      go_wp2_with fail
      refine (HC.out _ (bUp (bBox _ _) (bBox _ _))).mono ?_
      rintro e w1 ⟨rfl, hb1⟩
      obtain ⟨bc, fc, _, ff, hbel, hsz⟩ := two_boxes hb1
      have f0 := fc 0
      have f1 := fc 1
      have g0 := ff 0
      have g1 := ff 1
      clear hb1 bc fc ff
      go_wp2_with (go_at_call 30; refine (csKnown _ _).mono ?_; rintro e w' ⟨rfl, rfl⟩; rw [Hp.out])
      refine bodyPost_ret (v := strFault [] 8 0) (by simp [results, Tryd.results15, go_sem, f0, f1, strFault]) rfl ⟨ret_eq HV.out, ?_⟩
      exact bSet2 hbel (Nat.le_succ _) _ _
    · have HV := Lib.hid (show encV zs text pol (idxF zs) = encFrom (idxF zs) pol text 0 [] by simp [encV, hc, hp])
      have hfb := idxOf_byte zs 0 (fun _ => none) (by simp) (by omega)
      have Hc := Lib.hid hc
      have Hp := Lib.hid hp
      have Hn := Lib.hid hn
      have Hr := Lib.hid hr
      have Ht := Lib.hid ht
      have Hcod := Lib.hid hcod
      have Hfb := Lib.hid hfb
      clear hc hp hn hr ht hcod hfb
      go_enter Tryd.func15, Tryd.ntmps15
      go_wp2_with fail
      refine (HC.out _ (bUp (bBox _ _) (bBox _ _))).mono ?_
      rintro e w1 ⟨rfl, hb1⟩
      obtain ⟨bc, fc, _, ff, hbel, hsz⟩ := two_boxes hb1
      have b0 := bc 0
      have f0 := fc 0
      have f1 := fc 1
      have g0 := ff 0
      have g1 := ff 1
      clear hb1 bc fc ff
      go_wp2_with (go_at_call 30; refine (csKnown _ _).mono ?_; rintro e w' ⟨rfl, rfl⟩; rw [Hp.out])
      refine (csIndex zs A cap _ (HA.out.keep hbel) hl' Hcod.out).mono ?_
      rintro e w2 ⟨rfl, hmap, hb2⟩
      have hbel2 : Below w.heap.size w w2 := bUp hbel hb2
      have f0' := cell_keep hb2 f0
      have f1' := cell_keep hb2 f1
      have g0' := (hb2.frozen (p := ⟨w.heap.size + 1, 0, none⟩) hsz).trans g0
      have g1' := (hb2.frozen (p := ⟨w.heap.size + 1, 1, none⟩) hsz).trans g1
      have hsz2 : w.heap.size + 1 < w2.heap.size := Nat.lt_of_lt_of_le hsz hb2.size
      have hmap' : ByteMap Tryd.prog 3 5 w2 (w1.heap.size + 1) 256 (idxF zs) := by rw [← Hn.out]; exact hmap
      have Hmap' := Lib.hid hmap'
      clear hmap'
      have HW := Lib.hid (show Wr w2.heap.size (w1.heap.size + 1) (idxF zs) [] (w2.alloc (.cells #[.pointer none, .slice none 0 0, .map (some (w1.heap.size + 1))] 59)) from
        ⟨Bld.fresh _ [.map (some (w1.heap.size + 1))] w2, Hmap'.out.keep (Below.heap_alloc _ _ _ Hmap'.out.lt), Hmap'.out.lt, Hfb.out⟩)
      clear f0 f1 g0 g1 b0 hmap
      go_wp2_with fail
      go_loopw [25] (fun i wr => ∃ (k : Nat) (acc : List UInt8), k ≤ text.length ∧ i = .int .i64 k ∧ Wr w2.heap.size (w1.heap.size + 1) (idxF zs) acc wr ∧ acc.length ≤ 10 * k ∧ Hid (encFrom (idxF zs) pol text 0 [] = encFrom (idxF zs) pol (text.drop k) k acc) ∧ Below w2.heap.size w2 wr) (fun i _ => text.length - (intOf i).toNat)
      case atStart => exact ⟨0, [], Nat.zero_le _, rfl, HW.out, by simp, rfl, (Below.refl _ _).alloc (Nat.le_refl _) _⟩
      case round =>
        obtain ⟨k, acc, hk, rfl, hwr, hacc, HE, hbr⟩ := hrel
        have HW := Lib.hid hwr
        clear hwr
        have f0 := cell_keep hbr f0'
        have f1 := cell_keep hbr f1'
        have g0 := (hbr.frozen (p := ⟨w.heap.size + 1, 0, none⟩) hsz2).trans g0'
        have g1 := (hbr.frozen (p := ⟨w.heap.size + 1, 1, none⟩) hsz2).trans g1'
        by_cases hlt : k < text.length
        · obtain ⟨b, off, rfl, hb, hc⟩ := (HB.out.keep (bUp hbel2 hbr)).at_ hlt
          have hd := drop_nth hlt
          have hx := HT.out _ (nth_mem hlt)
          have hxw := wfI hx.1 hx.2
          have Hput := Lib.hid (wrPut HW.out (nth text k) hxw (by omega))
          have Hd := Lib.hid hd
          have Hx := Lib.hid hx
          have Hxw := Lib.hid hxw
          clear hd hx hxw
          cases hfx : (idxF zs (nth text k)).isSome
          · have hnil := putL_none hfx
            have hfx' : ¬ (idxF zs (nth text k)).isSome = true := by simp [hfx]
            by_cases hp1 : pol = 1
            · have HE' := Lib.hid (show encV zs text pol (idxF zs) = strFault [] 10 k by rw [HV.out, HE.out, Hd.out, encFrom, if_neg hfx', if_pos hp1])
              have q1 : (pol == 1) = true := by simpa using hp1
              have Hfx := Lib.hid hfx
              have Hnil := Lib.hid hnil
              have Hp1 := Lib.hid hp1
              have Hfx' := Lib.hid hfx'
              clear hfx hnil hp1 hfx'
              go_wp2_with fail
              refine Hput.out.mono ?_
              rintro e w3 ⟨rfl, hw3, hb3⟩
              rw [Hfx.out]
              have f0 := (hb3.cell (p := ⟨w.heap.size + 1, 0, none⟩) hsz2).trans f0
              have f1 := (hb3.cell (p := ⟨w.heap.size + 1, 1, none⟩) hsz2).trans f1
              have g0 := (hb3.frozen (p := ⟨w.heap.size + 1, 0, none⟩) hsz2).trans g0
              have g1 := (hb3.frozen (p := ⟨w.heap.size + 1, 1, none⟩) hsz2).trans g1
              clear hw3 Hput
              go_wp2_with fail
              refine bodyPost_ret (v := strFault [] 10 k) (by simp [results, Tryd.results15, go_sem, f0, f1, strFault]) rfl ⟨ret_eq HE'.out, ?_⟩
              exact bSet2 (bUp hbel2 (hbr.trans hb3)) (Nat.le_succ _) _ _
            have HE' := Lib.hid (show encFrom (idxF zs) pol text 0 [] = encFrom (idxF zs) pol (text.drop (k + 1)) (k + 1) (acc ++ missL (idxF zs) pol (nth text k)) by rw [HE.out, Hd.out, encFrom, if_neg hfx', if_neg hp1])
            have hml := missL_le (idxF zs) pol (nth text k)
            have q1 : (pol == 1) = false := by simpa using hp1
            have Hfx := Lib.hid hfx
            have Hnil := Lib.hid hnil
            have Hp1 := Lib.hid hp1
            have Hfx' := Lib.hid hfx'
            clear hfx hnil hp1 hfx'
            by_cases hp2 : pol = 2
            · have q2 : (pol == 2) = true := by simpa using hp2
              cases hq : (idxF zs 63).isSome
              · have HM := Lib.hid (show missL (idxF zs) pol (nth text k) = putL (idxF zs) 26 by simp [missL, hp2, hq])
                have hq' := putL_none hq
                have Hp2 := Lib.hid hp2
                have Hq := Lib.hid hq
                have Hq' := Lib.hid hq'
                clear hp2 hq hq'
                go_wp2_with fail
                refine Hput.out.mono ?_
                rintro e w3 ⟨rfl, hw3, hb3⟩
                rw [Hnil.out, List.append_nil] at hw3
                rw [Hfx.out]
                have HP2 := Lib.hid (wrPut hw3 63 (by decide) (by omega))
                clear hw3 Hput
                go_wp2_with fail
                refine HP2.out.mono ?_
                rintro e w4 ⟨rfl, hw4, hb4⟩
                rw [Hq'.out, List.append_nil] at hw4
                rw [Hq.out]
                have HP3 := Lib.hid (wrPut hw4 26 (by decide) (by omega))
                clear hw4 HP2
                go_wp2_with fail
                refine HP3.out.mono ?_
                rintro e w5 ⟨rfl, hw5, hb5⟩
                rw [← HM.out] at hw5
                have HW5 := Lib.hid hw5
                clear hw5 HP3
                go_wp2_with fail
                go_roundw
                case rel => exact ⟨k + 1, _, by omega, by go_num, HW5.out, by rw [List.length_append]; omega, HE', ((hbr.trans hb3).trans hb4).trans hb5⟩
                case measure => simp [intOf]; omega
              · have HM := Lib.hid (show missL (idxF zs) pol (nth text k) = putL (idxF zs) 63 by simp [missL, hp2, hq])
                have Hp2 := Lib.hid hp2
                have Hq := Lib.hid hq
                clear hp2 hq
                go_wp2_with fail
                refine Hput.out.mono ?_
                rintro e w3 ⟨rfl, hw3, hb3⟩
                rw [Hnil.out, List.append_nil] at hw3
                rw [Hfx.out]
                have HP2 := Lib.hid (wrPut hw3 63 (by decide) (by omega))
                clear hw3 Hput
                go_wp2_with fail
                refine HP2.out.mono ?_
                rintro e w4 ⟨rfl, hw4, hb4⟩
                rw [← HM.out] at hw4
                rw [Hq.out]
                have HW5 := Lib.hid hw4
                clear hw4 HP2
                go_wp2_with fail
                go_roundw
                case rel => exact ⟨k + 1, _, by omega, by go_num, HW5.out, by rw [List.length_append]; omega, HE', (hbr.trans hb3).trans hb4⟩
                case measure => simp [intOf]; omega
            have q2 : (pol == 2) = false := by simpa using hp2
            by_cases hp4 : pol = 4
            · have q4 : (pol == 4) = true := by simpa using hp4
              have HM := Lib.hid (show missL (idxF zs) pol (nth text k) = putsL (idxF zs) (escL (nth text k)) by simp [missL, hp4])
              have Hp2 := Lib.hid hp2
              have Hp4 := Lib.hid hp4
              clear hp2 hp4
              go_wp2_with fail
              refine Hput.out.mono ?_
              rintro e w3 ⟨rfl, hw3, hb3⟩
              rw [Hnil.out, List.append_nil] at hw3
              rw [Hfx.out]
              have hD3 : Dig w3 := (HD.out.keep (bUp hbel2 hbr)).keepB hb3 (by omega)
              have HP2 := Lib.hid (wrEscape hw3 hD3 (by omega) (nth text k) (by omega))
              clear hw3 Hput hD3
              go_wp2_with fail
              refine HP2.out.mono ?_
              rintro e w4 ⟨rfl, hw4, hb4⟩
              rw [← HM.out] at hw4
              have HW5 := Lib.hid hw4
              clear hw4 HP2
              go_wp2_with fail
              go_roundw
              case rel => exact ⟨k + 1, _, by omega, by go_num, HW5.out, by rw [List.length_append]; omega, HE', (hbr.trans hb3).trans hb4⟩
              case measure => simp [intOf]; omega
            · have q4 : (pol == 4) = false := by simpa using hp4
              have HM := Lib.hid (show missL (idxF zs) pol (nth text k) = [] by simp [missL, hp2, hp4])
              have Hp2 := Lib.hid hp2
              have Hp4 := Lib.hid hp4
              clear hp2 hp4
              go_wp2_with fail
              refine Hput.out.mono ?_
              rintro e w3 ⟨rfl, hw3, hb3⟩
              rw [Hnil.out, ← HM.out] at hw3
              rw [Hfx.out]
              have HW5 := Lib.hid hw3
              clear hw3 Hput
              go_wp2_with fail
              go_roundw
              case rel => exact ⟨k + 1, _, by omega, by go_num, HW5.out, by rw [List.length_append]; omega, HE', hbr.trans hb3⟩
              case measure => simp [intOf]; omega
          · have HE' := Lib.hid (show encFrom (idxF zs) pol text 0 [] = encFrom (idxF zs) pol (text.drop (k + 1)) (k + 1) (acc ++ putL (idxF zs) (nth text k)) by rw [HE.out, Hd.out, encFrom, if_pos hfx])
            have Hfx := Lib.hid hfx
            clear hfx
            go_wp2_with fail
            refine Hput.out.mono ?_
            rintro e w3 ⟨rfl, hw3, hb3⟩
            rw [Hfx.out]
            have HW3 := Lib.hid hw3
            clear hw3 Hput
            go_wp2_with fail
            go_roundw
            case rel => exact ⟨k + 1, _, by omega, by go_num, HW3.out, by have := putL_le (idxF zs) (nth text k); rw [List.length_append]; omega, HE', hbr.trans hb3⟩
            case measure => simp [intOf]; omega
        · have HE' := Lib.hid (show encV zs text pol (idxF zs) = strFault acc 0 0 by rw [HV.out, HE.out, List.drop_of_length_le (by omega)]; rfl)
          go_wp2_with fail
          refine (bldString HW.out.bld).mono ?_
          rintro e w3 ⟨rfl, hb3⟩
          have f0 := (hb3.cell (p := ⟨w.heap.size + 1, 0, none⟩) hsz2).trans f0
          have f1 := (hb3.cell (p := ⟨w.heap.size + 1, 1, none⟩) hsz2).trans f1
          have g0 := (hb3.frozen (p := ⟨w.heap.size + 1, 0, none⟩) hsz2).trans g0
          have g1 := (hb3.frozen (p := ⟨w.heap.size + 1, 1, none⟩) hsz2).trans g1
          go_wp2_with fail
          refine bodyPost_ret (v := strFault acc 0 0) (by simp [results, Tryd.results15, go_sem, f0, f1, strFault]) rfl ⟨ret_eq HE'.out, ?_⟩
          exact bSet2 (bUp hbel2 (hbr.trans hb3)) (Nat.le_succ _) _ _
  · have hc' : (checkC zs != 0) = true := by simpa using hc
    have HV := Lib.hid (show encV zs text pol (idxF zs) = strFault [] 11 0 by simp [encV, hc])
    have Hc := Lib.hid hc
    clear hc
    go_enter Tryd.func15, Tryd.ntmps15
    go_wp2_with fail
    refine (HC.out _ (bUp (bBox _ _) (bBox _ _))).mono ?_
    rintro e w1 ⟨rfl, hb1⟩
    obtain ⟨bc, fc, _, ff, hbel, hsz⟩ := two_boxes hb1
    have f0 := fc 0
    have f1 := fc 1
    have g0 := ff 0
    have g1 := ff 1
    clear hb1 bc fc ff
    go_wp2_with fail
    refine bodyPost_ret (v := strFault [] 11 0) (by simp [results, Tryd.results15, go_sem, f0, f1, strFault]) rfl ⟨ret_eq HV.out, ?_⟩
    exact bSet2 hbel (Nat.le_succ _) _ _
end Go.Proofs.YthpiopjpipdgnaaDoor
