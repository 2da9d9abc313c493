/- The law EscapeJoins -/
import Derived.Test.YtgkogbjlbcllmaaDoorEsL1
import Derived.Test.YtgkogbjlbcllmaaDoorEsL3
import Derived.Test.YtgkogbjlbcllmaaDoorEsP1
namespace Go.Proofs.YtgkogbjlbcllmaaDoor
open Go.RowKit Go.Sort

theorem textEV_form (zs : List Int) : ∃ s er, textEV zs = strErr s er ∧ (allValid zs = true → s = textE zs ∧ er = 0) ∧ (allValid zs = false → er = 1) := by
  unfold textEV
  cases h : allValid zs
  · exact ⟨[], 1, rfl, (fun h => by cases h), fun _ => rfl⟩
  · exact ⟨textE zs, 0, rfl, fun _ => ⟨rfl, rfl⟩, (fun h => by cases h)⟩

set_option maxHeartbeats 4000000 in
set_option maxRecDepth 100000 in
theorem joinsYes (xs ys : List Int) (A B : Option Addr) (cap cap2 : Nat) (w : World) (hA : IntsAt w A xs) (hB : IntsAt w B ys) (hl : xs.length ≤ 9223372036854775807) (hl2 : ys.length ≤ 9223372036854775807) (hT : WfInts xs) (hT2 : WfInts ys) (hNA : A = none → cap = 0) (hNB : B = none → cap2 = 0) (hE : Env w) (h20 : xs.length ≤ 20) (h21 : ys.length ≤ 20) (hok : allValid xs = true ∧ allValid ys = true) :
    Calls Tryd.prog 6 #[.slice A xs.length cap, .slice B ys.length cap2] w fun e w' => e = .returned (.bool true) ∧ Below w.heap.size w w' := by
  have hg : decide ((20 : Int) < (xs.length : Int)) = false := by simp; omega
  have hg2 : decide ((20 : Int) < (ys.length : Int)) = false := by simp; omega
  have h1 := fun w' (hb : Below w.heap.size w w') => esText xs A cap w' (hA.keep hb) hT (by omega) (hE.keep hb).dig
  have h2 := fun w' (hb : Below w.heap.size w w') => esText ys B cap2 w' (hB.keep hb) hT2 (by omega) (hE.keep hb).dig
  have hTT : WfInts (xs ++ ys) := fun z hz => by rcases List.mem_append.1 hz with h | h; exact hT z h; exact hT2 z h
  have h3 := fun C c w' (hb : Below w.heap.size w w') (hC : IntsAt w' C (xs ++ ys)) => esText (xs ++ ys) C c w' hC hTT (by rw [List.length_append]; omega) (hE.keep hb).dig
  obtain ⟨s, es, hs, hs1, hs0⟩ := textEV_form xs
  obtain ⟨t, et, ht, ht1, ht0⟩ := textEV_form ys
  obtain ⟨u, eu, hu, hu1, hu0⟩ := textEV_form (xs ++ ys)
  rw [hs] at h1
  rw [ht] at h2
  rw [hu] at h3
  simp only [List.length_append] at h3
  have hav := allValid_app xs ys
  have hll : (xs ++ ys).length ≤ 40 := by rw [List.length_append]; omega
  have hlq1 : ([] : List Int).length + xs.length ≤ 1000000 := by simp; omega
  have hlq2 : xs.length + ys.length ≤ 1000000 := by omega
  obtain ⟨hv1, hv2⟩ := hok
  obtain ⟨rfl, rfl⟩ := hs1 hv1
  obtain ⟨rfl, rfl⟩ := ht1 hv2
  obtain ⟨rfl, rfl⟩ := hu1 (by rw [hav, hv1, hv2]; rfl)
  have hj := textE_join xs ys
  have k1 := textE_two xs
  have k2 := textE_two ys
  have k3 := textE_le xs
  have k4 := textE_le ys
  generalize textE xs = s at h1 hj k1 k3
  generalize textE ys = t at h2 hj k2 k4
  generalize textE (xs ++ ys) = u at h3 hj
  have hsl1 := strSliceHi s (j := s.length - 1) (by omega)
  rw [show ((s.length - 1 : Nat) : Int) = (s.length : Int) - 1 by omega] at hsl1
  have hsl2 := strSliceLo1 t (by omega)
  have hl1' : (s.take (s.length - 1)).length ≤ 1000 := by rw [List.length_take]; omega
  have hl2' : (t.drop 1).length ≤ 1000 := by rw [List.length_drop]; omega
  generalize s.take (s.length - 1) = s' at hsl1 hj hl1'
  generalize t.drop 1 = t' at hsl2 hj hl2'
  have hcat : (⟨s'.toArray⟩ : ByteArray) ++ ⟨t'.toArray⟩ = ⟨u.toArray⟩ := by rw [ba_app, hj]
  have huu : (u == u) = true := by simp
  have hsm : IntKind.i64.wrap ((s.length : Int) - 1) = (s.length : Int) - 1 := IntWalk.i64_in _ (by omega)
  have H1 := Lib.hid h1
  have H2 := Lib.hid h2
  have H3 := Lib.hid h3
  have HA := Lib.hid hA
  have HB := Lib.hid hB
  have HT := Lib.hid hT
  have HT2 := Lib.hid hT2
  have HTT := Lib.hid hTT
  have HE := Lib.hid hE
  have Hs := Lib.hid hs
  have Ht := Lib.hid ht
  have Hu := Lib.hid hu
  have Hs1 := Lib.hid hs1
  have Ht1 := Lib.hid ht1
  have Hu1 := Lib.hid hu1
  have Hs0 := Lib.hid hs0
  have Ht0 := Lib.hid ht0
  have Hu0 := Lib.hid hu0
  have Hav := Lib.hid hav
  have Hj := Lib.hid hj
  have Hv1 := Lib.hid hv1
  have Hv2 := Lib.hid hv2
  have HNA := Lib.hid hNA
  have HNB := Lib.hid hNB
  clear h1 h2 h3 hA hB hT hT2 hTT hE hs ht hu hs1 ht1 hu1 hs0 ht0 hu0 hav hj hv1 hv2 hNA hNB
  go_enter Tryd.func6, Tryd.ntmps6
  go_wp2_with fail
  refine (H1.out _ (Below.refl _ _)).mono ?_
  rintro e w1 ⟨rfl, hb1⟩
  unfold strErr
  go_wp2_with fail
  refine (H2.out _ hb1).mono ?_
  rintro e w2 ⟨rfl, hb2⟩
  unfold strErr
  have hw2 : Below w.heap.size w w2 := bUp hb1 hb2
  go_wp2_with (at_builtin; refine wpA rfl _ _ rfl w2.heap.size rfl (OwnI.empty _ _ (Nat.le_refl _)) xs rfl ((HA.out.keep hw2).keep (bBox _ _)) HNA.out hlq1 (bBox _ _).size ?_)
  intro v3 w3 HO3 hb3
  have hbw3 := hb3 w2 ((Below.refl _ _).alloc (Nat.le_refl _) _)
  have hsz3 := hbw3.size
  clear hb3
  go_wp2_with (at_builtin; refine wpA rfl _ _ rfl w2.heap.size rfl HO3.out ys rfl (HB.out.keep (bUp hw2 hbw3)) HNB.out hlq2 hsz3 ?_)
  intro v4 w4 HO4 hb4
  have hbw4 := hb4 w2 hbw3
  clear hb4
  obtain ⟨C, c, rfl⟩ := HO4.out.form
  have hw4 : Below w.heap.size w w4 := bUp hw2 hbw4
  have HC := Lib.hid HO4.out.ints
  clear HO3 HO4
  go_wp2_with fail
  refine (H3.out C c _ hw4 HC.out).mono ?_
  rintro e w5 ⟨rfl, hb5⟩
  unfold strErr
  have hw5 : Below w.heap.size w w5 := bUp hw4 hb5
  have cA := callsQ (w := w5) (fun w' hb => alive05 w' (HE.out.keep (bUp hw5 hb)))
  have CA := Lib.hid cA
  clear cA
  go_wp2_with fail
  refine wp_region_quiet_below (by kernel_rfl) (by kernel_rfl) ?_
  repeat (go_big_quiet_step (exact CA.out _ _))
  refine wpQuiet_nil ?_
  rintro _ ⟨⟨dq, osq⟩, rfl⟩
  have hb6 := below_regrown w5 dq osq
  generalize grow (redrawn w5 dq) osq = w6 at hb6 ⊢
  go_wp2_with fail
  go_ret
  exact ⟨rfl, bUp hw5 hb6⟩

set_option maxHeartbeats 4000000 in
set_option maxRecDepth 100000 in
theorem joinsNo (xs ys : List Int) (A B : Option Addr) (cap cap2 : Nat) (w : World) (hA : IntsAt w A xs) (hB : IntsAt w B ys) (hl : xs.length ≤ 9223372036854775807) (hl2 : ys.length ≤ 9223372036854775807) (hT : WfInts xs) (hT2 : WfInts ys) (hNA : A = none → cap = 0) (hNB : B = none → cap2 = 0) (hE : Env w) (h20 : xs.length ≤ 20) (h21 : ys.length ≤ 20) (hok : ¬ (allValid xs = true ∧ allValid ys = true)) :
    Calls Tryd.prog 6 #[.slice A xs.length cap, .slice B ys.length cap2] w fun e w' => e = .returned (.bool true) ∧ Below w.heap.size w w' := by
  have hg : decide ((20 : Int) < (xs.length : Int)) = false := by simp; omega
  have hg2 : decide ((20 : Int) < (ys.length : Int)) = false := by simp; omega
  have h1 := fun w' (hb : Below w.heap.size w w') => esText xs A cap w' (hA.keep hb) hT (by omega) (hE.keep hb).dig
  have h2 := fun w' (hb : Below w.heap.size w w') => esText ys B cap2 w' (hB.keep hb) hT2 (by omega) (hE.keep hb).dig
  have hTT : WfInts (xs ++ ys) := fun z hz => by rcases List.mem_append.1 hz with h | h; exact hT z h; exact hT2 z h
  have h3 := fun C c w' (hb : Below w.heap.size w w') (hC : IntsAt w' C (xs ++ ys)) => esText (xs ++ ys) C c w' hC hTT (by rw [List.length_append]; omega) (hE.keep hb).dig
  obtain ⟨s, es, hs, hs1, hs0⟩ := textEV_form xs
  obtain ⟨t, et, ht, ht1, ht0⟩ := textEV_form ys
  obtain ⟨u, eu, hu, hu1, hu0⟩ := textEV_form (xs ++ ys)
  rw [hs] at h1
  rw [ht] at h2
  rw [hu] at h3
  simp only [List.length_append] at h3
  have hav := allValid_app xs ys
  have hll : (xs ++ ys).length ≤ 40 := by rw [List.length_append]; omega
  have hlq1 : ([] : List Int).length + xs.length ≤ 1000000 := by simp; omega
  have hlq2 : xs.length + ys.length ≤ 1000000 := by omega
  have heu : eu = 1 := hu0 (by rw [hav]; cases h : allValid xs <;> cases h' : allValid ys <;> simp_all)
  subst heu
  have hor : (allValid xs = false) ∨ (allValid xs = true ∧ allValid ys = false) := by cases h : allValid xs <;> cases h' : allValid ys <;> simp_all
  have hor2 : (es = 1) ∨ (es = 0 ∧ et = 1) := by
    rcases hor with h | h
    · exact .inl (hs0 h)
    · exact .inr ⟨(hs1 h.1).2, ht0 h.2⟩
  clear hor hok
  have Hs1 := Lib.hid hs1
  have Ht1 := Lib.hid ht1
  have Hu1 := Lib.hid hu1
  have Hs0 := Lib.hid hs0
  have Ht0 := Lib.hid ht0
  have Hu0 := Lib.hid hu0
  have Hav := Lib.hid hav
  clear hs1 ht1 hu1 hs0 ht0 hu0 hav
  rcases hor2 with rfl | ⟨rfl, rfl⟩
  all_goals
    have H1 := Lib.hid h1
    have H2 := Lib.hid h2
    have H3 := Lib.hid h3
    have HA := Lib.hid hA
    have HB := Lib.hid hB
    have HT := Lib.hid hT
    have HT2 := Lib.hid hT2
    have HTT := Lib.hid hTT
    have HE := Lib.hid hE
    have Hs := Lib.hid hs
    have Ht := Lib.hid ht
    have Hu := Lib.hid hu
    have HNA := Lib.hid hNA
    have HNB := Lib.hid hNB
    clear h1 h2 h3 hA hB hT hT2 hTT hE hs ht hu hNA hNB
    go_enter Tryd.func6, Tryd.ntmps6
    go_wp2_with fail
    refine (H1.out _ (Below.refl _ _)).mono ?_
    rintro e w1 ⟨rfl, hb1⟩
    unfold strErr
    go_wp2_with fail
    refine (H2.out _ hb1).mono ?_
    rintro e w2 ⟨rfl, hb2⟩
    unfold strErr
    have hw2 : Below w.heap.size w w2 := bUp hb1 hb2
    go_wp2_with (at_builtin; refine wpA rfl _ _ rfl w2.heap.size rfl (OwnI.empty _ _ (Nat.le_refl _)) xs rfl ((HA.out.keep hw2).keep (bBox _ _)) HNA.out hlq1 (bBox _ _).size ?_)
    intro v3 w3 HO3 hb3
    have hbw3 := hb3 w2 ((Below.refl _ _).alloc (Nat.le_refl _) _)
    have hsz3 := hbw3.size
    clear hb3
    go_wp2_with (at_builtin; refine wpA rfl _ _ rfl w2.heap.size rfl HO3.out ys rfl (HB.out.keep (bUp hw2 hbw3)) HNB.out hlq2 hsz3 ?_)
    intro v4 w4 HO4 hb4
    have hbw4 := hb4 w2 hbw3
    clear hb4
    obtain ⟨C, c, rfl⟩ := HO4.out.form
    have hw4 : Below w.heap.size w w4 := bUp hw2 hbw4
    have HC := Lib.hid HO4.out.ints
    clear HO3 HO4
    go_wp2_with fail
    refine (H3.out C c _ hw4 HC.out).mono ?_
    rintro e w5 ⟨rfl, hb5⟩
    unfold strErr
    have hw5 : Below w.heap.size w w5 := bUp hw4 hb5
    go_wp2_with fail
    refine (alive05 _ (HE.out.keep hw5)).mono ?_
    rintro e w6 ⟨rfl, hb6⟩
    go_wp2_with fail
    go_ret
    exact ⟨rfl, bUp hw5 hb6⟩

set_option maxHeartbeats 4000000 in
set_option maxRecDepth 100000 in
theorem joinsBig (xs ys : List Int) (A B : Option Addr) (cap cap2 : Nat) (w : World) (_hl : xs.length ≤ 9223372036854775807) (_hl2 : ys.length ≤ 9223372036854775807) (hE : Env w) (hx : 20 < xs.length ∨ (xs.length ≤ 20 ∧ 20 < ys.length)) :
    Calls Tryd.prog 6 #[.slice A xs.length cap, .slice B ys.length cap2] w fun e w' => e = .returned (.bool true) ∧ Below w.heap.size w w' := by
  rcases hx with hx | ⟨hx, hy⟩
  · have hg : decide ((20 : Int) < (xs.length : Int)) = true := by simp; omega
    have HE := Lib.hid hE
    clear hE
    go_enter Tryd.func6, Tryd.ntmps6
    go_wp2_with fail
    refine (alive05 _ HE.out).mono ?_
    rintro e w6 ⟨rfl, hb6⟩
    go_wp2_with fail
    go_ret
    exact ⟨rfl, hb6⟩
  · have hg : decide ((20 : Int) < (xs.length : Int)) = false := by simp; omega
    have hg2 : decide ((20 : Int) < (ys.length : Int)) = true := by simp; omega
    have HE := Lib.hid hE
    clear hE
    go_enter Tryd.func6, Tryd.ntmps6
    go_wp2_with fail
    refine (alive05 _ HE.out).mono ?_
    rintro e w6 ⟨rfl, hb6⟩
    go_wp2_with fail
    go_ret
    exact ⟨rfl, hb6⟩

theorem lawJoins (xs ys : List Int) (A B : Option Addr) (cap cap2 : Nat) (w : World) (hA : IntsAt w A xs) (hB : IntsAt w B ys) (hl : xs.length ≤ 9223372036854775807) (hl2 : ys.length ≤ 9223372036854775807) (hT : WfInts xs) (hT2 : WfInts ys) (hNA : A = none → cap = 0) (hNB : B = none → cap2 = 0) (hE : Env w) :
    Calls Tryd.prog 6 #[.slice A xs.length cap, .slice B ys.length cap2] w fun e w' => e = .returned (.bool true) ∧ Below w.heap.size w w' := by
  by_cases h20 : xs.length ≤ 20
  · by_cases h21 : ys.length ≤ 20
    · by_cases hok : allValid xs = true ∧ allValid ys = true
      · exact joinsYes xs ys A B cap cap2 w hA hB hl hl2 hT hT2 hNA hNB hE h20 h21 hok
      · exact joinsNo xs ys A B cap cap2 w hA hB hl hl2 hT hT2 hNA hNB hE h20 h21 hok
    · exact joinsBig xs ys A B cap cap2 w hl hl2 hE (.inr ⟨h20, by omega⟩)
  · exact joinsBig xs ys A B cap cap2 w hl hl2 hE (.inl (by omega))
end Go.Proofs.YtgkogbjlbcllmaaDoor
