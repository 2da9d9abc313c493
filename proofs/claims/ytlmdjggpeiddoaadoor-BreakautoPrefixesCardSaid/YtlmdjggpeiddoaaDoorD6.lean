/- firstCommon decide of the program Decide of the program Actions of the program -/
import Derived.Test.YtlmdjggpeiddoaaDoorD5
namespace Go.Proofs.YtlmdjggpeiddoaaDoor
open Go.RowKit Go.Sort

def sliceLen : Value → Nat | .slice _ n _ => n | _ => 0
def comTup : Option Int → Value
  | some x => .tuple #[.int .i64 x, .bool true]
  | none => .tuple #[.int .i64 0, .bool false]
theorem merge_nilL (b : List Int) : mergeF [] b = none := by rw [mergeF]
theorem merge_nilR (a : List Int) : mergeF a [] = none := by cases a <;> rw [mergeF]
theorem merge_eq {x : Int} {a b : List Int} : mergeF (x :: a) (x :: b) = some x := by rw [mergeF, if_pos rfl]
theorem merge_lt {x y : Int} {a b : List Int} (h : x < y) : mergeF (x :: a) (y :: b) = mergeF a (y :: b) := by rw [mergeF, if_neg (by omega), if_pos h]
theorem merge_gt {x y : Int} {a b : List Int} (h : y < x) : mergeF (x :: a) (y :: b) = mergeF (x :: a) b := by rw [mergeF, if_neg (by omega), if_neg (by omega)]
theorem slice1 (A : Option Addr) (x : Int) (xs : List Int) (c : Nat) (hc : (x :: xs).length ≤ c) (hN : A = none → c = 0) :
    ∃ A', (∀ w, (Instr.slice 23 (.slice A (xs.length + 1) c) (some (.int .i64 1)) none none).run Tryd.prog w = .ok (.slice A' xs.length (c - 1)) w) ∧ (∀ w, IntsAt w A (x :: xs) → IntsAt w A' xs) ∧ (A' = none → c - 1 = 0) :=
  sliceLo A (x :: xs) c 1 (by simp) hc hN

set_option maxHeartbeats 4000000 in
set_option maxRecDepth 100000 in
theorem firstCommon (xs ys : List Int) (A B : Option Addr) (c d : Nat) (w : World) (hA : IntsAt w A xs) (hB : IntsAt w B ys) (hc : xs.length ≤ c) (hd : ys.length ≤ d) (hNA : A = none → c = 0) (hNB : B = none → d = 0) :
    Calls Tryd.prog 49 #[.slice A xs.length c, .slice B ys.length d] w fun e w' => e = .returned (comTup (mergeF xs ys)) ∧ Below w.heap.size w w' := by
  generalize hm : mergeF xs ys = r
  have HA := Lib.hid hA
  have HB := Lib.hid hB
  have HNA := Lib.hid hNA
  have HNB := Lib.hid hNB
  have Hm := Lib.hid hm
  clear hA hB hNA hNB hm
  go_enter Tryd.func49, Tryd.ntmps49
  go_wp2_with fail
  go_loopw [0, 1] (fun a b wr => ∃ (xs ys : List Int) (A B : Option Addr) (c d : Nat), a = .slice A xs.length c ∧ b = .slice B ys.length d ∧ Hid (mergeF xs ys = r) ∧ Hid (IntsAt w A xs) ∧ Hid (IntsAt w B ys) ∧ xs.length ≤ c ∧ ys.length ≤ d ∧ Hid (A = none → c = 0) ∧ Hid (B = none → d = 0) ∧ Below w.heap.size w wr) (fun a b _ => sliceLen a + sliceLen b)
  case atStart => exact ⟨xs, ys, A, B, c, d, rfl, rfl, Hm, HA, HB, hc, hd, HNA, HNB, Below.refl _ _⟩
  case round =>
    clear HA HB HNA HNB Hm hc hd
    clear xs ys A B c d
    obtain ⟨xs, ys, A, B, c, d, rfl, rfl, HM, HA, HB, hc, hd, HNA, HNB, hbr⟩ := hrel
    cases xs with
    | nil =>
      have HR := Lib.hid (HM.out.symm.trans (merge_nilL ys))
      obtain rfl : r = none := HR.out
      clear HR HM
      go_wp2_with fail
      go_ret2
      exact ⟨rfl, hbr⟩
    | cons x xs =>
      cases ys with
      | nil =>
        have HR := Lib.hid (HM.out.symm.trans (merge_nilR (x :: xs)))
        obtain rfl : r = none := HR.out
        clear HR HM
        go_wp2_with fail
        go_ret2
        exact ⟨rfl, hbr⟩
      | cons y ys =>
        obtain ⟨b1, o1, rfl, h1, c1⟩ := HA.out.at_ (k := 0) (by simp)
        obtain ⟨b2, o2, rfl, h2, c2⟩ := HB.out.at_ (k := 0) (by simp)
        have d1 : wr.cell? ⟨b1, o1, none⟩ = some (.int .i64 x) := (hbr.cell (p := ⟨b1, o1, none⟩) h1).trans c1
        have d2 : wr.cell? ⟨b2, o2, none⟩ = some (.int .i64 y) := (hbr.cell (p := ⟨b2, o2, none⟩) h2).trans c2
        clear c1 c2
        have r1 := cell_regrown d1
        have r2 := cell_regrown d2
        have CQ := Lib.hid (callsS (w := wr) (fun w' _ => (Tryd.cmp_Compare_int x y w').mono fun _ _ ⟨a, b⟩ => ⟨a, b.symm⟩))
        have hl1 : (0 : Int) < (xs.length : Int) + 1 := by omega
        have hl2 : (0 : Int) < (ys.length : Int) + 1 := by omega
        obtain ⟨A', hs1, hs2, hs3⟩ := slice1 (some ⟨b1, o1, none⟩) x xs c hc (fun h => by cases h)
        obtain ⟨B', ht1, ht2, ht3⟩ := slice1 (some ⟨b2, o2, none⟩) y ys d hd (fun h => by cases h)
        have HA' := Lib.hid (hs2 _ HA.out)
        have HB' := Lib.hid (ht2 _ HB.out)
        have Hs3 := Lib.hid hs3
        have Ht3 := Lib.hid ht3
        clear hs3 ht3
        clear hs2 ht2
        simp only [List.length_cons] at hc hd ⊢
        rcases Int.lt_trichotomy x y with hxy | hxy | hxy
        · have HE := Lib.hid ((merge_lt (a := xs) (b := ys) hxy).symm.trans HM.out)
          rw [show Lib.compareInt x y = -1 from by unfold Lib.compareInt; rw [if_pos hxy]] at CQ
          clear hxy
          go_wp2_with fail
          refine wp_region_quiet_below (by kernel_rfl) (by kernel_rfl) ?_
          repeat (go_big_quiet_step (exact CQ.out _ _))
          refine wpQuiet_nil ?_
          rintro _ ⟨⟨dq, osq⟩, rfl⟩
          have hb2 := below_regrown wr dq osq
          generalize grow (redrawn wr dq) osq = w2 at hb2 ⊢
          go_wp2_with fail
          go_roundw
          case rel => exact ⟨xs, y :: ys, A', some ⟨b2, o2, none⟩, c - 1, d, rfl, rfl, HE, HA', HB, by omega, hd, Hs3, HNB, bUp hbr hb2⟩
          case measure => simp [sliceLen]
        · subst hxy
          have HE := Lib.hid (HM.out.symm.trans merge_eq)
          obtain rfl : r = some x := HE.out
          rw [show Lib.compareInt x x = 0 from by unfold Lib.compareInt; rw [if_neg (by omega), if_neg (by omega)]] at CQ
          clear HE HM
          go_wp2_with fail
          refine wp_region_quiet_below (by kernel_rfl) (by kernel_rfl) ?_
          repeat (go_big_quiet_step (exact CQ.out _ _))
          refine wpQuiet_nil ?_
          rintro _ ⟨⟨dq, osq⟩, rfl⟩
          have hb2 := below_regrown wr dq osq
          generalize grow (redrawn wr dq) osq = w2 at hb2 ⊢
          have d3 := cell_keep hb2 d1
          go_wp2_with fail
          go_ret2
          exact ⟨rfl, bUp hbr hb2⟩
        · have HE := Lib.hid ((merge_gt (a := xs) (b := ys) hxy).symm.trans HM.out)
          rw [show Lib.compareInt x y = 1 from by unfold Lib.compareInt; rw [if_neg (by omega), if_pos hxy]] at CQ
          clear hxy
          go_wp2_with fail
          refine wp_region_quiet_below (by kernel_rfl) (by kernel_rfl) ?_
          repeat (go_big_quiet_step (exact CQ.out _ _))
          refine wpQuiet_nil ?_
          rintro _ ⟨⟨dq, osq⟩, rfl⟩
          have hb2 := below_regrown wr dq osq
          generalize grow (redrawn wr dq) osq = w2 at hb2 ⊢
          go_wp2_with fail
          go_roundw
          case rel => exact ⟨x :: xs, ys, some ⟨b1, o1, none⟩, B', c, d - 1, rfl, rfl, HE, HA, HB', hc, by omega, HNA, Ht3, bUp hbr hb2⟩
          case measure => simp [sliceLen]
end Go.Proofs.YtlmdjggpeiddoaaDoor
namespace Go.Proofs.YtlmdjggpeiddoaaDoor
open Go.RowKit Go.Sort

theorem merge_mem : ∀ (k : Nat) (a b : List Int), a.length + b.length ≤ k → ∀ i, mergeF a b = some i → i ∈ a
  | _, [], b, _, i, h => by rw [merge_nilL] at h; cases h
  | _, x :: a, [], _, i, h => by rw [merge_nilR] at h; cases h
  | 0, x :: a, y :: b, hk, _, _ => by simp at hk
  | k + 1, x :: a, y :: b, hk, i, h => by
    simp only [List.length_cons] at hk
    rcases Int.lt_trichotomy x y with hxy | hxy | hxy
    · rw [merge_lt hxy] at h
      exact List.mem_cons_of_mem _ (merge_mem k a (y :: b) (by simp; omega) i h)
    · subst hxy
      rw [merge_eq] at h
      injection h with h
      simp [h]
    · rw [merge_gt hxy] at h
      exact merge_mem k (x :: a) b (by simp; omega) i h
/-- the action and the rule that two states decide -/
def decO (t : TabD) : Option Int → Int × Int
  | some i => (nth t.actions i.toNat, i)
  | none => (2, -1)
def decV (t : TabD) (s r : Nat) : Int × Int := decO t (mergeF (rowAt t.left.marks s) (rowAt t.right.marks r))
theorem sound_marks {a : AutoD} {cl ac : Nat} (h : soundB a cl ac = true) : a.marks.length = a.next.length ∧ ∀ s, s < a.next.length → marksOk ac 0 (rowAt a.marks s) = true := by
  unfold soundB at h
  simp only [Bool.and_eq_true, decide_eq_true_eq] at h
  refine ⟨h.1.2, fun s hs => ?_⟩
  have h1 := List.all_eq_true.1 h.2 s (List.mem_range.2 hs)
  unfold stateOk at h1
  simp only [Bool.and_eq_true] at h1
  exact h1.2

set_option maxHeartbeats 4000000 in
set_option maxRecDepth 100000 in
theorem decide_ (t : TabD) (v : TabV) (s r : Nat) (w : World) (hT : TabAt w t v) (hv : validB t = true) (hs : s < t.left.next.length) (hr : r < t.right.next.length) :
    Calls Tryd.prog 35 #[.agg (tabCells t v), .int .i64 s, .int .i64 r] w fun e w' => e = .returned (.tuple #[.int .i64 (decV t s r).1, .int .i64 (decV t s r).2]) ∧ Below w.heap.size w w' := by
  have hk := Lib.hid (Blk.new w (tabCells t v) 28)
  have hbx := bBox w (.cells (tabCells t v) 28)
  obtain ⟨a0, a1, a2, a3, a4, a5, c0, c1, c2, c3, c4, c5⟩ := v
  obtain ⟨m1, m2⟩ := sound_marks (valid_left hv)
  obtain ⟨n1, _⟩ := sound_marks (valid_right hv)
  have hs' : (s : Int) < t.left.marks.length := by omega
  have hr' : (r : Int) < t.right.marks.length := by omega
  obtain ⟨bL, oL, BL, cL, eL, hbL, hcL, hIL, hlL, hnL⟩ := hT.lm.atC (k := s) (by omega)
  obtain ⟨bR, oR, BR, cR, eR, hbR, hcR, hIR, hlR, hnR⟩ := hT.rm.atC (k := r) (by omega)
  subst eL eR
  have HAc := Lib.hid hT.actions
  have HC := Lib.hid (fun w' h1 h2 => firstCommon (rowAt t.left.marks s) (rowAt t.right.marks r) BL BR cL cR w' h1 h2 hlL hlR hnL hnR)
  have HM := Lib.hid (fun i h => marksOk_ge _ _ (m2 s hs) i (merge_mem _ (rowAt t.left.marks s) (rowAt t.right.marks r) (Nat.le_refl _) i h))
  unfold decV
  have HT := Lib.hid hT
  have HIL := Lib.hid hIL
  have HIR := Lib.hid hIR
  clear hT hIL hIR
  clear m1 m2 n1 hv hlL hlR hnL hnR hs hr
  have HI : Hid (∀ w', Below w.heap.size w w' → Calls Tryd.prog 49 #[.slice BL (rowAt t.left.marks s).length cL, .slice BR (rowAt t.right.marks r).length cR] w' fun e w'' => e = .returned (comTup (mergeF (rowAt t.left.marks s) (rowAt t.right.marks r))) ∧ Below w'.heap.size w' w'') :=
    Lib.hid fun w' hb => HC.out w' (HIL.out.keep hb) (HIR.out.keep hb)
  clear HC HIL HIR HT
  generalize mergeF (rowAt t.left.marks s) (rowAt t.right.marks r) = o at HI HM ⊢
  generalize (rowAt t.left.marks s).length = l1 at hcL HI
  generalize (rowAt t.right.marks r).length = l2 at hcR HI
  have HK := Lib.hid (tab_cells hk.out)
  clear hk
  unfold tabCells at HK hbx ⊢
  dsimp only at HK hbx ⊢
  go_enter Tryd.func35, Tryd.ntmps35
  go_wp2_with fail
  generalize w.alloc (.cells #[.slice a0 t.classes.length c0, .slice a1 t.actions.length c1, .slice a2 t.left.next.length c2, .slice (some ⟨bL, oL, none⟩) t.left.marks.length c3, .slice a4 t.right.next.length c4, .slice (some ⟨bR, oR, none⟩) t.right.marks.length c5] 28) = w1 at hbx HK ⊢
  obtain ⟨k0, k1, k2, k3, k4, k5⟩ := HK.out
  have g1 := cell_regrown (cell_keep hbx hcL)
  have g2 := cell_regrown (cell_keep hbx hcR)
  have g3 := cell_regrown k3
  have g5 := cell_regrown k5
  cases o with
  | none =>
    have CQ := Lib.hid (callsQ (w := w1) (v := .tuple #[.int .i64 0, .bool false]) (fun w' hb => HI.out w' (bUp hbx hb)))
    clear HI k0 k1 k2 k4 k3 k5 hcL hcR
    refine wp_region_quiet_below (by kernel_rfl) (by kernel_rfl) ?_
    repeat (go_big_quiet_step (exact CQ.out _ _))
    refine wpQuiet_nil ?_
    rintro _ ⟨⟨dq, osq⟩, rfl⟩
    have hb2 := below_regrown w1 dq osq
    generalize grow (redrawn w1 dq) osq = w2 at hb2 ⊢
    go_wp2_with fail
    go_ret2
    exact ⟨rfl, bUp hbx hb2⟩
  | some i =>
    obtain ⟨hi0, hi1⟩ := HM.out i rfl
    have CQ := Lib.hid (callsQ (w := w1) (v := .tuple #[.int .i64 i, .bool true]) (fun w' hb => HI.out w' (bUp hbx hb)))
    obtain ⟨n, rfl⟩ := Int.eq_ofNat_of_zero_le hi0
    clear HI k0 k2 k4 k3 k5 hcL hcR
    refine wp_region_quiet_below (by kernel_rfl) (by kernel_rfl) ?_
    repeat (go_big_quiet_step (exact CQ.out _ _))
    refine wpQuiet_nil ?_
    rintro _ ⟨⟨dq, osq⟩, rfl⟩
    have hb2 := below_regrown w1 dq osq
    generalize grow (redrawn w1 dq) osq = w2 at hb2 ⊢
    have k1 := cell_keep hb2 k1
    obtain ⟨b, off, rfl, hb, hc⟩ := (HAc.out.keep (bUp hbx hb2)).at_ (k := n) (by omega)
    have HX := Lib.hid (show decO t (some (n : Int)) = (nth t.actions n, (n : Int)) from rfl)
    generalize nth t.actions n = x at hc HX
    go_wp2_with fail
    go_ret2
    exact ⟨by rw [HX.out]; rfl, bUp hbx hb2⟩
end Go.Proofs.YtlmdjggpeiddoaaDoor
namespace Go.Proofs.YtlmdjggpeiddoaaDoor
open Go.RowKit Go.Sort

/-- the action and the rule at a position -/
def decT (t : TabD) (l : List Int) (p : Int) : Int × Int :=
  if 0 ≤ p ∧ p < (leftT t l).length then decV t (nth (leftT t l) p.toNat).toNat (nth (rightT t l) p.toNat).toNat else (2, -1)
theorem runA_in {nx : List (List Int)} {cl : Nat} (hS : Steps nx cl) : ∀ (l : List Int) (s : Int), 0 ≤ s → s < nx.length → (∀ c ∈ l, 0 ≤ c ∧ c < cl) → ∀ x ∈ runA nx s l, 0 ≤ x ∧ x < nx.length
  | [], s, h0, h1, _, x, hx => by
    rw [runA] at hx
    simp at hx
    subst hx
    exact ⟨h0, h1⟩
  | c :: l, s, h0, h1, hl, x, hx => by
    rw [runA] at hx
    have hc := hl c (by simp)
    have h2 := (hS.2 s.toNat (by omega)).2 c.toNat (by omega)
    rcases List.mem_cons.1 hx with rfl | hx
    · exact ⟨h0, h1⟩
    · exact runA_in hS l _ h2.1 h2.2 (fun d hd => hl d (by simp [hd])) x hx
theorem runB_in {nx : List (List Int)} {cl : Nat} (hS : Steps nx cl) : ∀ (l : List Int), (∀ c ∈ l, 0 ≤ c ∧ c < cl) → ∀ x ∈ runB nx l, 0 ≤ x ∧ x < nx.length
  | [], _, x, hx => by
    rw [runB] at hx
    simp at hx
    subst hx
    have := hS.1
    omega
  | c :: l, hl, x, hx => by
    rw [runB] at hx
    have ih := runB_in hS l (fun d hd => hl d (by simp [hd]))
    have hc := hl c (by simp)
    have h0 := ih (nth (runB nx l) 0) (nth_mem (by rw [runB_length]; omega))
    have h2 := (hS.2 (nth (runB nx l) 0).toNat (by omega)).2 c.toNat (by omega)
    rcases List.mem_cons.1 hx with rfl | hx
    · exact h2
    · exact ih x hx
theorem usable_all {t : TabD} {l : List Int} (h : usableB t l = true) : ∀ c ∈ l, 0 ≤ c ∧ c < t.classes.length := by
  unfold usableB at h
  simp only [Bool.and_eq_true] at h
  exact fun c hc => inSt_of (List.all_eq_true.1 h.1 _ hc)
/-- what is known of a position of a usable list -/
theorem pos_in {t : TabD} {l : List Int} {k : Nat} (h : k < (leftT t l).length) : usableB t l = true ∧ validB t = true ∧ k < (rightT t l).length ∧ (0 ≤ nth (leftT t l) k ∧ nth (leftT t l) k < t.left.next.length) ∧ (0 ≤ nth (rightT t l) k ∧ nth (rightT t l) k < t.right.next.length) := by
  cases hu : usableB t l with
  | false =>
    unfold leftT at h
    rw [hu] at h
    simp at h
  | true =>
    obtain ⟨s1, s2, _⟩ := usable_steps hu
    have hv : validB t = true := by
      have := hu
      unfold usableB at this
      simp only [Bool.and_eq_true] at this
      exact this.2
    have e1 : leftT t l = runA t.left.next 0 l := by unfold leftT; rw [if_pos hu]
    have e2 : rightT t l = runB t.right.next l := by unfold rightT; rw [if_pos hu]
    have h1 := s1.1
    rw [e1, runA_length] at h
    refine ⟨rfl, hv, by rw [e2, runB_length]; omega, ?_, ?_⟩
    · rw [e1]
      exact runA_in s1 l 0 (Int.le_refl _) (by omega) (usable_all hu) _ (nth_mem (by rw [runA_length]; omega))
    · rw [e2]
      exact runB_in s2 l (usable_all hu) _ (nth_mem (by rw [runB_length]; omega))

set_option maxHeartbeats 8000000 in
set_option maxRecDepth 100000 in
theorem decide1 (t : TabD) (v : TabV) (l : List Int) (A : Option Addr) (c : Nat) (p : Int) (w : World) (hT : TabAt w t v) (hF : TabFew t) (hA : IntsAt w A l) (hl : l.length ≤ 1000000) :
    Calls Tryd.prog 20 #[.agg (tabCells t v), .slice A l.length c, .int .i64 p] w fun e w' => e = .returned (.tuple #[.int .i64 (decT t l p).1, .int .i64 (decT t l p).2]) ∧ Below w.heap.size w w' := by
  have HL := Lib.hid (fun w' h h2 => left t v l A c w' h hF h2 hl)
  have HR := Lib.hid (fun w' h h2 => right t v l A c w' h hF h2 hl)
  have HD := Lib.hid (fun s r w' h hv hs hr => decide_ t v s r w' h hv hs hr)
  have HP := Lib.hid (fun k h => pos_in (t := t) (l := l) (k := k) h)
  have hk := Lib.hid (Blk.new w (tabCells t v) 28)
  have hbx := bBox w (.cells (tabCells t v) 28)
  have HE := Lib.hid (show decT t l p = if 0 ≤ p ∧ p < (leftT t l).length then decV t (nth (leftT t l) p.toNat).toNat (nth (rightT t l) p.toNat).toNat else (2, -1) from rfl)
  generalize decT t l p = res at HE ⊢
  obtain ⟨a0, a1, a2, a3, a4, a5, c0, c1, c2, c3, c4, c5⟩ := v
  have HT := Lib.hid hT
  have HA := Lib.hid hA
  clear hT hA
  clear hF
  generalize leftT t l = xs at HL HP HE
  generalize rightT t l = ys at HR HP HE
  generalize l.length = n at HL HR ⊢
  have HK := Lib.hid (tab_cells hk.out)
  clear hk
  unfold tabCells at HL HR HD HK hbx ⊢
  dsimp only at HL HR HD HK hbx ⊢
  go_enter Tryd.func20, Tryd.ntmps20
  go_wp2_with fail
  generalize w.alloc (.cells #[.slice a0 t.classes.length c0, .slice a1 t.actions.length c1, .slice a2 t.left.next.length c2, .slice a3 t.left.marks.length c3, .slice a4 t.right.next.length c4, .slice a5 t.right.marks.length c5] 28) = w1 at hbx HK ⊢
  obtain ⟨k0, k1, k2, k3, k4, k5⟩ := HK.out
  have hcur := (Below.refl w1.heap.size w1).drew
  have HT1 := Lib.hid (HT.out.keep hbx)
  have HA1 := Lib.hid (HA.out.keep hbx)
  clear HT HA HK
  go_region_law (first
    | (go_simp; (with_reducible refine (HL.out _ (HT1.out.keep hcur) (HA1.out.keep hcur)).mono ?_); rintro e w5 ⟨AL, cL, rfl, hIL, hNL, hbL⟩; replace k0 := cell_keep hbL k0; replace k1 := cell_keep hbL k1; replace k2 := cell_keep hbL k2; replace k3 := cell_keep hbL k3; replace k4 := cell_keep hbL k4; replace k5 := cell_keep hbL k5; replace hcur := bUp hcur hbL; (try (replace hIR := Lib.hid (hIR.out.keep hbL))); clear hbL)
    | (go_simp; (with_reducible refine (HR.out _ (HT1.out.keep hcur) (HA1.out.keep hcur)).mono ?_); rintro e w5 ⟨AR, cR, rfl, hIR, hNR, hbR⟩; replace k0 := cell_keep hbR k0; replace k1 := cell_keep hbR k1; replace k2 := cell_keep hbR k2; replace k3 := cell_keep hbR k3; replace k4 := cell_keep hbR k4; replace k5 := cell_keep hbR k5; replace hcur := bUp hcur hbR; (try (replace hIL := Lib.hid (hIL.out.keep hbR))); clear hbR))
  all_goals
    clear HL HR
    by_cases hp0 : 0 ≤ p
    · have t1 : decide (p < 0) = false := decide_eq_false (by omega)
      by_cases hp1 : p < xs.length
      · have t2 : decide ((xs.length : Int) ≤ p) = false := decide_eq_false (by omega)
        rw [if_pos ⟨hp0, hp1⟩] at HE
        obtain ⟨k, rfl⟩ := Int.eq_ofNat_of_zero_le hp0
        rw [Int.toNat_natCast] at HE
        obtain ⟨_, hv, hy, ⟨hx0, hx1⟩, ⟨hy0, hy1⟩⟩ := HP.out k (by omega)
        have hyi : (k : Int) < ys.length := by omega
        obtain ⟨bx, ox, rfl, hbx1, hcx⟩ := hIL.out.at_ (k := k) (by omega)
        obtain ⟨by_, oy, rfl, hby, hcy⟩ := hIR.out.at_ (k := k) hy
        generalize nth xs k = x at HE hx0 hx1 hcx
        generalize nth ys k = y at HE hy0 hy1 hcy
        obtain ⟨s, rfl⟩ := Int.eq_ofNat_of_zero_le hx0
        obtain ⟨r, rfl⟩ := Int.eq_ofNat_of_zero_le hy0
        rw [Int.toNat_natCast, Int.toNat_natCast] at HE
        have CQ := Lib.hid (callsQ (w := w5) (fun w' hb => HD.out s r w' (HT1.out.keep (bUp hcur hb)) hv (by omega) (by omega)))
        rw [← HE.out] at CQ
        have g0 := cell_regrown k0
        have g1 := cell_regrown k1
        have g2 := cell_regrown k2
        have g3 := cell_regrown k3
        have g4 := cell_regrown k4
        have g5 := cell_regrown k5
        have g6 := cell_regrown hcx
        have g7 := cell_regrown hcy
        clear HD HE HP
        go_wp2_with fail
        refine wp_region_quiet_below (by kernel_rfl) (by kernel_rfl) ?_
        repeat (go_big_quiet_step (exact CQ.out _ _))
        refine wpQuiet_nil ?_
        rintro _ ⟨⟨dq, osq⟩, rfl⟩
        have hb7 := below_regrown w5 dq osq
        generalize grow (redrawn w5 dq) osq = w7 at hb7 ⊢
        go_wp2_with fail
        go_ret2
        exact ⟨rfl, bUp hbx (bUp hcur hb7)⟩
      · have t2 : decide ((xs.length : Int) ≤ p) = true := decide_eq_true (by omega)
        rw [if_neg (fun h => hp1 h.2)] at HE
        obtain rfl : res = (2, -1) := HE.out
        clear HE HP HD
        go_wp2_with fail
        go_ret2
        exact ⟨rfl, bUp hbx hcur⟩
    · have t1 : decide (p < 0) = true := decide_eq_true (by omega)
      rw [if_neg (fun h => hp0 h.1)] at HE
      obtain rfl : res = (2, -1) := HE.out
      clear HE HP HD
      go_wp2_with fail
      go_ret2
      exact ⟨rfl, bUp hbx hcur⟩
end Go.Proofs.YtlmdjggpeiddoaaDoor
namespace Go.Proofs.YtlmdjggpeiddoaaDoor
open Go.RowKit Go.Sort

/-- the actions at the first n positions -/
def actsN (t : TabD) (l : List Int) (n : Nat) : List Int := (List.range n).map fun k : Nat => (decT t l k).1
def actsT (t : TabD) (l : List Int) : List Int := actsN t l (leftT t l).length
theorem actsN_length (t : TabD) (l : List Int) (n : Nat) : (actsN t l n).length = n := by simp [actsN]
theorem actsN_snoc (t : TabD) (l : List Int) (n : Nat) : actsN t l (n + 1) = actsN t l n ++ [(decT t l n).1] := by simp [actsN, List.range_succ]
theorem leftT_le (t : TabD) (l : List Int) : (leftT t l).length ≤ l.length + 1 := by
  unfold leftT
  split
  · rw [runA_length]
    exact Nat.le_refl _
  · simp

set_option maxHeartbeats 8000000 in
set_option maxRecDepth 100000 in
theorem actions (t : TabD) (v : TabV) (l : List Int) (A : Option Addr) (c : Nat) (w : World) (hT : TabAt w t v) (hF : TabFew t) (hA : IntsAt w A l) (hl : l.length ≤ 1000) :
    Calls Tryd.prog 19 #[.agg (tabCells t v), .slice A l.length c] w (SlInts (actsT t l) w) := by
  have HL := Lib.hid (fun w' h h2 => left t v l A c w' h hF h2 (by omega))
  have HR := Lib.hid (fun w' h h2 => right t v l A c w' h hF h2 (by omega))
  have HD := Lib.hid (fun s r w' h hv hs hr => decide_ t v s r w' h hv hs hr)
  have HP := Lib.hid (fun k h => pos_in (t := t) (l := l) (k := k) h)
  have hk := Lib.hid (Blk.new w (tabCells t v) 28)
  have hbx := bBox w (.cells (tabCells t v) 28)
  have HE := Lib.hid (fun (k : Nat) (h : k < (leftT t l).length) => (show decT t l k = decV t (nth (leftT t l) k).toNat (nth (rightT t l) k).toNat from by unfold decT; rw [if_pos ⟨by omega, by omega⟩, Int.toNat_natCast]))
  have HN := Lib.hid (fun n => actsN_snoc t l n)
  have HM := Lib.hid (fun n => actsN_length t l n)
  have hle := leftT_le t l
  unfold actsT
  obtain ⟨a0, a1, a2, a3, a4, a5, c0, c1, c2, c3, c4, c5⟩ := v
  have HT := Lib.hid hT
  have HA := Lib.hid hA
  clear hT hA
  clear hF
  have H0 := Lib.hid (show actsN t l 0 = [] from rfl)
  generalize actsN t l = ac at HN HM H0 ⊢
  generalize decT t l = dt at HE HN
  generalize leftT t l = xs at HL HP HE hle ⊢
  generalize rightT t l = ys at HR HP HE
  generalize l.length = n at HL HR hl hle ⊢
  have HK := Lib.hid (tab_cells hk.out)
  clear hk
  unfold tabCells at HL HR HD HK hbx ⊢
  dsimp only at HL HR HD HK hbx ⊢
  go_enter Tryd.func19, Tryd.ntmps19
  go_wp2_with fail
  generalize w.alloc (.cells #[.slice a0 t.classes.length c0, .slice a1 t.actions.length c1, .slice a2 t.left.next.length c2, .slice a3 t.left.marks.length c3, .slice a4 t.right.next.length c4, .slice a5 t.right.marks.length c5] 28) = w1 at hbx HK ⊢
  obtain ⟨k0, k1, k2, k3, k4, k5⟩ := HK.out
  have hcur := (Below.refl w1.heap.size w1).drew
  have HT1 := Lib.hid (HT.out.keep hbx)
  have HA1 := Lib.hid (HA.out.keep hbx)
  clear HT HA HK
  go_region_law (first
    | (go_simp; (with_reducible refine (HL.out _ (HT1.out.keep hcur) (HA1.out.keep hcur)).mono ?_); rintro e w5 ⟨AL, cL, rfl, hIL, hNL, hbL⟩; replace k0 := cell_keep hbL k0; replace k1 := cell_keep hbL k1; replace k2 := cell_keep hbL k2; replace k3 := cell_keep hbL k3; replace k4 := cell_keep hbL k4; replace k5 := cell_keep hbL k5; replace hcur := bUp hcur hbL; (try (replace hIR := Lib.hid (hIR.out.keep hbL))); clear hbL)
    | (go_simp; (with_reducible refine (HR.out _ (HT1.out.keep hcur) (HA1.out.keep hcur)).mono ?_); rintro e w5 ⟨AR, cR, rfl, hIR, hNR, hbR⟩; replace k0 := cell_keep hbR k0; replace k1 := cell_keep hbR k1; replace k2 := cell_keep hbR k2; replace k3 := cell_keep hbR k3; replace k4 := cell_keep hbR k4; replace k5 := cell_keep hbR k5; replace hcur := bUp hcur hbR; (try (replace hIL := Lib.hid (hIL.out.keep hbR))); clear hbR))
  all_goals
    clear HL HR
    have HK := Lib.hid (And.intro k0 (And.intro k1 (And.intro k2 (And.intro k3 (And.intro k4 k5)))))
    clear k0 k1 k2 k3 k4 k5
    go_wp2_with fail
    go_loopw [19, 7] (fun i o wr => ∃ k : Nat, k ≤ xs.length ∧ i = .int .i64 k ∧ Hid (OwnI wr w5.heap.size o (ac k)) ∧ Below w5.heap.size w5 wr) (fun i _ _ => xs.length - (intOf i).toNat)
    case atStart => exact ⟨0, Nat.zero_le _, rfl, Lib.hid (by rw [H0.out]; exact OwnI.nil _ _), Below.refl _ _⟩
    case round =>
      obtain ⟨k, hk, rfl, HO, hbr⟩ := hrel
      by_cases hlt : k < xs.length
      · have hki : (k : Int) < xs.length := by omega
        obtain ⟨_, hv, hy, ⟨hx0, hx1⟩, ⟨hy0, hy1⟩⟩ := HP.out k hlt
        have hyi : (k : Int) < ys.length := by omega
        obtain ⟨bx, ox, rfl, hbx1, hcx⟩ := (hIL.out.keep hbr).at_ hlt
        obtain ⟨by_, oy, rfl, hby, hcy⟩ := (hIR.out.keep hbr).at_ hy
        have HV := Lib.hid (HE.out k hlt)
        have HS := Lib.hid (HN.out k)
        have hlen : (ac k).length + 1 ≤ 1000000 := by rw [HM.out]; omega
        generalize nth xs k = x at HV hx0 hx1 hcx
        generalize nth ys k = y at HV hy0 hy1 hcy
        obtain ⟨s, rfl⟩ := Int.eq_ofNat_of_zero_le hx0
        obtain ⟨r, rfl⟩ := Int.eq_ofNat_of_zero_le hy0
        rw [Int.toNat_natCast, Int.toNat_natCast] at HV
        have CQ := Lib.hid (callsQ (w := wr) (fun w' hb => HD.out s r w' (HT1.out.keep (bUp (bUp hcur hbr) hb)) hv (by omega) (by omega)))
        rw [← HV.out] at CQ
        generalize dt k = res at CQ HS
        have g0 := cell_regrown (cell_keep hbr HK.out.1)
        have g1 := cell_regrown (cell_keep hbr HK.out.2.1)
        have g2 := cell_regrown (cell_keep hbr HK.out.2.2.1)
        have g3 := cell_regrown (cell_keep hbr HK.out.2.2.2.1)
        have g4 := cell_regrown (cell_keep hbr HK.out.2.2.2.2.1)
        have g5 := cell_regrown (cell_keep hbr HK.out.2.2.2.2.2)
        have g6 := cell_regrown hcx
        have g7 := cell_regrown hcy
        have hsz := hbr.size
        clear HV hcx hcy hbx1 hby
        go_wp2_with fail
        refine wp_region_quiet_below (by kernel_rfl) (by kernel_rfl) ?_
        repeat (go_big_quiet_step (exact CQ.out _ _))
        refine wpQuiet_nil ?_
        rintro _ ⟨⟨dq, osq⟩, rfl⟩
        have hb7 := below_regrown wr dq osq
        generalize grow (redrawn wr dq) osq = w7 at hb7 ⊢
        clear g0 g1 g2 g3 g4 g5 g6 g7
        have hsz7 := hb7.size
        obtain ⟨r1, r2⟩ := res
        dsimp only at HS
        have HO7 := Lib.hid (HO.out.keep hb7)
        generalize ac k = acc at HO7 hlen HS
        have hbase : ∀ o, w5.heap.size ≤ (w7.alloc o).heap.size := fun o => by simp; omega
        have hone : 0 < [r1].length := by simp
        go_wp2_with (at_builtin; refine wpI rfl _ _ rfl w5.heap.size rfl (HO7.out.keep (bBox _ _)) [r1] rfl (ints_new _ _ _) hone hlen (hbase _) ?_)
        intro o2 w8 hO8 hb8
        have hb9 := hb8 w5 (bUp (bUp hbr hb7) (bBox _ _))
        clear hb8
        go_wp2_with fail
        go_roundw
        case rel => exact ⟨k + 1, by omega, by go_num, Lib.hid (by rw [HS.out]; exact hO8.out), hb9⟩
        case measure => simp [intOf]; omega
      · obtain rfl : k = xs.length := by omega
        have hki : ¬ (xs.length : Int) < xs.length := by omega
        obtain ⟨A', c', rfl⟩ := HO.out.form
        have hcap := Lib.hid (HO.out.cap)
        go_wp2_with fail
        go_ret
        exact ⟨A', c', rfl, Lib.hid HO.out.ints, Lib.hid hcap.out.1, bUp hbx (bUp hcur hbr)⟩
end Go.Proofs.YtlmdjggpeiddoaaDoor
