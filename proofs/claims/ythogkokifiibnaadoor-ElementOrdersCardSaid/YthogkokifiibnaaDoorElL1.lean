/- ElementChecks, ElementJoins: the walks -/
import Derived.Test.YthogkokifiibnaaDoorEl24
import Derived.Laws.AppendOwnNone
namespace Go.Proofs.YthogkokifiibnaaDoor
open Go.RowKit Go.Sort

set_option maxHeartbeats 1000000 in
set_option maxRecDepth 100000 in
theorem lawEChecks (d : ElemD) (w : World) (hE : EnvF w) :
    Calls Tryd.prog 4 #[.agg #[.int .i64 d.p, .int .i64 d.s, .int .i64 d.t, .bool d.v]] w fun e w' => e = .returned (.bool true) ∧ Below w.heap.size w w' := by
  have hC := fun w' => elCheck d w'
  have hR := fun w' => rfECheck d w'
  generalize chkE d = ce at hC hR
  obtain ⟨p, s, t, v⟩ := d
  dsimp only at hC hR ⊢
  have cC := callsQ (w := w.alloc (.cells #[.int .i64 p, .int .i64 s, .int .i64 t, .bool v] 33)) (fun w' _ => hC w')
  have cR := callsQ (w := w.alloc (.cells #[.int .i64 p, .int .i64 s, .int .i64 t, .bool v] 33)) (fun w' _ => hR w')
  have cA := callsQ (w := w.alloc (.cells #[.int .i64 p, .int .i64 s, .int .i64 t, .bool v] 33)) (fun w' hb => elAlive w' (hE.keep (bUp (bBox _ _) hb)))
  have k0 := cell_regrown (show (w.alloc (.cells #[.int .i64 p, .int .i64 s, .int .i64 t, .bool v] 33)).cell? ⟨w.heap.size, 0, none⟩ = some (.int .i64 p) from cell_box _ _ _ 0)
  have k1 := cell_regrown (show (w.alloc (.cells #[.int .i64 p, .int .i64 s, .int .i64 t, .bool v] 33)).cell? ⟨w.heap.size, 1, none⟩ = some (.int .i64 s) from cell_box _ _ _ 1)
  have k2 := cell_regrown (show (w.alloc (.cells #[.int .i64 p, .int .i64 s, .int .i64 t, .bool v] 33)).cell? ⟨w.heap.size, 2, none⟩ = some (.int .i64 t) from cell_box _ _ _ 2)
  have k3 := cell_regrown (show (w.alloc (.cells #[.int .i64 p, .int .i64 s, .int .i64 t, .bool v] 33)).cell? ⟨w.heap.size, 3, none⟩ = some (.bool v) from cell_box _ _ _ 3)
  have hcc : (ce == ce) = true := by simp
  have CC := Lib.hid cC
  have CR := Lib.hid cR
  have CA := Lib.hid cA
  have HE := Lib.hid hE
  clear cC cR cA hE
  clear hC hR
  go_enter Tryd.func4, Tryd.ntmps4
  go_wp2_with fail
  refine wp_region_quiet_below (by kernel_rfl) (by kernel_rfl) ?_
  repeat (go_big_quiet_step (first | exact CC.out _ _ | exact CR.out _ _ | exact CA.out _ _))
  refine wpQuiet_nil ?_
  rintro _ ⟨⟨dq, osq⟩, rfl⟩
  have hb2 := below_regrown (w.alloc (.cells #[.int .i64 p, .int .i64 s, .int .i64 t, .bool v] 33)) dq osq
  generalize grow (redrawn (w.alloc (.cells #[.int .i64 p, .int .i64 s, .int .i64 t, .bool v] 33)) dq) osq = w2 at hb2 ⊢
  go_wp2_with fail
  go_ret
  exact ⟨rfl, bUp (bBox _ _) hb2⟩

theorem rowE_get : ∀ (ls : List ElemD) (i : Nat) (u : Value), (rowE ls)[i]? = some u → ∃ j r, i = j * 4 + r ∧ r < 4 ∧ j < ls.length ∧ (elemCells (elemAt ls j))[r]? = some u
  | ls, i, u, h => by
    have hi : i < ls.length * 4 := by rw [← rowE_length]; exact (List.getElem?_eq_some_iff.1 h).1
    have hj : i / 4 < ls.length := by omega
    refine ⟨i / 4, i % 4, by omega, by omega, hj, ?_⟩
    rw [← rowE_at ls (i / 4) _ (elemAt_get hj) (i % 4) (by omega), ← h]
    congr 1
    omega
/-- append(v, ls...) -/
theorem elems_cells {W : World} {b off : Nat} {news : List ElemD} (hB : ElemsAt W (some ⟨b, off, none⟩) news) : ∀ j u, (rowE news)[j]? = some u → W.cell? ⟨b, off + j, none⟩ = some u := by
  intro j u hu
  obtain ⟨q, r, rfl, hr, hq, hc⟩ := rowE_get news j u hu
  obtain ⟨b', off', e, _, c0, c1, c3, c4⟩ := hB.at_ hq
  injection e with e
  injection e with e1 e2 _
  subst e1 e2
  have e4 : r = 0 ∨ r = 1 ∨ r = 2 ∨ r = 3 := by omega
  rcases e4 with rfl | rfl | rfl | rfl
  · rw [Nat.add_zero, c0]; exact hc
  · rw [← Nat.add_assoc, c1]; exact hc
  · rw [← Nat.add_assoc, c3]; exact hc
  · rw [← Nat.add_assoc, c4]; exact hc
set_option maxRecDepth 100000 in
theorem wpEA {ops : Array Oper} {rest : List Oper} {o : Oper} {a : Act} {Q : Exit → Act → World → Prop} {W : World} (hgd : o.guard = none) (s x : Operand) (ho : o.op = .call { callee := .builtin .append, args := #[s, x], argTypes := #[22, 22] })
    (base : Nat) {v : Value} {ls : List ElemD} (hs : a.eval s = v) (h : OwnE W base v ls) {B : Option Addr} (news : List ElemD) {c2 : Nat} (hx : a.eval x = .slice B news.length c2) (hB : ElemsAt W B news) (hcB : B = none → c2 = 0) (hl : ls.length + news.length ≤ 1000000) (hb : base ≤ W.heap.size)
    (hK : ∀ v' w', Hid (OwnE w' base v' (ls ++ news)) → (∀ w0, Below base w0 W → Below base w0 w') → wpList Tryd.prog ops Q rest (a.put o.dst v') w') : wpList Tryd.prog ops Q (o :: rest) a W := by
  obtain ⟨i0, hi, hz0, hz1, hz2⟩ := info_parts infoElem
  have happ : rowE ls ++ rowE news = rowE (ls ++ news) := by simp [rowE]
  cases B with
  | none =>
    have h0 : news.length = 0 := by
      rcases Nat.eq_zero_or_pos news.length with h0 | h0
      · exact h0
      · obtain ⟨b, off, e, _⟩ := hB h0
        cases e
    obtain rfl : news = [] := List.length_eq_zero_iff.1 h0
    obtain rfl : c2 = 0 := hcB rfl
    refine wpList_append_own_none hgd s x 22 ho base 33 i0 4 Tryd.underlying22 hi v ls.length (rowE ls) hs h hx ?_
    exact hK v W (Lib.hid (by rw [List.append_nil]; exact h)) (fun _ h0 => h0)
  | some ad =>
    have hcell : ∀ j u, (rowE news)[j]? = some u → W.cell? (ad.add j) = some u := by
      intro j u hu
      have h0 : 0 < news.length := by
        obtain ⟨q, _, _, _, hq, _⟩ := rowE_get news j u hu
        omega
      obtain ⟨b, off, e, _⟩ := hB h0
      injection e with e
      subst e
      rw [Go.WideShapes.add_plain]
      exact elems_cells hB j u hu
    refine wpList_append_own W hgd s x 22 ho base 33 i0 _ 4 32 Tryd.underlying22 hi hz0 hz1 hz2 rfl (by decide) v ls.length (rowE ls) hs h ad news.length c2 (rowE news) hx (rowE_length news) hcell
      (fun u hu => by
        simp only [rowE, List.mem_flatMap, elemCells, List.mem_cons, List.not_mem_nil, or_false] at hu
        obtain ⟨d, _, rfl | rfl | rfl | rfl⟩ := hu <;> rfl) (by unfold maxLen; omega) (by omega) hb ?_
    intro v' w' hown' hg _
    refine hK v' w' (Lib.hid ?_) (fun w0 h0 => ?_)
    · unfold OwnE
      rw [List.length_append, ← happ]
      exact hown'
    · exact h0.grown hg hb (fun k e => (h.row k e).1)
theorem OwnE.empty (w : World) (base : Nat) (hb : base ≤ w.heap.size) : OwnE (w.alloc (.cells #[] 33)) base (.slice (some ⟨w.heap.size, 0, none⟩) 0 0) [] :=
  ⟨rfl, .inr ⟨w.heap.size, 0, #[], rfl, hb, heap_alloc_new w _, Nat.le_refl _, Nat.zero_le _, rfl, rfl⟩⟩

set_option maxHeartbeats 4000000 in
set_option maxRecDepth 100000 in
theorem joinsMain (xs ys : List ElemD) (A B : Option Addr) (cap cap2 : Nat) (w : World) (hA : ElemsAt w A xs) (hB : ElemsAt w B ys) (hNA : A = none → cap = 0) (hNB : B = none → cap2 = 0) (hE : EnvF w) (h20 : xs.length ≤ 8) (h21 : ys.length ≤ 8) :
    Calls Tryd.prog 5 #[.slice A xs.length cap, .slice B ys.length cap2] w fun e w' => e = .returned (.bool true) ∧ Below w.heap.size w w' := by
  have hg : decide ((8 : Int) < (xs.length : Int)) = false := by simp; omega
  have hg2 : decide ((8 : Int) < (ys.length : Int)) = false := by simp; omega
  have h1 := fun w' h => elText xs A cap w' h (by omega)
  have h2 := fun w' h => elText ys B cap2 w' h (by omega)
  have h3 := fun C c w' h => elText (xs ++ ys) C c w' h (by simp; omega)
  have hlq1 : ([] : List ElemD).length + xs.length ≤ 1000000 := by simp; omega
  have hlq2 : ([] ++ xs : List ElemD).length + ys.length ≤ 1000000 := by simp; omega
  have hca := chksE_append xs ys
  by_cases c1 : chksE xs = 0
  · rw [if_pos c1] at hca
    rw [textE_of xs, if_pos c1] at h1
    have hlx : (xs.flatMap oneE).length ≤ 200 := by rw [flatE_length]; omega
    by_cases c2 : chksE ys = 0
    · rw [textE_of ys, if_pos c2] at h2
      rw [textE_of (xs ++ ys), hca, if_pos c2] at h3
      have hly : (ys.flatMap oneE).length ≤ 200 := by rw [flatE_length]; omega
      have hcat : (⟨(xs.flatMap oneE).toArray⟩ : ByteArray) ++ ⟨(ys.flatMap oneE).toArray⟩ = ⟨((xs ++ ys).flatMap oneE).toArray⟩ := by rw [catE, List.flatMap_append]
      dsimp only at h1 h2 h3
      generalize xs.flatMap oneE = tx at h1 hlx hcat
      generalize ys.flatMap oneE = ty at h2 hly hcat
      generalize (xs ++ ys).flatMap oneE = tz at h3 hcat
      have H1 := Lib.hid h1
      have H2 := Lib.hid h2
      have H3 := Lib.hid h3
      have HA := Lib.hid hA
      have HB := Lib.hid hB
      have HE := Lib.hid hE
      have HNA := Lib.hid hNA
      have HNB := Lib.hid hNB
      clear h1 h2 h3 hA hB hE hNA hNB
      clear hca c1 c2
      go_enter Tryd.func5, Tryd.ntmps5
      go_wp2_with fail
      refine (H1.out _ HA.out).mono ?_
      rintro e w1 ⟨rfl, hb1⟩
      go_wp2_with fail
      refine (H2.out _ (HB.out.keep hb1)).mono ?_
      rintro e w2 ⟨rfl, hb2⟩
      have hw2 : Below w.heap.size w w2 := bUp hb1 hb2
      go_wp2_with (at_builtin; refine wpEA rfl _ _ rfl w2.heap.size rfl (OwnE.empty _ _ (Nat.le_refl _)) xs rfl ((HA.out.keep hw2).keep (bBox _ _)) HNA.out hlq1 (bBox _ _).size ?_)
      intro v3 w3 HO3 hb3
      have hbw3 := hb3 w2 ((Below.refl _ _).alloc (Nat.le_refl _) _)
      have hsz3 := hbw3.size
      clear hb3
      go_wp2_with (at_builtin; refine wpEA rfl _ _ rfl w2.heap.size rfl HO3.out ys rfl (HB.out.keep (bUp hw2 hbw3)) HNB.out hlq2 hsz3 ?_)
      intro v4 w4 HO4 hb4
      generalize xs ++ ys = zs at HO4 H3
      have hbw4 := hb4 w2 hbw3
      clear hb4
      obtain ⟨C, c, rfl, _⟩ := HO4.out.form
      have hw4 : Below w.heap.size w w4 := bUp hw2 hbw4
      have HC := Lib.hid HO4.out.elems
      clear HO3 HO4
      go_wp2_with fail
      refine (H3.out C c _ HC.out).mono ?_
      rintro e w5 ⟨rfl, hb5⟩
      have hw5 : Below w.heap.size w w5 := bUp hw4 hb5
      go_wp2_with fail
      refine (elAlive _ (HE.out.keep hw5)).mono ?_
      rintro e w6 ⟨rfl, hb6⟩
      go_wp2_with fail
      go_ret
      exact ⟨rfl, bUp hw5 hb6⟩
    · rw [textE_of ys, if_neg c2] at h2
      rw [textE_of (xs ++ ys), hca, if_neg c2] at h3
      dsimp only at h1 h2 h3
      have q1 : (chksE ys == 0) = false := by simp [c2]
      have q2 : (chksE ys != 0) = true := by simp [c2]
      generalize xs.flatMap oneE = tx at h1 hlx
      generalize chksE ys = ce at h2 h3 q1 q2
      have q3 : (ce == ce) = true := by simp
      have H1 := Lib.hid h1
      have H2 := Lib.hid h2
      have H3 := Lib.hid h3
      have HA := Lib.hid hA
      have HB := Lib.hid hB
      have HE := Lib.hid hE
      have HNA := Lib.hid hNA
      have HNB := Lib.hid hNB
      clear h1 h2 h3 hA hB hE hNA hNB
      clear hca c1 c2
      go_enter Tryd.func5, Tryd.ntmps5
      go_wp2_with fail
      refine (H1.out _ HA.out).mono ?_
      rintro e w1 ⟨rfl, hb1⟩
      go_wp2_with fail
      refine (H2.out _ (HB.out.keep hb1)).mono ?_
      rintro e w2 ⟨rfl, hb2⟩
      have hw2 : Below w.heap.size w w2 := bUp hb1 hb2
      go_wp2_with (at_builtin; refine wpEA rfl _ _ rfl w2.heap.size rfl (OwnE.empty _ _ (Nat.le_refl _)) xs rfl ((HA.out.keep hw2).keep (bBox _ _)) HNA.out hlq1 (bBox _ _).size ?_)
      intro v3 w3 HO3 hb3
      have hbw3 := hb3 w2 ((Below.refl _ _).alloc (Nat.le_refl _) _)
      have hsz3 := hbw3.size
      clear hb3
      go_wp2_with (at_builtin; refine wpEA rfl _ _ rfl w2.heap.size rfl HO3.out ys rfl (HB.out.keep (bUp hw2 hbw3)) HNB.out hlq2 hsz3 ?_)
      intro v4 w4 HO4 hb4
      generalize xs ++ ys = zs at HO4 H3
      have hbw4 := hb4 w2 hbw3
      clear hb4
      obtain ⟨C, c, rfl, _⟩ := HO4.out.form
      have hw4 : Below w.heap.size w w4 := bUp hw2 hbw4
      have HC := Lib.hid HO4.out.elems
      clear HO3 HO4
      go_wp2_with fail
      refine (H3.out C c _ HC.out).mono ?_
      rintro e w5 ⟨rfl, hb5⟩
      have hw5 : Below w.heap.size w w5 := bUp hw4 hb5
      go_wp2_with fail
      refine (elAlive _ (HE.out.keep hw5)).mono ?_
      rintro e w6 ⟨rfl, hb6⟩
      go_wp2_with fail
      go_ret
      exact ⟨rfl, bUp hw5 hb6⟩
  · rw [if_neg c1] at hca
    rw [textE_of xs, if_neg c1] at h1
    rw [textE_of (xs ++ ys), hca, if_neg c1] at h3
    dsimp only at h1 h3
    have q2 : (chksE xs != 0) = true := by simp [c1]
    generalize chksE xs = ce at h1 h3 q2
    generalize (textE ys).1 = ty at h2
    generalize (textE ys).2 = ey at h2
    have q3 : (ce == ce) = true := by simp
    have H1 := Lib.hid h1
    have H2 := Lib.hid h2
    have H3 := Lib.hid h3
    have HA := Lib.hid hA
    have HB := Lib.hid hB
    have HE := Lib.hid hE
    have HNA := Lib.hid hNA
    have HNB := Lib.hid hNB
    clear h1 h2 h3 hA hB hE hNA hNB
    clear hca c1
    go_enter Tryd.func5, Tryd.ntmps5
    go_wp2_with fail
    refine (H1.out _ HA.out).mono ?_
    rintro e w1 ⟨rfl, hb1⟩
    go_wp2_with fail
    refine (H2.out _ (HB.out.keep hb1)).mono ?_
    rintro e w2 ⟨rfl, hb2⟩
    have hw2 : Below w.heap.size w w2 := bUp hb1 hb2
    go_wp2_with (at_builtin; refine wpEA rfl _ _ rfl w2.heap.size rfl (OwnE.empty _ _ (Nat.le_refl _)) xs rfl ((HA.out.keep hw2).keep (bBox _ _)) HNA.out hlq1 (bBox _ _).size ?_)
    intro v3 w3 HO3 hb3
    have hbw3 := hb3 w2 ((Below.refl _ _).alloc (Nat.le_refl _) _)
    have hsz3 := hbw3.size
    clear hb3
    go_wp2_with (at_builtin; refine wpEA rfl _ _ rfl w2.heap.size rfl HO3.out ys rfl (HB.out.keep (bUp hw2 hbw3)) HNB.out hlq2 hsz3 ?_)
    intro v4 w4 HO4 hb4
    generalize xs ++ ys = zs at HO4 H3
    have hbw4 := hb4 w2 hbw3
    clear hb4
    obtain ⟨C, c, rfl, _⟩ := HO4.out.form
    have hw4 : Below w.heap.size w w4 := bUp hw2 hbw4
    have HC := Lib.hid HO4.out.elems
    clear HO3 HO4
    go_wp2_with fail
    refine (H3.out C c _ HC.out).mono ?_
    rintro e w5 ⟨rfl, hb5⟩
    have hw5 : Below w.heap.size w w5 := bUp hw4 hb5
    go_wp2_with fail
    refine (elAlive _ (HE.out.keep hw5)).mono ?_
    rintro e w6 ⟨rfl, hb6⟩
    go_wp2_with fail
    go_ret
    exact ⟨rfl, bUp hw5 hb6⟩

set_option maxHeartbeats 4000000 in
set_option maxRecDepth 100000 in
theorem lawEJoins (xs ys : List ElemD) (A B : Option Addr) (cap cap2 : Nat) (w : World) (hA : ElemsAt w A xs) (hB : ElemsAt w B ys) (hNA : A = none → cap = 0) (hNB : B = none → cap2 = 0) (hl : xs.length ≤ 9223372036854775807) (hl2 : ys.length ≤ 9223372036854775807) (hE : EnvF w) :
    Calls Tryd.prog 5 #[.slice A xs.length cap, .slice B ys.length cap2] w fun e w' => e = .returned (.bool true) ∧ Below w.heap.size w w' := by
  by_cases h20 : xs.length ≤ 8
  · by_cases h21 : ys.length ≤ 8
    · exact joinsMain xs ys A B cap cap2 w hA hB hNA hNB hE h20 h21
    · have hg : decide ((8 : Int) < (xs.length : Int)) = false := by simp; omega
      have hg2 : decide ((8 : Int) < (ys.length : Int)) = true := by simp; omega
      have HA := Lib.hid hA
      have HB := Lib.hid hB
      have HE := Lib.hid hE
      have HNA := Lib.hid hNA
      have HNB := Lib.hid hNB
      have H20 := Lib.hid h20
      have H21 := Lib.hid h21
      clear hA hB hE hNA hNB h20 h21
      go_enter Tryd.func5, Tryd.ntmps5
      go_wp2_with fail
      refine (elAlive _ HE.out).mono ?_
      rintro e w6 ⟨rfl, hb6⟩
      go_wp2_with fail
      go_ret
      exact ⟨rfl, hb6⟩
  · have hg : decide ((8 : Int) < (xs.length : Int)) = true := by simp; omega
    have HA := Lib.hid hA
    have HB := Lib.hid hB
    have HE := Lib.hid hE
    have HNA := Lib.hid hNA
    have HNB := Lib.hid hNB
    have H20 := Lib.hid h20
    clear hA hB hE hNA hNB h20
    go_enter Tryd.func5, Tryd.ntmps5
    go_wp2_with fail
    refine (elAlive _ HE.out).mono ?_
    rintro e w6 ⟨rfl, hb6⟩
    go_wp2_with fail
    go_ret
    exact ⟨rfl, hb6⟩
end Go.Proofs.YthogkokifiibnaaDoor
