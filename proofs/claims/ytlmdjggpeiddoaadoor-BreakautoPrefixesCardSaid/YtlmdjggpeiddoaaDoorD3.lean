/- named of the reference; checks of tables: sound of both. sound of the program and of the reference. sound of the reference. -/
import Derived.Test.YtlmdjggpeiddoaaDoorD2
namespace Go.Proofs.YtlmdjggpeiddoaaDoor
open Go.RowKit Go.Sort

theorem take_any {ps : List (List UInt8)} {m k : Nat} {p : List UInt8} (hm : m ≤ ps.length) (hk : k < m) : ((ps.take m).drop k).contains p = (piece ps k == p || ((ps.take m).drop (k + 1)).contains p) := by
  have hl : k < (ps.take m).length := by simp; omega
  rw [List.drop_eq_getElem_cons hl, List.contains_cons, Bool.beq_comm]
  congr 2
  unfold piece
  simp only [List.getElem_take]
  rw [List.getD_eq_getElem?_getD, List.getElem?_eq_getElem (by omega)]
  rfl

set_option maxHeartbeats 4000000 in
set_option maxRecDepth 100000 in
theorem rfNamed (ps : List (List UInt8)) (A : Option Addr) (cap : Nat) (w : World) (hA : StrsAt w A ps) (hps : ∀ p ∈ ps, p.length ≤ 9223372036854775807) (hl : ps.length ≤ 1000000) :
    Calls Tryd.prog 29 #[.slice A ps.length cap] w fun e w' => e = .returned (.bool (namesOk ps)) ∧ Below w.heap.size w w' := by
  have HBad := Lib.hid (fun k h hk => names_bad (ps := ps) (k := k) h hk)
  have HN := Lib.hid (show namesOk ps = (decide (1 ≤ ps.length) && decide (ps.length ≤ 60) && namesG ps ps.length) from rfl)
  generalize namesOk ps = r at HN HBad
  have HA := Lib.hid hA
  have Hps := Lib.hid hps
  clear hA hps
  go_enter Tryd.func29, Tryd.ntmps29
  go_wp2_with fail
  go_loopw [3] (fun i wr => ∃ m : Nat, m ≤ ps.length ∧ i = .int .i64 m ∧ Hid (namesG ps m = true) ∧ Below w.heap.size w wr) (fun i _ => ps.length - (intOf i).toNat)
  case atStart => exact ⟨0, Nat.zero_le _, rfl, Lib.hid rfl, Below.refl _ _⟩
  case round =>
    obtain ⟨m, hm, rfl, HG, hbel⟩ := hrel
    by_cases hlt : m < ps.length
    · have hmi : (m : Int) < ps.length := by omega
      obtain ⟨b, off, rfl, hb, hc⟩ := HA.out.at_ (k := m) hlt
      have hcm : wr.cell? ⟨b, off + m, none⟩ = some (.string ⟨(piece ps m).toArray⟩) := (hbel.cell (p := ⟨b, off + m, none⟩) hb).trans hc
      clear hc
      have hpl := Hps.out _ (piece_mem hlt)
      have HI := Lib.hid (fun w' => rfName (piece ps m) w' hpl)
      have HW := Lib.hid (fun w' => rfWord (piece ps m) w')
      have HB1 := Lib.hid (HBad.out m hlt)
      have HS1 := Lib.hid (fun h => names_step (ps := ps) (k := m) HG.out h)
      have HD := Lib.hid (show goodAt ps m = ((nameB (piece ps m) && !kwB (piece ps m)) && !((ps.take m).contains (piece ps m))) from rfl)
      have HT := Lib.hid (fun k (hk : k < m) => take_any (p := piece ps m) hm hk)
      have HP := Lib.hid (fun k (hk : k < m) => HA.out.at_ (k := k) (by omega))
      generalize goodAt ps m = g at HB1 HS1 HD
      generalize piece ps m = p at hcm hpl HI HW HD HT
      cases hC : nameB p with
      | false =>
        rw [hC] at HI HD
        have HF := Lib.hid (HB1.out (by rw [HD.out]; rfl))
        obtain rfl : r = false := HF.out
        clear HF hC
        go_wp2_with fail
        refine (HI.out _).mono ?_
        rintro e w2 ⟨rfl, rfl⟩
        go_wp2_with fail
        go_ret
        exact ⟨rfl, hbel⟩
      | true =>
        rw [hC, Bool.true_and] at HD
        rw [hC] at HI
        clear hC
        cases hq : kwB p with
        | true =>
          rw [hq] at HW HD
          have HF := Lib.hid (HB1.out (by rw [HD.out]; rfl))
          obtain rfl : r = false := HF.out
          clear HF hq
          go_wp2_with fail
          refine (HI.out _).mono ?_
          rintro e w2 ⟨rfl, rfl⟩
          go_wp2_with fail
          refine (HW.out _).mono ?_
          rintro e w2 ⟨rfl, hb2⟩
          go_wp2_with fail
          go_ret
          exact ⟨rfl, bUp hbel hb2⟩
        | false =>
          rw [hq, Bool.not_false, Bool.true_and] at HD
          rw [hq] at HW
          clear hq
          go_wp2_with fail
          refine (HI.out _).mono ?_
          rintro e w2 ⟨rfl, rfl⟩
          go_wp2_with fail
          refine (HW.out _).mono ?_
          rintro e w2 ⟨rfl, hb2⟩
          have hbel2 := bUp hbel hb2
          have hcm2 := cell_keep hb2 hcm
          clear hbel hb2 hcm
          go_wp2_with fail
          go_loopw [4] (fun i wq => ∃ k : Nat, k ≤ m ∧ i = .int .i64 k ∧ Hid ((ps.take m).contains p = ((ps.take m).drop k).contains p) ∧ Below w2.heap.size w2 wq) (fun i _ => m - (intOf i).toNat)
          case atStart => exact ⟨0, Nat.zero_le _, rfl, Lib.hid rfl, Below.refl _ _⟩
          case round =>
            obtain ⟨k, hk, rfl, HR, hbq⟩ := hrel
            by_cases hlk : k < m
            · have hki : (k : Int) < m := by omega
              have hkp : (k : Int) < ps.length := by omega
              obtain ⟨b', off', e, hb', hck⟩ := HP.out k hlk
              injection e with e
              injection e with e1 e2 _
              subst e1 e2
              have r0 := cell_regrown (cell_keep hbq (cell_keep hbel2 hck))
              have r1 := cell_regrown (cell_keep hbq hcm2)
              have HE := Lib.hid (HR.out.trans (HT.out k hlk))
              clear hck
              generalize piece ps k = q at r0 HE
              cases hqp : (q == p) with
              | true =>
                have HF := Lib.hid (HB1.out (by rw [HD.out, HE.out, hqp]; rfl))
                obtain rfl : r = false := HF.out
                clear HF
                go_wp2_with fail
                refine wp_region_quiet_below (by kernel_rfl) (by kernel_rfl) ?_
                repeat (go_big_quiet_step (fail))
                refine wpQuiet_nil ?_
                rintro _ ⟨⟨dq, osq⟩, rfl⟩
                have hb3 := below_regrown wr dq osq
                generalize grow (redrawn wr dq) osq = w3 at hb3 ⊢
                go_wp2_with fail
                go_ret
                exact ⟨rfl, bUp hbel2 (bUp hbq hb3)⟩
              | false =>
                rw [hqp, Bool.false_or] at HE
                go_wp2_with fail
                refine wp_region_quiet_below (by kernel_rfl) (by kernel_rfl) ?_
                repeat (go_big_quiet_step (fail))
                refine wpQuiet_nil ?_
                rintro _ ⟨⟨dq, osq⟩, rfl⟩
                have hb3 := below_regrown wr dq osq
                generalize grow (redrawn wr dq) osq = w3 at hb3 ⊢
                go_wp2_with fail
                go_roundw
                case rel => exact ⟨k + 1, by omega, by go_num, HE, bUp hbq hb3⟩
                case measure => simp [intOf]; omega
            · obtain rfl : k = m := by omega
              have HF := Lib.hid (HS1.out (by rw [HD.out, HR.out, List.drop_of_length_le (by simp; omega)]; rfl))
              have hkk : ¬ (k : Int) < k := by omega
              go_wp2_with fail
              go_roundw
              case rel => exact ⟨k + 1, by omega, by go_num, HF.out, bUp hbel2 hbq⟩
              case measure => simp [intOf]; omega
    · obtain rfl : m = ps.length := by omega
      have hki : ¬ (ps.length : Int) < ps.length := by omega
      rw [show namesG ps ps.length = true from HG.out] at HN
      by_cases h1 : 1 ≤ ps.length
      · have t1 : decide ((1 : Int) ≤ ps.length) = true := by simp; omega
        have t3 : decide (1 ≤ ps.length) = true := by simpa using h1
        by_cases h2 : ps.length ≤ 60
        · have t2 : decide ((ps.length : Int) ≤ 60) = true := by simp; omega
          have t4 : decide (ps.length ≤ 60) = true := by simpa using h2
          rw [t3, t4] at HN
          have HF : Hid (r = true) := HN
          obtain rfl : r = true := HF.out
          clear HF HN
          go_wp2_with fail
          go_ret
          exact ⟨rfl, hbel⟩
        · have t2 : decide ((ps.length : Int) ≤ 60) = false := by simp; omega
          have t4 : decide (ps.length ≤ 60) = false := by simpa using h2
          rw [t3, t4] at HN
          have HF : Hid (r = false) := HN
          obtain rfl : r = false := HF.out
          clear HF HN
          go_wp2_with fail
          go_ret
          exact ⟨rfl, hbel⟩
      · have t1 : decide ((1 : Int) ≤ ps.length) = false := by simp; omega
        have t3 : decide (1 ≤ ps.length) = false := by simpa using h1
        rw [t3] at HN
        have HF : Hid (r = false) := Lib.hid (by rw [HN.out]; rfl)
        obtain rfl : r = false := HF.out
        clear HF HN
        go_wp2_with fail
        go_ret
        exact ⟨rfl, hbel⟩
end Go.Proofs.YtlmdjggpeiddoaaDoor
namespace Go.Proofs.YtlmdjggpeiddoaaDoor
open Go.RowKit Go.Sort

theorem sound_bad {a : AutoD} {cl ac i : Nat} (h : i < a.next.length) (hs : stateOk cl ac a i = false) : soundB a cl ac = false := by
  unfold soundB
  rw [range_bad h hs, Bool.and_false]
theorem all_bad {P : Int → Bool} {r : List Int} {k : Nat} (h : k < r.length) (hp : P (nth r k) = false) : r.all P = false := by
  rw [← Bool.not_eq_true]
  intro h'
  have := List.all_eq_true.1 h' _ (nth_mem h)
  rw [hp] at this
  cases this
theorem all_step {P : Int → Bool} {r : List Int} {k : Nat} (h : k < r.length) (ha : (r.take k).all P = true) (hp : P (nth r k) = true) : (r.take (k + 1)).all P = true := by
  rw [List.take_succ_eq_append_getElem h, List.all_append, ha, ← nth_lt h]
  simp [hp]
def inSt (st : Nat) (x : Int) : Bool := decide (0 ≤ x) && decide (x < st)
theorem rowOk_of (cl st : Nat) (r : List Int) : rowOk cl st r = (decide (r.length = cl) && r.all (inSt st)) := rfl
theorem marks_drop {n m : Int} {ms : List Int} {k : Nat} (h : k < ms.length) : marksOk n m (ms.drop k) = (decide (m ≤ nth ms k) && decide (nth ms k < n) && marksOk n (nth ms k + 1) (ms.drop (k + 1))) := by
  rw [drop_nth h]
  rfl

set_option maxHeartbeats 8000000 in
set_option maxRecDepth 100000 in
theorem sound (a : AutoD) (A B : Option Addr) (cA cB cl ac : Nat) (w : World) (hN : RowsAt w A a.next) (hM : RowsAt w B a.marks) (hl1 : a.next.length ≤ 1000000) (hl2 : a.marks.length ≤ 1000000)
    (hr1 : ∀ r ∈ a.next, r.length ≤ 1000000) (hr2 : ∀ r ∈ a.marks, r.length ≤ 1000000) (hac : ac ≤ 1000000) :
    Calls Tryd.prog 28 #[.agg #[.slice A a.next.length cA, .slice B a.marks.length cB], .int .i64 cl, .int .i64 ac] w fun e w' => e = .returned (.bool (soundB a cl ac)) ∧ Below w.heap.size w w' := by
  have HBad := Lib.hid (fun i h hs => sound_bad (a := a) (cl := cl) (ac := ac) (i := i) h hs)
  have HS := Lib.hid (show soundB a cl ac = (decide (1 ≤ a.next.length) && decide (a.next.length ≤ 400) && decide (a.marks.length = a.next.length) && (List.range a.next.length).all (stateOk cl ac a)) from rfl)
  have HSt := Lib.hid (fun i => (show stateOk cl ac a i = (rowOk cl a.next.length (rowAt a.next i) && marksOk ac 0 (rowAt a.marks i)) from rfl))
  generalize soundB a cl ac = r at HBad HS
  generalize stateOk cl ac a = st at HBad HS HSt
  obtain ⟨nx, mk⟩ := a
  dsimp only at hN hM hl1 hl2 hr1 hr2 HBad HS HSt ⊢
  have HN := Lib.hid hN
  have HM := Lib.hid hM
  have Hr1 := Lib.hid hr1
  have Hr2 := Lib.hid hr2
  clear hN hM hr1 hr2
  by_cases h1 : 1 ≤ nx.length
  · have t1 : decide (nx.length < 1) = false := decide_eq_false (by omega)
    have t2 : decide ((nx.length : Int) < 1) = false := decide_eq_false (by omega)
    by_cases h2 : nx.length ≤ 400
    · have t3 : decide (400 < nx.length) = false := decide_eq_false (by omega)
      have t4 : decide ((400 : Int) < nx.length) = false := decide_eq_false (by omega)
      by_cases h3 : mk.length = nx.length
      · have t5 : ((mk.length : Int) != nx.length) = false := by simp; omega
        have t6 : (mk.length != nx.length) = false := by simpa using h3
        have hmn : nx.length ≤ mk.length := by omega
        rw [show decide (1 ≤ nx.length) = true from decide_eq_true h1, show decide (nx.length ≤ 400) = true from decide_eq_true h2, show decide (mk.length = nx.length) = true from decide_eq_true h3] at HS
        have H3 := Lib.hid h3
        clear h3
        go_enter Tryd.func28, Tryd.ntmps28
        go_wp2_with fail
        clear t1 t2 t3 t4 t5 t6
        have hbx := bBox w (.cells #[.slice A nx.length cA, .slice B mk.length cB] 26)
        have k0 : (w.alloc (.cells #[.slice A nx.length cA, .slice B mk.length cB] 26)).cell? ⟨w.heap.size, 0, none⟩ = some (.slice A nx.length cA) := cell_box _ _ _ 0
        have k1 : (w.alloc (.cells #[.slice A nx.length cA, .slice B mk.length cB] 26)).cell? ⟨w.heap.size, 1, none⟩ = some (.slice B mk.length cB) := cell_box _ _ _ 1
        have hbk : w.heap.size < (w.alloc (.cells #[.slice A nx.length cA, .slice B mk.length cB] 26)).heap.size := by simp
        generalize w.alloc (.cells #[.slice A nx.length cA, .slice B mk.length cB] 26) = w1 at hbx k0 k1 hbk ⊢
        have HN1 := Lib.hid (HN.out.keep hbx)
        have HM1 := Lib.hid (HM.out.keep hbx)
        clear HN HM
        go_loop [34] (fun i => ∃ m : Nat, m ≤ nx.length ∧ i = .int .i64 m ∧ Hid ((List.range m).all st = true)) (fun i => nx.length - (intOf i).toNat)
        case atStart => exact ⟨0, Nat.zero_le _, rfl, Lib.hid rfl⟩
        case round =>
          obtain ⟨m, hm, rfl, HG⟩ := hrel
          by_cases hlt : m < nx.length
          · have hmi : (m : Int) < nx.length := by omega
            have hmi2 : (m : Int) < mk.length := by omega
            obtain ⟨b1, o1, C1, c1, rfl, hb1, hc1, hI1⟩ := HN1.out.at_ hlt
            obtain ⟨b2, o2, C2, c2, rfl, hb2, hc2, hI2⟩ := HM1.out.at_ (k := m) (by omega)
            have hq1 := Hr1.out _ (rowAt_mem hlt)
            have hq2 := Hr2.out _ (rowAt_mem (rs := mk) (k := m) (by omega))
            have HB1 := Lib.hid (HBad.out m hlt)
            have HS1 := Lib.hid (fun h => range_step (k := m) HG.out h)
            have HD := Lib.hid (HSt.out m)
            generalize st m = g at HB1 HS1 HD
            generalize rowAt nx m = row at hc1 hI1 HD hq1
            generalize rowAt mk m = ms at hc2 hI2 HD hq2
            have HI1 := Lib.hid hI1
            have HI2 := Lib.hid hI2
            clear hI1 hI2
            by_cases hrl : row.length = cl
            · have t1 : ((row.length : Int) != cl) = false := by simp; omega
              have t2 : (row.length != cl) = false := by simpa using hrl
              rw [rowOk_of, show decide (row.length = cl) = true from decide_eq_true hrl, Bool.true_and] at HD
              have Hrl := Lib.hid hrl
              clear hrl
              go_wp2_with fail
              clear t1 t2
              go_loop [45] (fun i => ∃ k : Nat, k ≤ row.length ∧ i = .int .i64 k ∧ Hid ((row.take k).all (inSt nx.length) = true)) (fun i => row.length - (intOf i).toNat)
              case atStart => exact ⟨0, Nat.zero_le _, rfl, Lib.hid rfl⟩
              case round =>
                obtain ⟨k, hk, rfl, HR⟩ := hrel
                by_cases hlk : k < row.length
                · have hki : (k : Int) < row.length := by omega
                  obtain ⟨b3, o3, rfl, hb3, hc3⟩ := HI1.out.at_ hlk
                  have HA1 := Lib.hid (fun h => all_bad (P := inSt nx.length) hlk h)
                  have HA2 := Lib.hid (fun h => all_step (P := inSt nx.length) hlk HR.out h)
                  generalize nth row k = x at hc3 HA1 HA2
                  by_cases hx0 : 0 ≤ x
                  · have t1 : decide (x < 0) = false := decide_eq_false (by omega)
                    by_cases hx1 : x < nx.length
                    · have t2 : decide ((nx.length : Int) ≤ x) = false := decide_eq_false (by omega)
                      have HE := Lib.hid (HA2.out (by unfold inSt; rw [show decide (0 ≤ x) = true from decide_eq_true hx0, show decide (x < (nx.length : Int)) = true from decide_eq_true hx1]; rfl))
                      clear hx0 hx1
                      go_wp2_with fail
                      go_round
                      case rel => exact ⟨k + 1, by omega, by go_num, HE⟩
                      case measure => simp [intOf]; omega
                    · have t2 : decide ((nx.length : Int) ≤ x) = true := decide_eq_true (by omega)
                      have HE := Lib.hid (HA1.out (by unfold inSt; rw [show decide (x < (nx.length : Int)) = false from decide_eq_false hx1, Bool.and_false]))
                      have HF := Lib.hid (HB1.out (by rw [HD.out, HE.out, Bool.false_and]))
                      obtain rfl : r = false := HF.out
                      clear hx0 hx1 HF
                      go_wp2_with fail
                      go_ret
                      exact ⟨rfl, hbx⟩
                  · have t1 : decide (x < 0) = true := decide_eq_true (by omega)
                    have HE := Lib.hid (HA1.out (by unfold inSt; rw [show decide (0 ≤ x) = false from decide_eq_false hx0, Bool.false_and]))
                    have HF := Lib.hid (HB1.out (by rw [HD.out, HE.out, Bool.false_and]))
                    obtain rfl : r = false := HF.out
                    clear hx0 HF
                    go_wp2_with fail
                    go_ret
                    exact ⟨rfl, hbx⟩
                · obtain rfl : k = row.length := by omega
                  have hkk : ¬ (row.length : Int) < row.length := by omega
                  rw [show row.all (inSt nx.length) = true by have := HR.out; rwa [List.take_length] at this, Bool.true_and] at HD
                  clear HR
                  go_wp2_with fail
                  clear hkk
                  go_loop [63, 12] (fun i l => ∃ (k : Nat) (y : Int), k ≤ ms.length ∧ i = .int .i64 k ∧ l = .int .i64 y ∧ 0 ≤ y ∧ y ≤ ac ∧ Hid (marksOk ac 0 ms = marksOk ac y (ms.drop k))) (fun i _ => ms.length - (intOf i).toNat)
                  case atStart => exact ⟨0, 0, Nat.zero_le _, rfl, rfl, by omega, by omega, Lib.hid rfl⟩
                  case round =>
                    obtain ⟨k, y, hk, rfl, rfl, hy0, hy1, HR⟩ := hrel
                    by_cases hlk : k < ms.length
                    · have hki : (k : Int) < ms.length := by omega
                      obtain ⟨b3, o3, rfl, hb3, hc3⟩ := HI2.out.at_ hlk
                      have HE := Lib.hid (HR.out.trans (marks_drop hlk))
                      generalize nth ms k = x at hc3 HE
                      by_cases hx0 : y ≤ x
                      · have t1 : decide (x < y) = false := decide_eq_false (by omega)
                        rw [show decide (y ≤ x) = true from decide_eq_true hx0, Bool.true_and] at HE
                        by_cases hx1 : x < ac
                        · have t2 : decide ((ac : Int) ≤ x) = false := decide_eq_false (by omega)
                          rw [show decide (x < (ac : Int)) = true from decide_eq_true hx1, Bool.true_and] at HE
                          have hx2 : 0 ≤ x := by omega
                          have hx3 : x ≤ 1000000 := by omega
                          clear hx0
                          go_wp2_with fail
                          go_round
                          case rel => exact ⟨k + 1, x + 1, by omega, by go_num, by go_num, by omega, by omega, HE⟩
                          case measure => simp [intOf]; omega
                        · have t2 : decide ((ac : Int) ≤ x) = true := decide_eq_true (by omega)
                          rw [show decide (x < (ac : Int)) = false from decide_eq_false hx1, Bool.false_and] at HE
                          have HF := Lib.hid (HB1.out (by rw [HD.out, HE.out]))
                          obtain rfl : r = false := HF.out
                          clear hx0 hx1 HF
                          go_wp2_with fail
                          go_ret
                          exact ⟨rfl, hbx⟩
                      · have t1 : decide (x < y) = true := decide_eq_true (by omega)
                        rw [show decide (y ≤ x) = false from decide_eq_false hx0, Bool.false_and, Bool.false_and] at HE
                        have HF := Lib.hid (HB1.out (by rw [HD.out, HE.out]))
                        obtain rfl : r = false := HF.out
                        clear hx0 HF
                        go_wp2_with fail
                        go_ret
                        exact ⟨rfl, hbx⟩
                    · obtain rfl : k = ms.length := by omega
                      have hkk : ¬ (ms.length : Int) < ms.length := by omega
                      have HE := Lib.hid (HS1.out (by rw [HD.out, HR.out, List.drop_length]; rfl))
                      clear hy0 hy1
                      go_wp2_with fail
                      go_round
                      case rel => exact ⟨m + 1, by omega, by go_num, HE⟩
                      case measure => simp [intOf]; omega
            · have t1 : ((row.length : Int) != cl) = true := by simp; omega
              have t2 : (row.length != cl) = true := by simpa using hrl
              have HF := Lib.hid (HB1.out (by rw [HD.out, rowOk_of, show decide (row.length = cl) = false from decide_eq_false hrl]; rfl))
              obtain rfl : r = false := HF.out
              clear HF
              go_wp2_with fail
              go_ret
              exact ⟨rfl, hbx⟩
          · obtain rfl : m = nx.length := by omega
            have hki : ¬ (nx.length : Int) < nx.length := by omega
            have HF : Hid (r = true) := Lib.hid (by rw [HS.out, HG.out]; rfl)
            obtain rfl : r = true := HF.out
            clear HF HS
            go_wp2_with fail
            go_ret
            exact ⟨rfl, hbx⟩
      · have t5 : ((mk.length : Int) != nx.length) = true := by simp; omega
        have t6 : (mk.length != nx.length) = true := by simpa using h3
        have HF : Hid (r = false) := Lib.hid (by rw [HS.out, show decide (mk.length = nx.length) = false from decide_eq_false h3, Bool.and_false, Bool.false_and])
        obtain rfl : r = false := HF.out
        clear HF HS
        go_enter Tryd.func28, Tryd.ntmps28
        go_wp2_with fail
        go_ret
        exact ⟨rfl, bBox w _⟩
    · have t3 : decide (400 < nx.length) = true := decide_eq_true (by omega)
      have t4 : decide ((400 : Int) < nx.length) = true := decide_eq_true (by omega)
      have HF : Hid (r = false) := Lib.hid (by rw [HS.out, show decide (nx.length ≤ 400) = false from decide_eq_false h2, Bool.and_false, Bool.false_and, Bool.false_and])
      obtain rfl : r = false := HF.out
      clear HF HS
      go_enter Tryd.func28, Tryd.ntmps28
      go_wp2_with fail
      go_ret
      exact ⟨rfl, bBox w _⟩
  · have t1 : decide (nx.length < 1) = true := decide_eq_true (by omega)
    have t2 : decide ((nx.length : Int) < 1) = true := decide_eq_true (by omega)
    have HF : Hid (r = false) := Lib.hid (by rw [HS.out, show decide (1 ≤ nx.length) = false from decide_eq_false h1]; rfl)
    obtain rfl : r = false := HF.out
    clear HF HS
    go_enter Tryd.func28, Tryd.ntmps28
    go_wp2_with fail
    go_ret
    exact ⟨rfl, bBox w _⟩
end Go.Proofs.YtlmdjggpeiddoaaDoor
namespace Go.Proofs.YtlmdjggpeiddoaaDoor
open Go.RowKit Go.Sort

set_option maxHeartbeats 8000000 in
set_option maxRecDepth 100000 in
theorem rfSound (a : AutoD) (A B : Option Addr) (cA cB cl ac : Nat) (w : World) (hN : RowsAt w A a.next) (hM : RowsAt w B a.marks) (hl1 : a.next.length ≤ 1000000) (hl2 : a.marks.length ≤ 1000000)
    (hr1 : ∀ r ∈ a.next, r.length ≤ 1000000) (hr2 : ∀ r ∈ a.marks, r.length ≤ 1000000) (hac : ac ≤ 1000000) :
    Calls Tryd.prog 30 #[.agg #[.slice A a.next.length cA, .slice B a.marks.length cB], .int .i64 cl, .int .i64 ac] w fun e w' => e = .returned (.bool (soundB a cl ac)) ∧ Below w.heap.size w w' := by
  have HBad := Lib.hid (fun i h hs => sound_bad (a := a) (cl := cl) (ac := ac) (i := i) h hs)
  have HS := Lib.hid (show soundB a cl ac = (decide (1 ≤ a.next.length) && decide (a.next.length ≤ 400) && decide (a.marks.length = a.next.length) && (List.range a.next.length).all (stateOk cl ac a)) from rfl)
  have HSt := Lib.hid (fun i => (show stateOk cl ac a i = (rowOk cl a.next.length (rowAt a.next i) && marksOk ac 0 (rowAt a.marks i)) from rfl))
  generalize soundB a cl ac = r at HBad HS
  generalize stateOk cl ac a = st at HBad HS HSt
  obtain ⟨nx, mk⟩ := a
  dsimp only at hN hM hl1 hl2 hr1 hr2 HBad HS HSt ⊢
  have HN := Lib.hid hN
  have HM := Lib.hid hM
  have Hr1 := Lib.hid hr1
  have Hr2 := Lib.hid hr2
  clear hN hM hr1 hr2
  by_cases h1 : 1 ≤ nx.length
  · have t1 : decide (nx.length < 1) = false := decide_eq_false (by omega)
    have t2 : decide ((nx.length : Int) < 1) = false := decide_eq_false (by omega)
    by_cases h2 : nx.length ≤ 400
    · have t3 : decide (400 < nx.length) = false := decide_eq_false (by omega)
      have t4 : decide ((400 : Int) < nx.length) = false := decide_eq_false (by omega)
      by_cases h3 : mk.length = nx.length
      · have t5 : ((mk.length : Int) != nx.length) = false := by simp; omega
        have t6 : (mk.length != nx.length) = false := by simpa using h3
        have hmn : nx.length ≤ mk.length := by omega
        rw [show decide (1 ≤ nx.length) = true from decide_eq_true h1, show decide (nx.length ≤ 400) = true from decide_eq_true h2, show decide (mk.length = nx.length) = true from decide_eq_true h3] at HS
        have H3 := Lib.hid h3
        clear h3
        go_enter Tryd.func30, Tryd.ntmps30
        go_wp2_with fail
        clear t1 t2 t3 t4 t5 t6
        have hbx := bBox w (.cells #[.slice A nx.length cA, .slice B mk.length cB] 26)
        have k0 : (w.alloc (.cells #[.slice A nx.length cA, .slice B mk.length cB] 26)).cell? ⟨w.heap.size, 0, none⟩ = some (.slice A nx.length cA) := cell_box _ _ _ 0
        have k1 : (w.alloc (.cells #[.slice A nx.length cA, .slice B mk.length cB] 26)).cell? ⟨w.heap.size, 1, none⟩ = some (.slice B mk.length cB) := cell_box _ _ _ 1
        have hbk : w.heap.size < (w.alloc (.cells #[.slice A nx.length cA, .slice B mk.length cB] 26)).heap.size := by simp
        generalize w.alloc (.cells #[.slice A nx.length cA, .slice B mk.length cB] 26) = w1 at hbx k0 k1 hbk ⊢
        have HN1 := Lib.hid (HN.out.keep hbx)
        have HM1 := Lib.hid (HM.out.keep hbx)
        clear HN HM
        go_loop [8] (fun i => ∃ m : Nat, m ≤ nx.length ∧ i = .int .i64 m ∧ Hid ((List.range m).all st = true)) (fun i => nx.length - (intOf i).toNat)
        case atStart => exact ⟨0, Nat.zero_le _, rfl, Lib.hid rfl⟩
        case round =>
          obtain ⟨m, hm, rfl, HG⟩ := hrel
          by_cases hlt : m < nx.length
          · have hmi : (m : Int) < nx.length := by omega
            have hmi2 : (m : Int) < mk.length := by omega
            obtain ⟨b1, o1, C1, c1, rfl, hb1, hc1, hI1⟩ := HN1.out.at_ hlt
            obtain ⟨b2, o2, C2, c2, rfl, hb2, hc2, hI2⟩ := HM1.out.at_ (k := m) (by omega)
            have hq1 := Hr1.out _ (rowAt_mem hlt)
            have hq2 := Hr2.out _ (rowAt_mem (rs := mk) (k := m) (by omega))
            have HB1 := Lib.hid (HBad.out m hlt)
            have HS1 := Lib.hid (fun h => range_step (k := m) HG.out h)
            have HD := Lib.hid (HSt.out m)
            generalize st m = g at HB1 HS1 HD
            generalize rowAt nx m = row at hc1 hI1 HD hq1
            generalize rowAt mk m = ms at hc2 hI2 HD hq2
            have HI1 := Lib.hid hI1
            have HI2 := Lib.hid hI2
            clear hI1 hI2
            by_cases hrl : row.length = cl
            · have t1 : ((row.length : Int) != cl) = false := by simp; omega
              have t2 : (row.length != cl) = false := by simpa using hrl
              rw [rowOk_of, show decide (row.length = cl) = true from decide_eq_true hrl, Bool.true_and] at HD
              subst hrl
              go_wp2_with fail
              clear t1 t2
              go_loop [9] (fun i => ∃ k : Nat, k ≤ row.length ∧ i = .int .i64 k ∧ Hid ((row.take k).all (inSt nx.length) = true)) (fun i => row.length - (intOf i).toNat)
              case atStart => exact ⟨0, Nat.zero_le _, rfl, Lib.hid rfl⟩
              case round =>
                obtain ⟨k, hk, rfl, HR⟩ := hrel
                by_cases hlk : k < row.length
                · have hki : (k : Int) < row.length := by omega
                  obtain ⟨b3, o3, rfl, hb3, hc3⟩ := HI1.out.at_ hlk
                  have HA1 := Lib.hid (fun h => all_bad (P := inSt nx.length) hlk h)
                  have HA2 := Lib.hid (fun h => all_step (P := inSt nx.length) hlk HR.out h)
                  generalize nth row k = x at hc3 HA1 HA2
                  by_cases hx0 : 0 ≤ x
                  · have t1 : decide (x < 0) = false := decide_eq_false (by omega)
                    by_cases hx1 : x < nx.length
                    · have t2 : decide ((nx.length : Int) ≤ x) = false := decide_eq_false (by omega)
                      have HE := Lib.hid (HA2.out (by unfold inSt; rw [show decide (0 ≤ x) = true from decide_eq_true hx0, show decide (x < (nx.length : Int)) = true from decide_eq_true hx1]; rfl))
                      clear hx0 hx1
                      go_wp2_with fail
                      go_round
                      case rel => exact ⟨k + 1, by omega, by go_num, HE⟩
                      case measure => simp [intOf]; omega
                    · have t2 : decide ((nx.length : Int) ≤ x) = true := decide_eq_true (by omega)
                      have HE := Lib.hid (HA1.out (by unfold inSt; rw [show decide (x < (nx.length : Int)) = false from decide_eq_false hx1, Bool.and_false]))
                      have HF := Lib.hid (HB1.out (by rw [HD.out, HE.out, Bool.false_and]))
                      obtain rfl : r = false := HF.out
                      clear hx0 hx1 HF
                      go_wp2_with fail
                      go_ret
                      exact ⟨rfl, hbx⟩
                  · have t1 : decide (x < 0) = true := decide_eq_true (by omega)
                    have HE := Lib.hid (HA1.out (by unfold inSt; rw [show decide (0 ≤ x) = false from decide_eq_false hx0, Bool.false_and]))
                    have HF := Lib.hid (HB1.out (by rw [HD.out, HE.out, Bool.false_and]))
                    obtain rfl : r = false := HF.out
                    clear hx0 HF
                    go_wp2_with fail
                    go_ret
                    exact ⟨rfl, hbx⟩
                · obtain rfl : k = row.length := by omega
                  have hkk : ¬ (row.length : Int) < row.length := by omega
                  rw [show row.all (inSt nx.length) = true by have := HR.out; rwa [List.take_length] at this, Bool.true_and] at HD
                  clear HR
                  go_wp2_with fail
                  clear hkk
                  go_loop [11, 10] (fun i l => ∃ (k : Nat) (y : Int), k ≤ ms.length ∧ i = .int .i64 k ∧ l = .int .i64 y ∧ -1 ≤ y ∧ y ≤ ac ∧ Hid (marksOk ac 0 ms = marksOk ac (y + 1) (ms.drop k))) (fun i _ => ms.length - (intOf i).toNat)
                  case atStart => exact ⟨0, -1, Nat.zero_le _, rfl, rfl, by omega, by omega, Lib.hid rfl⟩
                  case round =>
                    obtain ⟨k, y, hk, rfl, rfl, hy0, hy1, HR⟩ := hrel
                    by_cases hlk : k < ms.length
                    · have hki : (k : Int) < ms.length := by omega
                      obtain ⟨b3, o3, rfl, hb3, hc3⟩ := HI2.out.at_ hlk
                      have HE := Lib.hid (HR.out.trans (marks_drop hlk))
                      generalize nth ms k = x at hc3 HE
                      by_cases hx0 : y + 1 ≤ x
                      · have t1 : decide (x ≤ y) = false := decide_eq_false (by omega)
                        rw [show decide (y + 1 ≤ x) = true from decide_eq_true hx0, Bool.true_and] at HE
                        by_cases hx1 : x < ac
                        · have t2 : decide ((ac : Int) ≤ x) = false := decide_eq_false (by omega)
                          rw [show decide (x < (ac : Int)) = true from decide_eq_true hx1, Bool.true_and] at HE
                          have hx2 : 0 ≤ x := by omega
                          have hx3 : x ≤ 1000000 := by omega
                          clear hx0
                          go_wp2_with fail
                          go_round
                          case rel => exact ⟨k + 1, x, by omega, by go_num, rfl, by omega, by omega, HE⟩
                          case measure => simp [intOf]; omega
                        · have t2 : decide ((ac : Int) ≤ x) = true := decide_eq_true (by omega)
                          rw [show decide (x < (ac : Int)) = false from decide_eq_false hx1, Bool.false_and] at HE
                          have HF := Lib.hid (HB1.out (by rw [HD.out, HE.out]))
                          obtain rfl : r = false := HF.out
                          clear hx0 hx1 HF
                          go_wp2_with fail
                          go_ret
                          exact ⟨rfl, hbx⟩
                      · have t1 : decide (x ≤ y) = true := decide_eq_true (by omega)
                        rw [show decide (y + 1 ≤ x) = false from decide_eq_false hx0, Bool.false_and, Bool.false_and] at HE
                        have HF := Lib.hid (HB1.out (by rw [HD.out, HE.out]))
                        obtain rfl : r = false := HF.out
                        clear hx0 HF
                        go_wp2_with fail
                        go_ret
                        exact ⟨rfl, hbx⟩
                    · obtain rfl : k = ms.length := by omega
                      have hkk : ¬ (ms.length : Int) < ms.length := by omega
                      have HE := Lib.hid (HS1.out (by rw [HD.out, HR.out, List.drop_length]; rfl))
                      clear hy0 hy1
                      go_wp2_with fail
                      go_round
                      case rel => exact ⟨m + 1, by omega, by go_num, HE⟩
                      case measure => simp [intOf]; omega
            · have t1 : ((row.length : Int) != cl) = true := by simp; omega
              have t2 : (row.length != cl) = true := by simpa using hrl
              have HF := Lib.hid (HB1.out (by rw [HD.out, rowOk_of, show decide (row.length = cl) = false from decide_eq_false hrl]; rfl))
              obtain rfl : r = false := HF.out
              clear HF
              go_wp2_with fail
              go_ret
              exact ⟨rfl, hbx⟩
          · obtain rfl : m = nx.length := by omega
            have hki : ¬ (nx.length : Int) < nx.length := by omega
            have HF : Hid (r = true) := Lib.hid (by rw [HS.out, HG.out]; rfl)
            obtain rfl : r = true := HF.out
            clear HF HS
            go_wp2_with fail
            go_ret
            exact ⟨rfl, hbx⟩
      · have t5 : ((mk.length : Int) != nx.length) = true := by simp; omega
        have t6 : (mk.length != nx.length) = true := by simpa using h3
        have HF : Hid (r = false) := Lib.hid (by rw [HS.out, show decide (mk.length = nx.length) = false from decide_eq_false h3, Bool.and_false, Bool.false_and])
        obtain rfl : r = false := HF.out
        clear HF HS
        go_enter Tryd.func30, Tryd.ntmps30
        go_wp2_with fail
        go_ret
        exact ⟨rfl, bBox w _⟩
    · have t3 : decide (400 < nx.length) = true := decide_eq_true (by omega)
      have t4 : decide ((400 : Int) < nx.length) = true := decide_eq_true (by omega)
      have HF : Hid (r = false) := Lib.hid (by rw [HS.out, show decide (nx.length ≤ 400) = false from decide_eq_false h2, Bool.and_false, Bool.false_and, Bool.false_and])
      obtain rfl : r = false := HF.out
      clear HF HS
      go_enter Tryd.func30, Tryd.ntmps30
      go_wp2_with fail
      go_ret
      exact ⟨rfl, bBox w _⟩
  · have t1 : decide (nx.length < 1) = true := decide_eq_true (by omega)
    have t2 : decide ((nx.length : Int) < 1) = true := decide_eq_true (by omega)
    have HF : Hid (r = false) := Lib.hid (by rw [HS.out, show decide (1 ≤ nx.length) = false from decide_eq_false h1]; rfl)
    obtain rfl : r = false := HF.out
    clear HF HS
    go_enter Tryd.func30, Tryd.ntmps30
    go_wp2_with fail
    go_ret
    exact ⟨rfl, bBox w _⟩
end Go.Proofs.YtlmdjggpeiddoaaDoor
